/- Contracts. -/
import Derived.Test.YtjakcjmjlfdeoaaGreatAeInl
import Derived.Test.YtjakcjmjlfdeoaaGreatAeEq
namespace Go.AE
open Go Go.RowKit Go.Proofs.Tryz
set_option maxRecDepth 100000
set_option maxHeartbeats 2000000
set_option linter.unusedVariables false
abbrev Q0 (p:Prop):Prop:=(p/\p)
theorem q0 {p:Prop} (h:p):Q0 p:=⟨h,h⟩
abbrev Q1 (p:Prop):Prop:=((p/\p)/\p)
theorem q1 {p:Prop} (h:p):Q1 p:=⟨⟨h,h⟩,h⟩
abbrev Q2 (p:Prop):Prop:=((p/\p)/\(p/\(p/\p))/\(p/\(p/\p)))
theorem q2 {p:Prop} (h:p):Q2 p:=⟨⟨h,h⟩,⟨h,⟨h,h⟩⟩,⟨h,⟨h,h⟩⟩⟩
abbrev Q3 (p:Prop):Prop:=(p/\(p/\p))
theorem q3 {p:Prop} (h:p):Q3 p:=⟨h,⟨h,h⟩⟩
abbrev Q4 (p:Prop):Prop:=(p/\(p/\(p/\p)))
theorem q4 {p:Prop} (h:p):Q4 p:=⟨h,⟨h,⟨h,h⟩⟩⟩
abbrev Q5 (p:Prop):Prop:=((p/\(p/\p))/\((p/\p)/\p))
theorem q5 {p:Prop} (h:p):Q5 p:=⟨⟨h,⟨h,h⟩⟩,⟨⟨h,h⟩,h⟩⟩
def c60:Con:=⟨[.dat aE,.dat aE,.dat aE],fun args hp K=>g3 (pD aE) (pD aE) (pD aE) (fun n low high=>K (dB (M.inR n low high)) []) args hp,.plain,false⟩
abbrev C60:Ctx:=cx [] 15 [] 0 false
def ann60:=an [[kp 7],[kp 64]] []
theorem vc60 (n:Int) (low:Int) (high:Int) (K:KA):vcT C60 aA ann60 f60 [dI n,dI low,dI high] [] (.dat Ty.bool) K =
 (cond ((decide (low<=n))==true) (K (dB (decide (n<=high))) []) (K (dB false) [])):=by kernel_rfl
theorem con60_ok:bg P 60 c60:=bq C60 func60 kN fun args hp K h0=>by
 obtain⟨n,low,high,rfl,rfl,hK⟩:=g3e h0
 have h:ok (F.qg n low high) (fun r=>K (dB r) []):=az (F.yq n low high) hK
 refine⟨rfl,ann60,aA,(.dat Ty.bool),(aG (by kernel_rfl)),?_⟩
 ·rw[vc60]
  exact(oC h (fun _ h=>h) fun _ h=>h)
def c143:Con:=⟨[.dat Ty.str],fun args hp K=>g1 (pD Ty.str) (fun s=>(Sm Ty.str s)/\K (dB (M.lower (bY s))) []) args hp,.plain,false⟩
abbrev C143:Ctx:=cx [(60,c60)] 17 [] 0 false
def ann143:=an [[kp 1],[kp 448],[kp 960],[kp 464],[kp 33216],[kp 4],[kp 448],[kp 4]] [[kp 0]]
abbrev s143_0 (s:ByteArray) (i0:Int) (v0:Unit):St:=⟨[(6,.data TBy (bY s)),(7,dI ((bY s).length:Int)),(8,dI i0)],[]⟩
abbrev LP143_0 (s:ByteArray) (m:Nat) (st_:St) (K:KX):Prop:=True/\bF (t:=(Ty.int .u8)) (s143_0 s) (bY s) (F.ja s) (fun v0:Unit=>True) (br (fun v0:Unit=>True->K (.exit 0) (⟨[],[]⟩:St)) (fun q0:Unit=>K .ret (⟨[(2,dB false)],[]⟩:St))) m st_
def L143 (s:ByteArray):bE:=lp1 0 (LP143_0 s)
theorem vc143 (s:ByteArray) (K:KA):vcT C143 (L143 s) ann143 f143 [.data Ty.str s] [] (.dat Ty.bool) K =
 (∃m_,True/\bF (t:=(Ty.int .u8)) (s143_0 s) (bY s) (F.ja s) (fun v0:Unit=>True) (br (fun v0:Unit=>True->K (dB true) []) (fun q0:Unit=>K (dB false) [])) m_ (s143_0 s Z0 ())):=by kernel_rfl
theorem lvc143_0 (s:ByteArray)  (i0:Int) (v0:Unit) (m:Nat) (K:KX):lvT C143 (L143 s) ann143 f143 0 0 (s143_0 s i0 v0) m K =
 (cond (decide (i0<((bY s).length:Int))) ((0<=i0)/\(i0<((bY s).length:Int))/\cond (!(M.inR (wrap64 (nth (t:=(Ty.int .u8)) (bY s) i0)) (97:Int) (122:Int))) (K .ret (⟨[(2,dB false)],[]⟩:St)) (nxT (LP143_0 s) m K (s143_0 s (wrap64 (i0+Z1)) ()))) (K (.exit 0) (⟨[],[]⟩:St))):=by kernel_rfl
theorem con143_ok:bg P 143 c143:=bq C143 func143 (kC con60_ok kN) fun args hp K h0=>by
 obtain⟨s,rfl,rfl,h_s,hK⟩:=g1e h0
 have h:ok (F.qa s) (fun r=>K (dB r) []):=az (F.ym s h_s) hK
 refine⟨rfl,ann143,(L143 s),(.dat Ty.bool),(bA (i0:=0) (by kernel_rfl) ?_),?_⟩
 ·rintro _ _ K ⟨hc0,i0,v0,rfl,hl0,rfl,hv0,h⟩
  exact cast (lvc143_0 _ _ _ _ _).symm (bf (t:=(Ty.int .u8)) hl0 h (fun ht0 h=>⟨hl0,⟨ht0,(oC h (fun _ h=>h) fun _ h=>(aQ (t:=(Ty.int .u8)) (fun _ hm=>⟨hc0,hm⟩) _ rfl hl0 ht0 (aZ (HO h_s)) trivial h))⟩⟩) fun h=>(h trivial))
 ·rw[vc143]
  exact(aR (t:=(Ty.int .u8)) (fun m hm=>⟨trivial,hm⟩) _ rfl trivial (aU h (fun v0 h hv0=>h) (fun q0 h=>h)))
def c91:Con:=⟨[.dat aa],fun args hp K=>g1 (pD aa) (fun v=>(Sm aa v)/\K (dB (M.aM v)) []) args hp,.plain,false⟩
abbrev C91:Ctx:=cx [(60,c60),(143,c143)] 46 [] 0 false
def ann91:=an [[.fixRow 1 aa,kp 2],[kp 18],[kp 50],[kp 4],[kp 1042],[kp 4],[kp 1048594],[kp 4],[.keep [1,36]],[kp 4],[kp 4]] []
theorem vc91 (v:aa.D) (K:KA):vcT C91 aA ann91 f91 [.data aa v] [] (.dat Ty.bool) K =
 (cond (decide (v.1=Z0)) (K (dB (Ty.beq aa v (Z0,(Z0,((⟨#[]⟩:ByteArray),()))))) []) (cond (decide (v.1=Z1)) (cond ((decide (v.2.2.1=(⟨#[]⟩:ByteArray)))==true) (K (dB (M.inR v.2.1 (-9999:Int) (9999:Int))) []) (K (dB false) [])) (cond (decide (v.1=Z2)) (cond ((decide (v.2.1=Z0))==true) (cond ((decide ((v.2.2.1.size:Int)<=Z6))==true) ((Sm Ty.str v.2.2.1)/\K (dB (M.lower (bY v.2.2.1))) []) (K (dB false) [])) (K (dB false) [])) (cond (decide (v.1=Z3)) (cond ((decide (v.2.2.1=(⟨#[]⟩:ByteArray)))==true) (K (dB (M.inR v.2.1 Z0 Z1)) []) (K (dB false) [])) (K (dB false) []))))):=by kernel_rfl
theorem con91_ok:bg P 91 c91:=bq C91 func91 (kC con60_ok (kC con143_ok kN)) fun args hp K h0=>by
 obtain⟨v,rfl,rfl,h_v,hK⟩:=g1e h0
 have h:ok (F.oz v) (fun r=>K (dB r) []):=az (F.xl v h_v) hK
 refine⟨rfl,ann91,aA,(.dat Ty.bool),(aG (by kernel_rfl)),?_⟩
 ·rw[vc91]
  exact(oC h (fun _ h=>h) fun _ h=>(oC h (fun _ h=>(oC h (fun _ h=>h) fun _ h=>h)) fun _ h=>(oC h (fun _ h=>(oC h (fun _ h=>(oC h (fun _ h=>⟨h_v.2.2.1,h⟩) fun _ h=>h)) fun _ h=>h)) fun _ h=>(oC h (fun _ h=>(oC h (fun _ h=>h) fun _ h=>h)) fun _ h=>h))))
def c46:Con:=⟨[.dat aa],fun args hp K=>g1 (pD aa) (fun v=>(Sm aa v)/\K (dB (M.aM v)) []) args hp,.plain,false⟩
abbrev C46:Ctx:=cx [(91,c91)] 5 [] 0 false
def ann46:=an [[.fixRow 1 aa,kp 2],[kp 4]] []
theorem vc46 (v:aa.D) (K:KA):vcT C46 aA ann46 f46 [.data aa v] [] (.dat Ty.bool) K =
 ((Sm aa v)/\K (dB (M.aM v)) []):=by kernel_rfl
theorem con46_ok:bg P 46 c46:=bq C46 func46 (kC con91_ok kN) fun args hp K h0=>by
 obtain⟨v,rfl,rfl,h_v,hK⟩:=g1e h0
 have h:ok (F.uz v) (fun r=>K (dB r) []):=az (F.xX v h_v) hK
 refine⟨rfl,ann46,aA,(.dat Ty.bool),(aG (by kernel_rfl)),?_⟩
 ·rw[vc46]
  exact⟨h_v,h⟩
def c15:Con:=⟨[],fun args hp K=>GY (K (dB true) []) args hp,.plain,false⟩
abbrev C15:Ctx:=cx [(46,c46)] 8 [] 0 false
def ann15:=an [[kp 0],[kp 1]] []
theorem vc15  (K:KA):vcT C15 aA ann15 f15 [] [] (.dat Ty.bool) K =
 ((Sm aa (Z1,(Z3,((⟨#[]⟩:ByteArray),()))))/\cond ((M.aM (Z1,(Z3,((⟨#[]⟩:ByteArray),()))))==true) ((Sm aa ((9:Int),(Z0,((⟨#[]⟩:ByteArray),()))))/\K (dB (!(M.aM ((9:Int),(Z0,((⟨#[]⟩:ByteArray),())))))) []) (K (dB false) [])):=by kernel_rfl
theorem con15_ok:bg P 15 c15:=bq C15 func15 (kC con46_ok kN) fun args hp K h0=>by
 obtain⟨rfl,rfl,h1⟩:=Ff h0
 have hK:=h1
 have h:ok (F.ua) (fun r=>K (dB r) []):=az (F.AP) hK
 refine⟨rfl,ann15,aA,(.dat Ty.bool),(aG (by kernel_rfl)),?_⟩
 ·rw[vc15]
  exact⟨(show Sm aa _ from⟨trivial,(show Sm (Ty.pair aE (Ty.pair Ty.str Ty.unit)) _ from⟨trivial,(show Sm (Ty.pair Ty.str Ty.unit) _ from⟨(Nat.le_of_ble_eq_true rfl),trivial⟩)⟩)⟩),(oC h (fun _ h=>⟨(show Sm aa _ from⟨trivial,(show Sm (Ty.pair aE (Ty.pair Ty.str Ty.unit)) _ from⟨trivial,(show Sm (Ty.pair Ty.str Ty.unit) _ from⟨(Nat.le_of_ble_eq_true rfl),trivial⟩)⟩)⟩),h⟩) fun _ h=>h)⟩
def c54:Con:=⟨[.dat TVS,.dat TVS],fun args hp K=>g2 (pD TVS) (pD TVS) (fun a b=>(Sm TVS a)/\(Sm TVS b)/\(a=b)/\K (dB true) []) args hp,.plain,false⟩
abbrev C54:Ctx:=cx [] 26 [] 0 false
def ann54:=an [[kp 3],[kp 1027],[kp 16],[kp 35],[kp 16419],[kp 35],[kp 33554467],[kp 16],[kp 16]] [[kp 0]]
abbrev s54_0 (a:LV) (b:LV) (i0:Int) (v0:Unit):St:=⟨[(0,.data TVS a),(1,.data TVS b),(5,dI i0)],[]⟩
abbrev LP54_0 (a:LV) (b:LV) (m:Nat) (st_:St) (K:KX):Prop:=True/\cI (s54_0 a b) Z0 (a.length:Int) (F.jb a b) (fun v0:Unit=>True) (br (fun v0:Unit=>True->K (.exit 0) (⟨[],[]⟩:St)) (fun q0:Unit=>K .ret (⟨[(4,dB false)],[]⟩:St))) m st_
def L54 (a:LV) (b:LV):bE:=lp1 0 (LP54_0 a b)
theorem vc54 (a:LV) (b:LV) (K:KA):vcT C54 (L54 a b) ann54 f54 [.data TVS a,.data TVS b] [] (.dat Ty.bool) K =
 (cond (!decide ((a.length:Int)=(b.length:Int))) (K (dB false) []) (∃m_,True/\cI (s54_0 a b) Z0 (a.length:Int) (F.jb a b) (fun v0:Unit=>True) (br (fun v0:Unit=>True->K (dB true) []) (fun q0:Unit=>K (dB false) [])) m_ (s54_0 a b Z0 ()))):=by kernel_rfl
theorem lvc54_0 (a:LV) (b:LV)  (i0:Int) (v0:Unit) (m:Nat) (K:KX):lvT C54 (L54 a b) ann54 f54 0 0 (s54_0 a b i0 v0) m K =
 (cond (decide (i0<(a.length:Int))) ((0<=i0)/\(i0<(a.length:Int))/\(0<=i0)/\(i0<(b.length:Int))/\cond (!(Ty.beq aa (nV a i0) (nV b i0))) (K .ret (⟨[(4,dB false)],[]⟩:St)) (nxT (LP54_0 a b) m K (s54_0 a b (wrap64 (i0+Z1)) ()))) (K (.exit 0) (⟨[],[]⟩:St))):=by kernel_rfl
theorem con54_ok:bg P 54 c54:=bq C54 func54 kN fun args hp K h0=>by
 obtain⟨a,b,rfl,rfl,h_a,h_b,p0,hK⟩:=g2e h0
 have h:ok (F.ql a b) (fun r=>K (dB r) []):=az (F.xZ a b h_a h_b p0) hK
 refine⟨rfl,ann54,(L54 a b),(.dat Ty.bool),(bA (i0:=0) (by kernel_rfl) ?_),?_⟩
 ·rintro _ _ K ⟨hc0,i0,v0,rfl,hl0,rfl,hv0,h⟩
  exact cast (lvc54_0 _ _ _ _ _ _).symm (cj h (fun ht0 h=>⟨hl0,⟨ht0,⟨hl0,(oG h fun _ h=>(oC h (fun _ h=>h) fun _ h=>(aT (fun _ hm=>⟨hc0,hm⟩) _ rfl hl0 fS ht0 (aZ h_a) trivial h)))⟩⟩⟩) fun h=>(h trivial))
 ·rw[vc54]
  exact(oC h (fun _ h=>h) fun _ h=>(bN (fun m hm=>⟨trivial,hm⟩) Z0 _ rfl (Int.natCast_nonneg 0) trivial (aU h (fun v0 h hv0=>h) (fun q0 h=>h))))
def c18:Con:=⟨[.dat (Ty.sl TVS),.dat (Ty.sl TVS)],fun args hp K=>g2 (pD (Ty.sl TVS)) (pD (Ty.sl TVS)) (fun a b=>(Sm (Ty.sl TVS) a)/\(Sm (Ty.sl TVS) b)/\(a=b)/\K (dB true) []) args hp,.plain,false⟩
abbrev C18:Ctx:=cx [(54,c54)] 27 [] 0 false
def ann18:=an [[kp 3],[kp 1027],[kp 16],[kp 35],[kp 16419],[kp 35],[kp 67108899],[kp 16],[kp 16]] [[kp 0]]
abbrev s18_0 (a:(List LV)) (b:(List LV)) (i0:Int) (v0:Unit):St:=⟨[(0,.data (Ty.sl TVS) a),(1,.data (Ty.sl TVS) b),(5,dI i0)],[]⟩
abbrev LP18_0 (a:(List LV)) (b:(List LV)) (m:Nat) (st_:St) (K:KX):Prop:=True/\cI (s18_0 a b) Z0 (a.length:Int) (F.iH a b) (fun v0:Unit=>True) (br (fun v0:Unit=>True->K (.exit 0) (⟨[],[]⟩:St)) (fun q0:Unit=>K .ret (⟨[(4,dB false)],[]⟩:St))) m st_
def L18 (a:(List LV)) (b:(List LV)):bE:=lp1 0 (LP18_0 a b)
theorem vc18 (a:(List LV)) (b:(List LV)) (K:KA):vcT C18 (L18 a b) ann18 f18 [.data (Ty.sl TVS) a,.data (Ty.sl TVS) b] [] (.dat Ty.bool) K =
 (cond (!decide ((a.length:Int)=(b.length:Int))) (K (dB false) []) (∃m_,True/\cI (s18_0 a b) Z0 (a.length:Int) (F.iH a b) (fun v0:Unit=>True) (br (fun v0:Unit=>True->K (dB true) []) (fun q0:Unit=>K (dB false) [])) m_ (s18_0 a b Z0 ()))):=by kernel_rfl
theorem lvc18_0 (a:(List LV)) (b:(List LV))  (i0:Int) (v0:Unit) (m:Nat) (K:KX):lvT C18 (L18 a b) ann18 f18 0 0 (s18_0 a b i0 v0) m K =
 (cond (decide (i0<(a.length:Int))) ((0<=i0)/\(i0<(a.length:Int))/\(0<=i0)/\(i0<(b.length:Int))/\(Sm TVS (nth (t:=TVS) a i0))/\(Sm TVS (nth (t:=TVS) b i0))/\((nth (t:=TVS) a i0)=(nth (t:=TVS) b i0))/\cond (!true) (K .ret (⟨[(4,dB false)],[]⟩:St)) (nxT (LP18_0 a b) m K (s18_0 a b (wrap64 (i0+Z1)) ()))) (K (.exit 0) (⟨[],[]⟩:St))):=by kernel_rfl
theorem con18_ok:bg P 18 c18:=bq C18 func18 (kC con54_ok kN) fun args hp K h0=>by
 obtain⟨a,b,rfl,rfl,h_a,h_b,p0,hK⟩:=g2e h0
 have h:ok (F.oA a b) (fun r=>K (dB r) []):=az (F.vQ a b h_a h_b p0) hK
 refine⟨rfl,ann18,(L18 a b),(.dat Ty.bool),(bA (i0:=0) (by kernel_rfl) ?_),?_⟩
 ·rintro _ _ K ⟨hc0,i0,v0,rfl,hl0,rfl,hv0,h⟩
  exact cast (lvc18_0 _ _ _ _ _ _).symm (cj h (fun ht0 h=>⟨hl0,⟨ht0,⟨hl0,(oG h fun _ h=>⟨(aH h_a i0),⟨(aH h_b i0),(oG h fun _ h=>(oC h (fun _ h=>h) fun _ h=>(aT (fun _ hm=>⟨hc0,hm⟩) _ rfl hl0 fS ht0 (aZ h_a) trivial h)))⟩⟩)⟩⟩⟩) fun h=>(h trivial))
 ·rw[vc18]
  exact(oC h (fun _ h=>h) fun _ h=>(bN (fun m hm=>⟨trivial,hm⟩) Z0 _ rfl (Int.natCast_nonneg 0) trivial (aU h (fun v0 h hv0=>h) (fun q0 h=>h))))
def c162:Con:=⟨[.dat ag],fun args hp K=>g1 (pD ag) (fun c=>K (dB (!M.ep c)) []) args hp,.plain,false⟩
abbrev C162:Ctx:=cx [(60,c60)] 7 [] 0 false
def ann162:=an [[.fixRow 1 ag,kp 2],[kp 4]] []
theorem vc162 (c:ag.D) (K:KA):vcT C162 aA ann162 f162 [.data ag c] [] (.dat Ty.bool) K =
 (K (dB (!(M.inR c.1 Z1 Z3))) []):=by kernel_rfl
theorem con162_ok:bg P 162 c162:=bq C162 func162 (kC con60_ok kN) fun args hp K h0=>by
 obtain⟨c,rfl,rfl,hK⟩:=g1e h0
 have h:ok (F.oW c) (fun r=>K (dB r) []):=az (F.sQ c) hK
 refine⟨rfl,ann162,aA,(.dat Ty.bool),(aG (by kernel_rfl)),?_⟩
 ·rw[vc162]
  exact h
def c191:Con:=⟨[.lent ag,.any],fun args hp K=>args2 (fun a0 a1=>nH ag a0 fun xs=>oT 162 a1 (xH ((Sm TCS xs)/\K (dI (M.idx (t:=ag) (fun e=>!M.ep e) xs)) []))) args hp,.plain,false⟩
abbrev C191:Ctx:=cx [(162,c162)] 19 [] 0 false
def ann191:=an [[kp 3],[kp 387],[kp 899],[kp 419],[kp 65955],[kp 16],[kp 387],[kp 16]] [[kp 0]]
abbrev s191_0 (xs:LC) (i0:Int) (v0:Unit):St:=⟨[(0,.brw ag xs),(1,.fn 162 []),(7,dI (xs.length:Int)),(8,dI i0)],[]⟩
abbrev LP191_0 (xs:LC) (m:Nat) (st_:St) (K:KX):Prop:=True/\cI (s191_0 xs) Z0 (xs.length:Int) (F.cN xs) (fun v0:Unit=>True) (br (fun v0:Unit=>True->K (.exit 0) (⟨[],[]⟩:St)) (fun q0:Int=>K .ret (⟨[(4,dI q0)],[]⟩:St))) m st_
def L191 (xs:LC):bE:=lp1 0 (LP191_0 xs)
theorem vc191 (xs:LC) (K:KA):vcT C191 (L191 xs) ann191 f191 [.brw ag xs,.fn 162 []] [] (.dat aE) K =
 (∃m_,True/\cI (s191_0 xs) Z0 (xs.length:Int) (F.cN xs) (fun v0:Unit=>True) (br (fun v0:Unit=>True->K (dI (-1:Int)) []) (fun q0:Int=>K (dI q0) [])) m_ (s191_0 xs Z0 ())):=by kernel_rfl
theorem lvc191_0 (xs:LC)  (i0:Int) (v0:Unit) (m:Nat) (K:KX):lvT C191 (L191 xs) ann191 f191 0 0 (s191_0 xs i0 v0) m K =
 (cond (decide (i0<(xs.length:Int))) ((0<=i0)/\(i0<(xs.length:Int))/\cond (!M.ep (nC xs i0)) (K .ret (⟨[(4,dI i0)],[]⟩:St)) (nxT (LP191_0 xs) m K (s191_0 xs (wrap64 (i0+Z1)) ()))) (K (.exit 0) (⟨[],[]⟩:St))):=by kernel_rfl
theorem con191_ok:bg P 191 c191:=bq C191 func191 (kC con162_ok kN) fun args hp K h0=>by
 obtain⟨a0,a1,rfl,rfl,h1⟩:=ck h0
 obtain⟨xs,rfl,h2⟩:=dV h1
 obtain⟨cs1,rfl,h3⟩:=eL h2
 obtain⟨rfl,h4⟩:=jS h3
 obtain⟨h_xs,hK⟩:=h4
 have h:ok (F.gV xs) (fun r=>K (dI r) []):=az (F.kS xs h_xs) hK
 refine⟨rfl,ann191,(L191 xs),(.dat aE),(bA (i0:=0) (by kernel_rfl) ?_),?_⟩
 ·rintro _ _ K ⟨hc0,i0,v0,rfl,hl0,rfl,hv0,h⟩
  exact cast (lvc191_0 _ _ _ _ _).symm (cj h (fun ht0 h=>⟨hl0,⟨ht0,(oC h (fun _ h=>h) fun _ h=>(aT (fun _ hm=>⟨hc0,hm⟩) _ rfl hl0 fS ht0 (aZ h_xs) trivial h))⟩⟩) fun h=>(h trivial))
 ·rw[vc191]
  exact(bN (fun m hm=>⟨trivial,hm⟩) Z0 _ rfl (Int.natCast_nonneg 0) trivial (aU h (fun v0 h hv0=>h) (fun q0 h=>h)))
def c161:Con:=⟨[.lent ag,.any],fun args hp K=>args2 (fun a0 a1=>nH ag a0 fun xs=>oT 162 a1 (xH ((Sm TCS xs)/\K (dB (List.any xs (fun e=>!M.ep e))) []))) args hp,.plain,false⟩
abbrev C161:Ctx:=cx [(162,c162),(191,c191)] 9 [] 0 false
def ann161:=an [[kp 3],[kp 16]] []
theorem vc161 (xs:LC) (K:KA):vcT C161 aA ann161 f161 [.brw ag xs,.fn 162 []] [] (.dat Ty.bool) K =
 ((Sm TCS xs)/\K (dB (decide (Z0<=(M.idx (t:=ag) (fun e=>!M.ep e) xs)))) []):=by kernel_rfl
theorem con161_ok:bg P 161 c161:=bq C161 func161 (kC con162_ok (kC con191_ok kN)) fun args hp K h0=>by
 obtain⟨a0,a1,rfl,rfl,h1⟩:=ck h0
 obtain⟨xs,rfl,h2⟩:=dV h1
 obtain⟨cs1,rfl,h3⟩:=eL h2
 obtain⟨rfl,h4⟩:=jS h3
 obtain⟨h_xs,hK⟩:=h4
 have h:ok (F.dO xs) (fun r=>K (dB r) []):=az (F.jL xs h_xs) hK
 refine⟨rfl,ann161,aA,(.dat Ty.bool),(aG (by kernel_rfl)),?_⟩
 ·rw[vc161]
  exact⟨h_xs,h⟩
def c107:Con:=⟨[.dat TCS],fun args hp K=>g1 (pD TCS) (fun columns=>(Sm TCS columns)/\K (dB (M.bJ columns)) []) args hp,.plain,false⟩
abbrev C107:Ctx:=cx [(161,c161)] 11 [] 0 false
def ann107:=an [[kp 1],[kp 4]] []
theorem vc107 (columns:LC) (K:KA):vcT C107 aA ann107 f107 [.data TCS columns] [] (.dat Ty.bool) K =
 (cond ((decide ((columns.length:Int)<=Z4))==true) ((Sm TCS columns)/\K (dB (!(List.any columns (fun e=>!M.ep e)))) []) (K (dB false) [])):=by kernel_rfl
theorem con107_ok:bg P 107 c107:=bq C107 func107 (kC con161_ok kN) fun args hp K h0=>by
 obtain⟨columns,rfl,rfl,h_columns,hK⟩:=g1e h0
 have h:ok (F.mN columns) (fun r=>K (dB r) []):=az (F.uY columns h_columns) hK
 refine⟨rfl,ann107,aA,(.dat Ty.bool),(aG (by kernel_rfl)),?_⟩
 ·rw[vc107]
  exact(oC h (fun _ h=>⟨h_columns,h⟩) fun _ h=>h)
def c136:Con:=⟨[.dat aa],fun args hp K=>g1 (pD aa) (fun v=>(Sm aa v)/\K (dB (!M.aM v)) []) args hp,.plain,false⟩
abbrev C136:Ctx:=cx [(91,c91)] 6 [] 0 false
def ann136:=an [[.fixRow 1 aa,kp 2],[kp 4]] []
theorem vc136 (v:aa.D) (K:KA):vcT C136 aA ann136 f136 [.data aa v] [] (.dat Ty.bool) K =
 ((Sm aa v)/\K (dB (!(M.aM v))) []):=by kernel_rfl
theorem con136_ok:bg P 136 c136:=bq C136 func136 (kC con91_ok kN) fun args hp K h0=>by
 obtain⟨v,rfl,rfl,h_v,hK⟩:=g1e h0
 have h:ok (F.vb v) (fun r=>K (dB r) []):=az (F.yd v h_v) hK
 refine⟨rfl,ann136,aA,(.dat Ty.bool),(aG (by kernel_rfl)),?_⟩
 ·rw[vc136]
  exact⟨h_v,h⟩
def c177:Con:=⟨[.lent aa,.any],fun args hp K=>args2 (fun a0 a1=>nH aa a0 fun xs=>oT 136 a1 (xH ((Sm TVS xs)/\K (dI (M.idx (t:=aa) (fun e=>!M.aM e) xs)) []))) args hp,.plain,false⟩
abbrev C177:Ctx:=cx [(136,c136)] 19 [] 0 false
def ann177:=an [[kp 3],[kp 387],[kp 899],[kp 419],[kp 65955],[kp 16],[kp 387],[kp 16]] [[kp 0]]
abbrev s177_0 (xs:LV) (i0:Int) (v0:Unit):St:=⟨[(0,.brw aa xs),(1,.fn 136 []),(7,dI (xs.length:Int)),(8,dI i0)],[]⟩
abbrev LP177_0 (xs:LV) (m:Nat) (st_:St) (K:KX):Prop:=True/\cI (s177_0 xs) Z0 (xs.length:Int) (F.dw xs) (fun v0:Unit=>True) (br (fun v0:Unit=>True->K (.exit 0) (⟨[],[]⟩:St)) (fun q0:Int=>K .ret (⟨[(4,dI q0)],[]⟩:St))) m st_
def L177 (xs:LV):bE:=lp1 0 (LP177_0 xs)
theorem vc177 (xs:LV) (K:KA):vcT C177 (L177 xs) ann177 f177 [.brw aa xs,.fn 136 []] [] (.dat aE) K =
 (∃m_,True/\cI (s177_0 xs) Z0 (xs.length:Int) (F.dw xs) (fun v0:Unit=>True) (br (fun v0:Unit=>True->K (dI (-1:Int)) []) (fun q0:Int=>K (dI q0) [])) m_ (s177_0 xs Z0 ())):=by kernel_rfl
theorem lvc177_0 (xs:LV)  (i0:Int) (v0:Unit) (m:Nat) (K:KX):lvT C177 (L177 xs) ann177 f177 0 0 (s177_0 xs i0 v0) m K =
 (cond (decide (i0<(xs.length:Int))) ((0<=i0)/\(i0<(xs.length:Int))/\(Sm aa (nV xs i0))/\cond (!M.aM (nV xs i0)) (K .ret (⟨[(4,dI i0)],[]⟩:St)) (nxT (LP177_0 xs) m K (s177_0 xs (wrap64 (i0+Z1)) ()))) (K (.exit 0) (⟨[],[]⟩:St))):=by kernel_rfl
theorem con177_ok:bg P 177 c177:=bq C177 func177 (kC con136_ok kN) fun args hp K h0=>by
 obtain⟨a0,a1,rfl,rfl,h1⟩:=ck h0
 obtain⟨xs,rfl,h2⟩:=dV h1
 obtain⟨cs1,rfl,h3⟩:=eL h2
 obtain⟨rfl,h4⟩:=jS h3
 obtain⟨h_xs,hK⟩:=h4
 have h:ok (F.jI xs) (fun r=>K (dI r) []):=az (F.mY xs h_xs) hK
 refine⟨rfl,ann177,(L177 xs),(.dat aE),(bA (i0:=0) (by kernel_rfl) ?_),?_⟩
 ·rintro _ _ K ⟨hc0,i0,v0,rfl,hl0,rfl,hv0,h⟩
  exact cast (lvc177_0 _ _ _ _ _).symm (cj h (fun ht0 h=>⟨hl0,⟨ht0,⟨(aH h_xs i0),(oC h (fun _ h=>h) fun _ h=>(aT (fun _ hm=>⟨hc0,hm⟩) _ rfl hl0 fS ht0 (aZ h_xs) trivial h))⟩⟩⟩) fun h=>(h trivial))
 ·rw[vc177]
  exact(bN (fun m hm=>⟨trivial,hm⟩) Z0 _ rfl (Int.natCast_nonneg 0) trivial (aU h (fun v0 h hv0=>h) (fun q0 h=>h)))
def c135:Con:=⟨[.lent aa,.any],fun args hp K=>args2 (fun a0 a1=>nH aa a0 fun xs=>oT 136 a1 (xH ((Sm TVS xs)/\K (dB (List.any xs (fun e=>!M.aM e))) []))) args hp,.plain,false⟩
abbrev C135:Ctx:=cx [(136,c136),(177,c177)] 9 [] 0 false
def ann135:=an [[kp 3],[kp 16]] []
theorem vc135 (xs:LV) (K:KA):vcT C135 aA ann135 f135 [.brw aa xs,.fn 136 []] [] (.dat Ty.bool) K =
 ((Sm TVS xs)/\K (dB (decide (Z0<=(M.idx (t:=aa) (fun e=>!M.aM e) xs)))) []):=by kernel_rfl
theorem con135_ok:bg P 135 c135:=bq C135 func135 (kC con136_ok (kC con177_ok kN)) fun args hp K h0=>by
 obtain⟨a0,a1,rfl,rfl,h1⟩:=ck h0
 obtain⟨xs,rfl,h2⟩:=dV h1
 obtain⟨cs1,rfl,h3⟩:=eL h2
 obtain⟨rfl,h4⟩:=jS h3
 obtain⟨h_xs,hK⟩:=h4
 have h:ok (F.eX xs) (fun r=>K (dB r) []):=az (F.lN xs h_xs) hK
 refine⟨rfl,ann135,aA,(.dat Ty.bool),(aG (by kernel_rfl)),?_⟩
 ·rw[vc135]
  exact⟨h_xs,h⟩
def c83:Con:=⟨[.dat TVS],fun args hp K=>g1 (pD TVS) (fun row=>(Sm TVS row)/\K (dB (M.oP row)) []) args hp,.plain,false⟩
abbrev C83:Ctx:=cx [(135,c135)] 11 [] 0 false
def ann83:=an [[kp 1],[kp 4]] []
theorem vc83 (row:LV) (K:KA):vcT C83 aA ann83 f83 [.data TVS row] [] (.dat Ty.bool) K =
 (cond ((decide ((row.length:Int)<=Z4))==true) ((Sm TVS row)/\K (dB (!(List.any row (fun e=>!M.aM e)))) []) (K (dB false) [])):=by kernel_rfl
theorem con83_ok:bg P 83 c83:=bq C83 func83 (kC con135_ok kN) fun args hp K h0=>by
 obtain⟨row,rfl,rfl,h_row,hK⟩:=g1e h0
 have h:ok (F.tq row) (fun r=>K (dB r) []):=az (F.Bh row h_row) hK
 refine⟨rfl,ann83,aA,(.dat Ty.bool),(aG (by kernel_rfl)),?_⟩
 ·rw[vc83]
  exact(oC h (fun _ h=>⟨h_row,h⟩) fun _ h=>h)
def c65:Con:=⟨[.dat TCS,.dat TVS],fun args hp K=>g2 (pD TCS) (pD TVS) (fun columns row=>(Sm TCS columns)/\(Sm TVS row)/\K (dB (M.cF columns row)) []) args hp,.plain,false⟩
abbrev C65:Ctx:=cx [(83,c83),(107,c107)] 51 [] 0 false
def ann65:=an [[kp 3],[kp 2097155],[kp 16],[kp 29360129],[kp 62914561],[.fixRow 6 aa,kp 29360225],[kp 562949982781441],[kp 16],[kp 29360129],[kp 16]] [[kp 0]]
abbrev s65_0 (columns:LC) (row:LV) (i0:Int) (v0:Unit):St:=⟨[(0,.data TCS columns),(22,.data TVS row),(23,dI (row.length:Int)),(24,dI i0)],[]⟩
abbrev LP65_0 (columns:LC) (row:LV) (m:Nat) (st_:St) (K:KX):Prop:=True/\cI (s65_0 columns row) Z0 (row.length:Int) (F.ji columns row) (fun v0:Unit=>True) (br (fun v0:Unit=>True->K (.exit 0) (⟨[],[]⟩:St)) (fun q0:Unit=>K .ret (⟨[(4,dB false)],[]⟩:St))) m st_
def L65 (columns:LC) (row:LV):bE:=lp1 0 (LP65_0 columns row)
theorem vc65 (columns:LC) (row:LV) (K:KA):vcT C65 (L65 columns row) ann65 f65 [.data TCS columns,.data TVS row] [] (.dat Ty.bool) K =
 ((Sm TCS columns)/\cond ((!(M.bJ columns))==false) ((Sm TVS row)/\cond ((!(M.oP row))==false) (cond (!decide ((row.length:Int)=(columns.length:Int))) (K (dB false) []) (∃m_,True/\cI (s65_0 columns row) Z0 (row.length:Int) (F.ji columns row) (fun v0:Unit=>True) (br (fun v0:Unit=>True->K (dB true) []) (fun q0:Unit=>K (dB false) [])) m_ (s65_0 columns row Z0 ()))) (K (dB false) [])) (K (dB false) [])):=by kernel_rfl
theorem lvc65_0 (columns:LC) (row:LV)  (i0:Int) (v0:Unit) (m:Nat) (K:KX):lvT C65 (L65 columns row) ann65 f65 0 0 (s65_0 columns row i0 v0) m K =
 (cond (decide (i0<(row.length:Int))) ((0<=i0)/\(i0<(row.length:Int))/\(0<=i0)/\(i0<(columns.length:Int))/\cond ((!decide ((nV row i0).1=(nC columns i0).1))==true) (cond ((!decide ((nV row i0).1=Z0))==false) ((0<=i0)/\(i0<(columns.length:Int))/\cond (!(nC columns i0).2.1) (K .ret (⟨[(4,dB false)],[]⟩:St)) (nxT (LP65_0 columns row) m K (s65_0 columns row (wrap64 (i0+Z1)) ()))) (K .ret (⟨[(4,dB false)],[]⟩:St))) (nxT (LP65_0 columns row) m K (s65_0 columns row (wrap64 (i0+Z1)) ()))) (K (.exit 0) (⟨[],[]⟩:St))):=by kernel_rfl
theorem con65_ok:bg P 65 c65:=bq C65 func65 (kC con83_ok (kC con107_ok kN)) fun args hp K h0=>by
 obtain⟨columns,row,rfl,rfl,h_columns,h_row,hK⟩:=g2e h0
 have h:ok (F.qh columns row) (fun r=>K (dB r) []):=az (F.yD columns row h_columns h_row) hK
 refine⟨rfl,ann65,(L65 columns row),(.dat Ty.bool),(bA (i0:=0) (by kernel_rfl) ?_),?_⟩
 ·rintro _ _ K ⟨hc0,i0,v0,rfl,hl0,rfl,hv0,h⟩
  exact cast (lvc65_0 _ _ _ _ _ _).symm (cj h (fun ht0 h=>⟨hl0,⟨ht0,⟨hl0,(oG h fun g1 h=>(oC h (fun _ h=>(oC h (fun _ h=>⟨hl0,⟨g1,(oC h (fun _ h=>h) fun _ h=>(aT (fun _ hm=>⟨hc0,hm⟩) _ rfl hl0 fS ht0 (aZ h_row) trivial h))⟩⟩) fun _ h=>h)) fun _ h=>(aT (fun _ hm=>⟨hc0,hm⟩) _ rfl hl0 fS ht0 (aZ h_row) trivial h)))⟩⟩⟩) fun h=>(h trivial))
 ·rw[vc65]
  exact⟨h_columns,(oC h (fun _ h=>⟨h_row,(oC h (fun _ h=>(oC h (fun _ h=>h) fun _ h=>(bN (fun m hm=>⟨trivial,hm⟩) Z0 _ rfl (Int.natCast_nonneg 0) trivial (aU h (fun v0 h hv0=>h) (fun q0 h=>h))))) fun _ h=>h)⟩) fun _ h=>h)⟩
def c172:Con:=⟨[.dat TVS,.any],fun args hp K=>g2 (pD TVS) (pR TCS) (fun r columns=>(Sm TVS r)/\(Sm TCS columns)/\K (dB (!M.cF columns r)) []) args hp,.plain,false⟩
abbrev C172:Ctx:=cx [(65,c65)] 8 [] 0 false
def ann172:=an [[kp 3],[kp 8]] []
theorem vc172 (r:LV) (columns:LC) (K:KA):vcT C172 aA ann172 f172 [.data TVS r,.ref (.data TCS columns)] [] (.dat Ty.bool) K =
 ((Sm TCS columns)/\(Sm TVS r)/\K (dB (!(M.cF columns r))) []):=by kernel_rfl
theorem con172_ok:bg P 172 c172:=bq C172 func172 (kC con65_ok kN) fun args hp K h0=>by
 obtain⟨r,columns,rfl,rfl,h_r,h_columns,hK⟩:=g2e h0
 have h:ok (F.tg r columns) (fun r=>K (dB r) []):=az (F.wJ r columns h_r h_columns) hK
 refine⟨rfl,ann172,aA,(.dat Ty.bool),(aG (by kernel_rfl)),?_⟩
 ·rw[vc172]
  exact⟨h_columns,⟨h_r,h⟩⟩
def c167:Con:=⟨[.lent TVS,.any],fun args hp K=>args2 (fun a0 a1=>nH TVS a0 fun xs=>oT 172 a1 (zl (fun b1_0=>Ac TCS b1_0 fun k0=>(Sm (Ty.sl TVS) xs)/\(Sm TCS k0)/\K (dI (M.idx (t:=TVS) (fun e=>!M.cF k0 e) xs)) []))) args hp,.plain,false⟩
abbrev C167:Ctx:=cx [(172,c172)] 19 [] 0 false
def ann167:=an [[kp 3],[kp 387],[kp 899],[kp 419],[kp 65955],[kp 16],[kp 387],[kp 16]] [[kp 0]]
abbrev s167_0 (xs:(List LV)) (k0:LC) (i0:Int) (v0:Unit):St:=⟨[(0,.brw TVS xs),(1,.fn 172 [.ref (.data TCS k0)]),(7,dI (xs.length:Int)),(8,dI i0)],[]⟩
abbrev LP167_0 (xs:(List LV)) (k0:LC) (m:Nat) (st_:St) (K:KX):Prop:=True/\cI (s167_0 xs k0) Z0 (xs.length:Int) (F.de xs k0) (fun v0:Unit=>True) (br (fun v0:Unit=>True->K (.exit 0) (⟨[],[]⟩:St)) (fun q0:Int=>K .ret (⟨[(4,dI q0)],[]⟩:St))) m st_
def L167 (xs:(List LV)) (k0:LC):bE:=lp1 0 (LP167_0 xs k0)
theorem vc167 (xs:(List LV)) (k0:LC) (K:KA):vcT C167 (L167 xs k0) ann167 f167 [.brw TVS xs,.fn 172 [.ref (.data TCS k0)]] [] (.dat aE) K =
 (∃m_,True/\cI (s167_0 xs k0) Z0 (xs.length:Int) (F.de xs k0) (fun v0:Unit=>True) (br (fun v0:Unit=>True->K (dI (-1:Int)) []) (fun q0:Int=>K (dI q0) [])) m_ (s167_0 xs k0 Z0 ())):=by kernel_rfl
theorem lvc167_0 (xs:(List LV)) (k0:LC)  (i0:Int) (v0:Unit) (m:Nat) (K:KX):lvT C167 (L167 xs k0) ann167 f167 0 0 (s167_0 xs k0 i0 v0) m K =
 (cond (decide (i0<(xs.length:Int))) ((0<=i0)/\(i0<(xs.length:Int))/\(Sm TVS (nth (t:=TVS) xs i0))/\(Sm TCS k0)/\cond (!M.cF k0 (nth (t:=TVS) xs i0)) (K .ret (⟨[(4,dI i0)],[]⟩:St)) (nxT (LP167_0 xs k0) m K (s167_0 xs k0 (wrap64 (i0+Z1)) ()))) (K (.exit 0) (⟨[],[]⟩:St))):=by kernel_rfl
theorem con167_ok:bg P 167 c167:=bq C167 func167 (kC con172_ok kN) fun args hp K h0=>by
 obtain⟨a0,a1,rfl,rfl,h1⟩:=ck h0
 obtain⟨xs,rfl,h2⟩:=dV h1
 obtain⟨cs1,rfl,h3⟩:=eL h2
 obtain⟨b1_0,rfl,h4⟩:=mI h3
 obtain⟨k0,rfl,h5⟩:=mP h4
 obtain⟨h_xs,h_k0,hK⟩:=h5
 have h:ok (F.jt xs k0) (fun r=>K (dI r) []):=az (F.mK xs k0 h_xs h_k0) hK
 refine⟨rfl,ann167,(L167 xs k0),(.dat aE),(bA (i0:=0) (by kernel_rfl) ?_),?_⟩
 ·rintro _ _ K ⟨hc0,i0,v0,rfl,hl0,rfl,hv0,h⟩
  exact cast (lvc167_0 _ _ _ _ _ _).symm (cj h (fun ht0 h=>⟨hl0,⟨ht0,⟨(aH h_xs i0),⟨h_k0,(oC h (fun _ h=>h) fun _ h=>(aT (fun _ hm=>⟨hc0,hm⟩) _ rfl hl0 fS ht0 (aZ h_xs) trivial h))⟩⟩⟩⟩) fun h=>(h trivial))
 ·rw[vc167]
  exact(bN (fun m hm=>⟨trivial,hm⟩) Z0 _ rfl (Int.natCast_nonneg 0) trivial (aU h (fun v0 h hv0=>h) (fun q0 h=>h)))
def c171:Con:=⟨[.lent TVS,.any],fun args hp K=>args2 (fun a0 a1=>nH TVS a0 fun xs=>oT 172 a1 (zl (fun b1_0=>Ac TCS b1_0 fun k0=>(Sm (Ty.sl TVS) xs)/\(Sm TCS k0)/\K (dB (List.any xs (fun e=>!M.cF k0 e))) []))) args hp,.plain,false⟩
abbrev C171:Ctx:=cx [(167,c167),(172,c172)] 9 [] 0 false
def ann171:=an [[kp 3],[kp 16]] []
theorem vc171 (xs:(List LV)) (k0:LC) (K:KA):vcT C171 aA ann171 f171 [.brw TVS xs,.fn 172 [.ref (.data TCS k0)]] [] (.dat Ty.bool) K =
 ((Sm (Ty.sl TVS) xs)/\(Sm TCS k0)/\K (dB (decide (Z0<=(M.idx (t:=TVS) (fun e=>!M.cF k0 e) xs)))) []):=by kernel_rfl
theorem con171_ok:bg P 171 c171:=bq C171 func171 (kC con167_ok (kC con172_ok kN)) fun args hp K h0=>by
 obtain⟨a0,a1,rfl,rfl,h1⟩:=ck h0
 obtain⟨xs,rfl,h2⟩:=dV h1
 obtain⟨cs1,rfl,h3⟩:=eL h2
 obtain⟨b1_0,rfl,h4⟩:=mI h3
 obtain⟨k0,rfl,h5⟩:=mP h4
 obtain⟨h_xs,h_k0,hK⟩:=h5
 have h:ok (F.eH xs k0) (fun r=>K (dB r) []):=az (F.ld xs k0 h_xs h_k0) hK
 refine⟨rfl,ann171,aA,(.dat Ty.bool),(aG (by kernel_rfl)),?_⟩
 ·rw[vc171]
  exact⟨h_xs,⟨h_k0,h⟩⟩
def c127:Con:=⟨[.dat TCS,.dat (Ty.sl TVS)],fun args hp K=>g2 (pD TCS) (pD (Ty.sl TVS)) (fun columns rows=>(Sm TCS columns)/\(Sm (Ty.sl TVS) rows)/\K (dB (M.gA columns rows)) []) args hp,.plain,false⟩
abbrev C127:Ctx:=cx [(107,c107),(171,c171),(172,c172)] 13 [] 0 false
def ann127:=an [[.fixBox 2,kp 6],[kp 16]] []
theorem vc127 (columns:LC) (rows:(List LV)) (K:KA):vcT C127 aA ann127 f127 [.data TCS columns,.data (Ty.sl TVS) rows] [] (.dat Ty.bool) K =
 ((Sm TCS columns)/\cond ((M.bJ columns)==true) ((Sm (Ty.sl TVS) rows)/\(Sm TCS columns)/\K (dB (!(List.any rows (fun e=>!M.cF columns e)))) []) (K (dB false) [])):=by kernel_rfl
theorem con127_ok:bg P 127 c127:=bq C127 func127 (kC con107_ok (kC con171_ok (kC con172_ok kN))) fun args hp K h0=>by
 obtain⟨columns,rows,rfl,rfl,h_columns,h_rows,hK⟩:=g2e h0
 have h:ok (F.qT columns rows) (fun r=>K (dB r) []):=az (F.zH columns rows h_columns h_rows) hK
 refine⟨rfl,ann127,aA,(.dat Ty.bool),(aG (by kernel_rfl)),?_⟩
 ·rw[vc127]
  exact⟨h_columns,(oC h (fun _ h=>⟨h_rows,⟨h_columns,h⟩⟩) fun _ h=>h)⟩
def c126:Con:=⟨[.dat aq],fun args hp K=>g1 (pD aq) (fun t=>(Sm aq t)/\K (dB (!M.cZ t)) []) args hp,.plain,false⟩
abbrev C126:Ctx:=cx [(107,c107),(127,c127)] 21 [] 0 false
def ann126:=an [[.fixRow 1 aq,kp 2],[kp 4]] []
theorem vc126 (t:aq.D) (K:KA):vcT C126 aA ann126 f126 [.data aq t] [] (.dat Ty.bool) K =
 ((Sm TCS t.1)/\cond ((!(M.bJ t.1))==false) (cond ((decide (Z6<(t.2.1.length:Int)))==false) ((Sm TCS t.1)/\(Sm (Ty.sl TVS) t.2.1)/\K (dB (!(M.gA t.1 t.2.1))) []) (K (dB true) [])) (K (dB true) [])):=by kernel_rfl
theorem con126_ok:bg P 126 c126:=bq C126 func126 (kC con107_ok (kC con127_ok kN)) fun args hp K h0=>by
 obtain⟨t,rfl,rfl,h_t,hK⟩:=g1e h0
 have h:ok (F.lO t) (fun r=>K (dB r) []):=az (F.tZ t h_t) hK
 refine⟨rfl,ann126,aA,(.dat Ty.bool),(aG (by kernel_rfl)),?_⟩
 ·rw[vc126]
  exact⟨h_t.1,(oC h (fun _ h=>(oC h (fun _ h=>⟨h_t.1,⟨h_t.2.1,h⟩⟩) fun _ h=>h)) fun _ h=>h)⟩
def c170:Con:=⟨[.lent aq,.any],fun args hp K=>args2 (fun a0 a1=>nH aq a0 fun xs=>oT 126 a1 (xH ((Sm TTb xs)/\K (dI (M.idx (t:=aq) (fun e=>!M.cZ e) xs)) []))) args hp,.plain,false⟩
abbrev C170:Ctx:=cx [(126,c126)] 19 [] 0 false
def ann170:=an [[kp 3],[kp 387],[kp 899],[kp 419],[kp 65955],[kp 16],[kp 387],[kp 16]] [[kp 0]]
abbrev s170_0 (xs:LTb) (i0:Int) (v0:Unit):St:=⟨[(0,.brw aq xs),(1,.fn 126 []),(7,dI (xs.length:Int)),(8,dI i0)],[]⟩
abbrev LP170_0 (xs:LTb) (m:Nat) (st_:St) (K:KX):Prop:=True/\cI (s170_0 xs) Z0 (xs.length:Int) (F.cS xs) (fun v0:Unit=>True) (br (fun v0:Unit=>True->K (.exit 0) (⟨[],[]⟩:St)) (fun q0:Int=>K .ret (⟨[(4,dI q0)],[]⟩:St))) m st_
def L170 (xs:LTb):bE:=lp1 0 (LP170_0 xs)
theorem vc170 (xs:LTb) (K:KA):vcT C170 (L170 xs) ann170 f170 [.brw aq xs,.fn 126 []] [] (.dat aE) K =
 (∃m_,True/\cI (s170_0 xs) Z0 (xs.length:Int) (F.cS xs) (fun v0:Unit=>True) (br (fun v0:Unit=>True->K (dI (-1:Int)) []) (fun q0:Int=>K (dI q0) [])) m_ (s170_0 xs Z0 ())):=by kernel_rfl
theorem lvc170_0 (xs:LTb)  (i0:Int) (v0:Unit) (m:Nat) (K:KX):lvT C170 (L170 xs) ann170 f170 0 0 (s170_0 xs i0 v0) m K =
 (cond (decide (i0<(xs.length:Int))) ((0<=i0)/\(i0<(xs.length:Int))/\(Sm aq (nT xs i0))/\cond (!M.cZ (nT xs i0)) (K .ret (⟨[(4,dI i0)],[]⟩:St)) (nxT (LP170_0 xs) m K (s170_0 xs (wrap64 (i0+Z1)) ()))) (K (.exit 0) (⟨[],[]⟩:St))):=by kernel_rfl
theorem con170_ok:bg P 170 c170:=bq C170 func170 (kC con126_ok kN) fun args hp K h0=>by
 obtain⟨a0,a1,rfl,rfl,h1⟩:=ck h0
 obtain⟨xs,rfl,h2⟩:=dV h1
 obtain⟨cs1,rfl,h3⟩:=eL h2
 obtain⟨rfl,h4⟩:=jS h3
 obtain⟨h_xs,hK⟩:=h4
 have h:ok (F.iN xs) (fun r=>K (dI r) []):=az (F.lu xs h_xs) hK
 refine⟨rfl,ann170,(L170 xs),(.dat aE),(bA (i0:=0) (by kernel_rfl) ?_),?_⟩
 ·rintro _ _ K ⟨hc0,i0,v0,rfl,hl0,rfl,hv0,h⟩
  exact cast (lvc170_0 _ _ _ _ _).symm (cj h (fun ht0 h=>⟨hl0,⟨ht0,⟨(aH h_xs i0),(oC h (fun _ h=>h) fun _ h=>(aT (fun _ hm=>⟨hc0,hm⟩) _ rfl hl0 fS ht0 (aZ h_xs) trivial h))⟩⟩⟩) fun h=>(h trivial))
 ·rw[vc170]
  exact(bN (fun m hm=>⟨trivial,hm⟩) Z0 _ rfl (Int.natCast_nonneg 0) trivial (aU h (fun v0 h hv0=>h) (fun q0 h=>h)))
def c125:Con:=⟨[.lent aq,.any],fun args hp K=>args2 (fun a0 a1=>nH aq a0 fun xs=>oT 126 a1 (xH ((Sm TTb xs)/\K (dB (List.any xs (fun e=>!M.cZ e))) []))) args hp,.plain,false⟩
abbrev C125:Ctx:=cx [(126,c126),(170,c170)] 9 [] 0 false
def ann125:=an [[kp 3],[kp 16]] []
theorem vc125 (xs:LTb) (K:KA):vcT C125 aA ann125 f125 [.brw aq xs,.fn 126 []] [] (.dat Ty.bool) K =
 ((Sm TTb xs)/\K (dB (decide (Z0<=(M.idx (t:=aq) (fun e=>!M.cZ e) xs)))) []):=by kernel_rfl
theorem con125_ok:bg P 125 c125:=bq C125 func125 (kC con126_ok (kC con170_ok kN)) fun args hp K h0=>by
 obtain⟨a0,a1,rfl,rfl,h1⟩:=ck h0
 obtain⟨xs,rfl,h2⟩:=dV h1
 obtain⟨cs1,rfl,h3⟩:=eL h2
 obtain⟨rfl,h4⟩:=jS h3
 obtain⟨h_xs,hK⟩:=h4
 have h:ok (F.ee xs) (fun r=>K (dB r) []):=az (F.jP xs h_xs) hK
 refine⟨rfl,ann125,aA,(.dat Ty.bool),(aG (by kernel_rfl)),?_⟩
 ·rw[vc125]
  exact⟨h_xs,h⟩
def c78:Con:=⟨[.dat TTb],fun args hp K=>g1 (pD TTb) (fun tables=>(Sm TTb tables)/\K (dB (M.bT tables)) []) args hp,.plain,false⟩
abbrev C78:Ctx:=cx [(125,c125)] 11 [] 0 false
def ann78:=an [[kp 1],[kp 4]] []
theorem vc78 (tables:LTb) (K:KA):vcT C78 aA ann78 f78 [.data TTb tables] [] (.dat Ty.bool) K =
 (cond ((decide ((tables.length:Int)<=Z3))==true) ((Sm TTb tables)/\K (dB (!(List.any tables (fun e=>!M.cZ e)))) []) (K (dB false) [])):=by kernel_rfl
theorem con78_ok:bg P 78 c78:=bq C78 func78 (kC con125_ok kN) fun args hp K h0=>by
 obtain⟨tables,rfl,rfl,h_tables,hK⟩:=g1e h0
 have h:ok (F.ov tables) (fun r=>K (dB r) []):=az (F.wk tables h_tables) hK
 refine⟨rfl,ann78,aA,(.dat Ty.bool),(aG (by kernel_rfl)),?_⟩
 ·rw[vc78]
  exact(oC h (fun _ h=>⟨h_tables,h⟩) fun _ h=>h)
def c108:Con:=⟨[.dat aC],fun args hp K=>g1 (pD aC) (fun p=>(Sm aC p)/\K (dI (M.takes p)) []) args hp,.plain,false⟩
abbrev C108:Ctx:=cx [] 13 [] 0 false
def ann108:=an [[.fixRow 1 aC,kp 2],[kp 16],[kp 48],[kp 48],[kp 48],[kp 48],[kp 4],[kp 1040],[kp 1024],[kp 4],[kp 4]] []
abbrev S108_0 (p:aC.D) (K:KA):Prop:=cond (decide (p.1=(7:Int))) (cond (decide (p.1=(7:Int))) (K (dI Z1) []) (K (dI Z0) [])) (cond (decide (p.1=(8:Int))) (K (dI Z1) []) (K (dI Z0) []))
theorem vc108 (p:aC.D) (K:KA):vcT C108 aA ann108 f108 [.data aC p] [] (.dat aE) K =
 (cond (decide (p.1=Z3)) (cond (decide (p.1=Z3)) (K (dI Z2) []) (S108_0 p K)) (cond (decide (p.1=Z4)) (cond (decide (p.1=Z4)) (K (dI Z2) []) (S108_0 p K)) (cond (decide (p.1=Z5)) (cond (decide (p.1=Z5)) (K (dI Z2) []) (S108_0 p K)) (cond (decide (p.1=Z6)) (K (dI Z2) []) (S108_0 p K))))):=by kernel_rfl
theorem con108_ok:bg P 108 c108:=bq C108 func108 kN fun args hp K h0=>by
 obtain⟨p,rfl,rfl,h_p,hK⟩:=g1e h0
 have h:ok (F.lE p) (fun r=>K (dI r) []):=az (F.ue p h_p) hK
 refine⟨rfl,ann108,aA,(.dat aE),(aG (by kernel_rfl)),?_⟩
 ·rw[vc108]
  exact(oC h (fun b_1 h=>(bL b_1 h)) fun _ h=>(oC h (fun b_6 h=>(bL b_6 h)) fun _ h=>(oC h (fun b_8 h=>(bL b_8 h)) fun _ h=>(oC h (fun _ h=>h) fun _ h=>(oC h (fun b_11 h=>(bL b_11 h)) fun _ h=>(oC h (fun _ h=>h) fun _ h=>h))))))
def c109:Con:=⟨[.dat aC,.dat TCS],fun args hp K=>g2 (pD aC) (pD TCS) (fun p columns=>(Sm aC p)/\(Sm TCS columns)/\K (dB (M.lQ p columns)) []) args hp,.plain,false⟩
abbrev C109:Ctx:=cx [(60,c60),(91,c91)] 63 [] 0 false
def ann109:=an [[.fixRow 2 aC,kp 6],[kp 70],[kp 198],[kp 16],[kp 8388678],[kp 16],[kp 137438953540],[kp 16],[.keep [2,6,48]],[.keep [2,6,48]],[.keep [2,6,48]],[.keep [2,6,48]],[.keep [2,48]],[kp 16],[kp 16]] []
abbrev S109_0 (p:aC.D) (columns:LC) (K:KA):Prop:=cond ((decide (p.2.1=Z0))==true) (K (dB (Ty.beq aa p.2.2.1 (Z0,(Z0,((⟨#[]⟩:ByteArray),()))))) []) (K (dB false) [])
theorem vc109 (p:aC.D) (columns:LC) (K:KA):vcT C109 aA ann109 f109 [.data aC p,.data TCS columns] [] (.dat Ty.bool) K =
 (cond (decide (p.1=Z1)) (cond ((decide (p.2.1=Z0))==true) ((Sm aa p.2.2.1)/\cond ((M.aM p.2.2.1)==true) (K (dB (!decide (p.2.2.1.1=Z0))) []) (K (dB false) [])) (K (dB false) [])) (cond (decide (p.1=Z2)) (cond ((M.inR p.2.1 Z0 (wrap64 ((columns.length:Int)-Z1)))==true) (K (dB (Ty.beq aa p.2.2.1 (Z0,(Z0,((⟨#[]⟩:ByteArray),()))))) []) (K (dB false) [])) (cond (decide (p.1=Z4)) (cond ((M.inR p.2.1 Z1 Z4)==true) (K (dB (Ty.beq aa p.2.2.1 (Z0,(Z0,((⟨#[]⟩:ByteArray),()))))) []) (K (dB false) [])) (cond (decide (p.1=Z3)) (cond (decide (p.1=Z3)) (S109_0 p columns K) (K (dB false) [])) (cond (decide (p.1=Z5)) (cond (decide (p.1=Z5)) (S109_0 p columns K) (K (dB false) [])) (cond (decide (p.1=Z6)) (cond (decide (p.1=Z6)) (S109_0 p columns K) (K (dB false) [])) (cond (decide (p.1=(7:Int))) (cond (decide (p.1=(7:Int))) (S109_0 p columns K) (K (dB false) [])) (cond (decide (p.1=(8:Int))) (S109_0 p columns K) (K (dB false) []))))))))):=by kernel_rfl
theorem con109_ok:bg P 109 c109:=bq C109 func109 (kC con60_ok (kC con91_ok kN)) fun args hp K h0=>by
 obtain⟨p,columns,rfl,rfl,h_p,h_columns,hK⟩:=g2e h0
 have h:ok (F.lq p columns) (fun r=>K (dB r) []):=az (F.uq p columns h_p h_columns) hK
 refine⟨rfl,ann109,aA,(.dat Ty.bool),(aG (by kernel_rfl)),?_⟩
 ·rw[vc109]
  exact(oC h (fun _ h=>(oC h (fun _ h=>⟨h_p.2.2.1,(oC h (fun _ h=>h) fun _ h=>h)⟩) fun _ h=>h)) fun _ h=>(oC h (fun _ h=>(oC h (fun _ h=>h) fun _ h=>h)) fun _ h=>(oC h (fun _ h=>(oC h (fun _ h=>h) fun _ h=>h)) fun _ h=>(oC h (fun b_8 h=>(bL b_8 (oC h (fun _ h=>h) fun _ h=>h))) fun _ h=>(oC h (fun b_11 h=>(bL b_11 (oC h (fun _ h=>h) fun _ h=>h))) fun _ h=>(oC h (fun b_14 h=>(bL b_14 (oC h (fun _ h=>h) fun _ h=>h))) fun _ h=>(oC h (fun b_17 h=>(bL b_17 (oC h (fun _ h=>h) fun _ h=>h))) fun _ h=>(oC h (fun _ h=>(oC h (fun _ h=>h) fun _ h=>h)) fun _ h=>h))))))))
def c165:Con:=⟨[.dat aE,.any],fun args hp K=>g2 (pD aE) (pR aE) (fun k kind=>K (dB (!decide (k=kind))) []) args hp,.plain,false⟩
abbrev C165:Ctx:=cx [] 7 [] 0 false
def ann165:=an [[kp 3],[kp 8]] []
theorem vc165 (k:Int) (kind:Int) (K:KA):vcT C165 aA ann165 f165 [dI k,.ref (dI kind)] [] (.dat Ty.bool) K =
 (K (dB (!decide (k=kind))) []):=by kernel_rfl
theorem con165_ok:bg P 165 c165:=bq C165 func165 kN fun args hp K h0=>by
 obtain⟨k,kind,rfl,rfl,hK⟩:=g2e h0
 have h:ok (F.mG k kind) (fun r=>K (dB r) []):=az (F.qL k kind) hK
 refine⟨rfl,ann165,aA,(.dat Ty.bool),(aG (by kernel_rfl)),?_⟩
 ·rw[vc165]
  exact h
def c192:Con:=⟨[.lent aE,.any],fun args hp K=>args2 (fun a0 a1=>nH aE a0 fun xs=>oT 165 a1 (zl (fun b1_0=>Ac aE b1_0 fun k0=>(Sm (Ty.sl aE) xs)/\K (dI (M.idx (t:=aE) (fun e=>!decide (e=k0)) xs)) []))) args hp,.plain,false⟩
abbrev C192:Ctx:=cx [(165,c165)] 19 [] 0 false
def ann192:=an [[kp 3],[kp 387],[kp 899],[kp 419],[kp 65955],[kp 16],[kp 387],[kp 16]] [[kp 0]]
abbrev s192_0 (xs:LI) (k0:Int) (i0:Int) (v0:Unit):St:=⟨[(0,.brw aE xs),(1,.fn 165 [.ref (dI k0)]),(7,dI (xs.length:Int)),(8,dI i0)],[]⟩
abbrev LP192_0 (xs:LI) (k0:Int) (m:Nat) (st_:St) (K:KX):Prop:=True/\cI (s192_0 xs k0) Z0 (xs.length:Int) (F.cG xs k0) (fun v0:Unit=>True) (br (fun v0:Unit=>True->K (.exit 0) (⟨[],[]⟩:St)) (fun q0:Int=>K .ret (⟨[(4,dI q0)],[]⟩:St))) m st_
def L192 (xs:LI) (k0:Int):bE:=lp1 0 (LP192_0 xs k0)
theorem vc192 (xs:LI) (k0:Int) (K:KA):vcT C192 (L192 xs k0) ann192 f192 [.brw aE xs,.fn 165 [.ref (dI k0)]] [] (.dat aE) K =
 (∃m_,True/\cI (s192_0 xs k0) Z0 (xs.length:Int) (F.cG xs k0) (fun v0:Unit=>True) (br (fun v0:Unit=>True->K (dI (-1:Int)) []) (fun q0:Int=>K (dI q0) [])) m_ (s192_0 xs k0 Z0 ())):=by kernel_rfl
theorem lvc192_0 (xs:LI) (k0:Int)  (i0:Int) (v0:Unit) (m:Nat) (K:KX):lvT C192 (L192 xs k0) ann192 f192 0 0 (s192_0 xs k0 i0 v0) m K =
 (cond (decide (i0<(xs.length:Int))) ((0<=i0)/\(i0<(xs.length:Int))/\cond (!decide ((nI xs i0)=k0)) (K .ret (⟨[(4,dI i0)],[]⟩:St)) (nxT (LP192_0 xs k0) m K (s192_0 xs k0 (wrap64 (i0+Z1)) ()))) (K (.exit 0) (⟨[],[]⟩:St))):=by kernel_rfl
theorem con192_ok:bg P 192 c192:=bq C192 func192 (kC con165_ok kN) fun args hp K h0=>by
 obtain⟨a0,a1,rfl,rfl,h1⟩:=ck h0
 obtain⟨xs,rfl,h2⟩:=dV h1
 obtain⟨cs1,rfl,h3⟩:=eL h2
 obtain⟨b1_0,rfl,h4⟩:=mI h3
 obtain⟨k0,rfl,h5⟩:=mP h4
 obtain⟨h_xs,hK⟩:=h5
 have h:ok (F.gv xs k0) (fun r=>K (dI r) []):=az (F.jO xs k0 h_xs) hK
 refine⟨rfl,ann192,(L192 xs k0),(.dat aE),(bA (i0:=0) (by kernel_rfl) ?_),?_⟩
 ·rintro _ _ K ⟨hc0,i0,v0,rfl,hl0,rfl,hv0,h⟩
  exact cast (lvc192_0 _ _ _ _ _ _).symm (cj h (fun ht0 h=>⟨hl0,⟨ht0,(oC h (fun _ h=>h) fun _ h=>(aT (fun _ hm=>⟨hc0,hm⟩) _ rfl hl0 fS ht0 (aZ h_xs) trivial h))⟩⟩) fun h=>(h trivial))
 ·rw[vc192]
  exact(bN (fun m hm=>⟨trivial,hm⟩) Z0 _ rfl (Int.natCast_nonneg 0) trivial (aU h (fun v0 h hv0=>h) (fun q0 h=>h)))
def c164:Con:=⟨[.lent aE,.any],fun args hp K=>args2 (fun a0 a1=>nH aE a0 fun xs=>oT 165 a1 (zl (fun b1_0=>Ac aE b1_0 fun k0=>(Sm (Ty.sl aE) xs)/\K (dB (List.any xs (fun e=>!decide (e=k0)))) []))) args hp,.plain,false⟩
abbrev C164:Ctx:=cx [(165,c165),(192,c192)] 9 [] 0 false
def ann164:=an [[kp 3],[kp 16]] []
theorem vc164 (xs:LI) (k0:Int) (K:KA):vcT C164 aA ann164 f164 [.brw aE xs,.fn 165 [.ref (dI k0)]] [] (.dat Ty.bool) K =
 ((Sm (Ty.sl aE) xs)/\K (dB (decide (Z0<=(M.idx (t:=aE) (fun e=>!decide (e=k0)) xs)))) []):=by kernel_rfl
theorem con164_ok:bg P 164 c164:=bq C164 func164 (kC con165_ok (kC con192_ok kN)) fun args hp K h0=>by
 obtain⟨a0,a1,rfl,rfl,h1⟩:=ck h0
 obtain⟨xs,rfl,h2⟩:=dV h1
 obtain⟨cs1,rfl,h3⟩:=eL h2
 obtain⟨b1_0,rfl,h4⟩:=mI h3
 obtain⟨k0,rfl,h5⟩:=mP h4
 obtain⟨h_xs,hK⟩:=h5
 have h:ok (F.dn xs k0) (fun r=>K (dB r) []):=az (F.jm xs k0 h_xs) hK
 refine⟨rfl,ann164,aA,(.dat Ty.bool),(aG (by kernel_rfl)),?_⟩
 ·rw[vc164]
  exact⟨h_xs,h⟩
def c163:Con:=⟨[.dat aE,.any],fun args hp K=>g2 (pD aE) (pQ aE) (fun kind ins=>(Sm (Ty.sl aE) ins)/\K (dB (List.all ins (fun k=>decide (k=kind)))) []) args hp,.plain,false⟩
abbrev C163:Ctx:=cx [(164,c164),(165,c165)] 8 [] 0 false
def ann163:=an [[.fixBox 2,kp 6],[kp 8]] []
theorem vc163 (kind:Int) (ins:LI) (K:KA):vcT C163 aA ann163 f163 [dI kind,.ref (.brw aE ins)] [] (.dat Ty.bool) K =
 ((Sm (Ty.sl aE) ins)/\K (dB (!(List.any ins (fun e=>!decide (e=kind))))) []):=by kernel_rfl
theorem con163_ok:bg P 163 c163:=bq C163 func163 (kC con164_ok (kC con165_ok kN)) fun args hp K h0=>by
 obtain⟨kind,ins,rfl,rfl,h_ins,hK⟩:=g2e h0
 have h:ok (F.kf kind ins) (fun r=>K (dB r) []):=az (F.sL kind ins h_ins) hK
 refine⟨rfl,ann163,aA,(.dat Ty.bool),(aG (by kernel_rfl)),?_⟩
 ·rw[vc163]
  exact⟨h_ins,h⟩
def c110:Con:=⟨[.dat aC,.dat TCS,.lent aE],fun args hp K=>g3 (pD aC) (pD TCS) (pB aE) (fun p columns inp=>(Sm aC p)/\(Sm TCS columns)/\(Sm (Ty.sl aE) inp)/\(M.lQ p columns=true)/\((inp.length:Int)=M.takes p)/\(LD (M.cP p columns inp) fun r=>K (.tup [dI r.1,dB r.2]) [])) args hp,.plain,false⟩
abbrev C110:Ctx:=cx [(163,c163)] 42 [] 0 false
def ann110:=an [[.fixRow 3 aC,.fixBox 5,kp 42],[kp 298],[kp 2346],[kp 6442],[kp 192],[kp 133418],[kp 192],[kp 33556768],[kp 192],[kp 536873248],[kp 192],[.keep [8,38]],[kp 192],[kp 192]] []
theorem vc110 (p:aC.D) (columns:LC) (inp:LI) (K:KA):vcT C110 aA ann110 f110 [.data aC p,.data TCS columns,.brw aE inp] [] (.tup [aE,Ty.bool]) K =
 (cond (decide (p.1=Z1)) (K (.tup [dI p.2.2.1.1,dB true]) []) (cond (decide (p.1=Z2)) ((0<=p.2.1)/\(p.2.1<(columns.length:Int))/\K (.tup [dI (nC columns p.2.1).1,dB true]) []) (cond (decide (p.1=Z3)) ((Sm (Ty.sl aE) inp)/\K (.tup [dI Z1,dB (List.all inp (fun k=>decide (k=Z1)))]) []) (cond (decide (p.1=Z4)) ((0<=Z0)/\(Z0<(inp.length:Int))/\(0<=Z1)/\(Z1<(inp.length:Int))/\K (.tup [dI Z3,dB (decide ((nI inp Z0)=(nI inp Z1)))]) []) (cond (decide (p.1=(8:Int))) (K (.tup [dI Z3,dB true]) []) ((Sm (Ty.sl aE) inp)/\K (.tup [dI Z3,dB (List.all inp (fun k=>decide (k=Z3)))]) [])))))):=by kernel_rfl
theorem con110_ok:bg P 110 c110:=bq C110 func110 (kC con163_ok kN) fun args hp K h0=>by
 obtain⟨p,columns,inp,rfl,rfl,h_p,h_columns,h_inp,p0,p1,hK⟩:=g3e h0
 have h:ok (F.mX p columns inp) (fun r=>K (.tup [dI r.1,dB r.2]) []):=az (F.vD p columns inp h_p h_columns h_inp p0 p1) (hK _ rfl)
 refine⟨rfl,ann110,aA,(.tup [aE,Ty.bool]),(aG (by kernel_rfl)),?_⟩
 ·rw[vc110]
  exact(oC h (fun _ h=>h) fun _ h=>(oC h (fun _ h=>(oG h fun _ h=>(oG h fun _ h=>h))) fun _ h=>(oC h (fun _ h=>⟨h_inp,h⟩) fun _ h=>(oC h (fun _ h=>⟨(Int.natCast_nonneg 0),(oG h fun _ h=>⟨(Int.natCast_nonneg 1),(oG h fun _ h=>h)⟩)⟩) fun _ h=>(oC h (fun _ h=>h) fun _ h=>⟨h_inp,h⟩)))))
def c64:Con:=⟨[.dat TCS,.dat TPS],fun args hp K=>g2 (pD TCS) (pD TPS) (fun columns e=>(Sm TCS columns)/\(Sm TPS e)/\K (dI (M.bZ columns e)) []) args hp,.plain,false⟩
abbrev C64:Ctx:=cx [(107,c107),(108,c108),(109,c109),(110,c110)] 67 [] 0 false
def ann64:=an [[kp 3],[kp 262147],[kp 16],[kp 35],[kp 3670049],[kp 7864353],[.fixRow 7 aC,kp 3670177],[kp 3670433],[kp 68723147169],[kp 16],[kp 3671841],[kp 1125899910513441],[kp 16],[kp 3670049],[kp 3670049],[.keep [5,63]],[kp 16],[kp 16]] [[kp 32]]
abbrev s64_0 (columns:LC) (e:LPt) (i0:Int) (v0:LI):St:=⟨[(0,.data TCS columns),(5,.own 5 none),(19,.data TPS e),(20,dI (e.length:Int)),(21,dI i0)],[(5,.arr false aE v0)]⟩
abbrev LP64_0 (columns:LC) (e:LPt) (m:Nat) (st_:St) (K:KX):Prop:=True/\bF (t:=aC) (s64_0 columns e) e (F.eG columns e) (fun v0:LI=>True) (br (fun v0:LI=>True->K (.exit 0) (⟨[(5,.own 5 none)],[(5,.arr false aE v0)]⟩:St)) (fun q0:Unit=>K .ret (⟨[(4,dI (-1:Int))],[]⟩:St))) m st_
def L64 (columns:LC) (e:LPt):bE:=lp1 0 (LP64_0 columns e)
theorem vc64 (columns:LC) (e:LPt) (K:KA):vcT C64 (L64 columns e) ann64 f64 [.data TCS columns,.data TPS e] [] (.dat aE) K =
 ((Sm TCS columns)/\cond ((!(M.bJ columns))==false) (cond (decide ((12:Int)<(e.length:Int))) (K (dI (-1:Int)) []) (∃m_,True/\bF (t:=aC) (s64_0 columns e) e (F.eG columns e) (fun v0:LI=>True) (br (fun v0:LI=>True->cond (!decide ((v0.length:Int)=Z1)) (K (dI (-1:Int)) []) ((0<=Z0)/\(Z0<(v0.length:Int))/\K (dI (nI v0 Z0)) [])) (fun q0:Unit=>K (dI (-1:Int)) [])) m_ (s64_0 columns e Z0 []))) (K (dI (-1:Int)) [])):=by kernel_rfl
theorem lvc64_0 (columns:LC) (e:LPt)  (i0:Int) (v0:LI) (m:Nat) (K:KX):lvT C64 (L64 columns e) ann64 f64 0 0 (s64_0 columns e i0 v0) m K =
 (cond (decide (i0<(e.length:Int))) ((0<=i0)/\(i0<(e.length:Int))/\(Sm aC (nP e i0))/\(Sm aC (nP e i0))/\(Sm TCS columns)/\cond ((!(M.lQ (nP e i0) columns))==false) (cond (decide ((v0.length:Int)<(M.takes (nP e i0)))) (K .ret (⟨[(4,dI (-1:Int))],[]⟩:St)) ((0<=wrap64 ((v0.length:Int)-(M.takes (nP e i0))))/\(wrap64 ((v0.length:Int)-(M.takes (nP e i0)))<=(v0.length:Int))/\((v0.length:Int)<=(v0.length:Int))/\((v0.length:Int)=(v0.length:Int))/\(Sm aC (nP e i0))/\(Sm TCS columns)/\(Sm (Ty.sl aE) (aj v0 (some (wrap64 ((v0.length:Int)-(M.takes (nP e i0))),(v0.length:Int)))))/\(M.lQ (nP e i0) columns=true)/\(((aj v0 (some (wrap64 ((v0.length:Int)-(M.takes (nP e i0))),(v0.length:Int)))).length:Int)=M.takes (nP e i0))/\(LD (M.cP (nP e i0) columns (aj v0 (some (wrap64 ((v0.length:Int)-(M.takes (nP e i0))),(v0.length:Int))))) fun r1=>cond (!r1.2) (K .ret (⟨[(4,dI (-1:Int))],[]⟩:St)) ((0<=Z0)/\(Z0<=wrap64 ((v0.length:Int)-(M.takes (nP e i0))))/\(wrap64 ((v0.length:Int)-(M.takes (nP e i0)))<=(v0.length:Int))/\(wrap64 ((v0.length:Int)-(M.takes (nP e i0)))=wrap64 ((v0.length:Int)-(M.takes (nP e i0))))/\(Z0=0)/\(((wrap64 ((v0.length:Int)-(M.takes (nP e i0)))).toNat+[r1.1].length) * 8<=lim)/\(nxT (LP64_0 columns e) m K (s64_0 columns e (wrap64 (i0+Z1)) (v0.take (wrap64 ((v0.length:Int)-(M.takes (nP e i0)))).toNat++[r1.1]))))))) (K .ret (⟨[(4,dI (-1:Int))],[]⟩:St))) (K (.exit 0) (⟨[(5,.own 5 none)],[(5,.arr false aE v0)]⟩:St))):=by kernel_rfl
theorem con64_ok:bg P 64 c64:=bq C64 func64 (kC con107_ok (kC con108_ok (kC con109_ok (kC con110_ok kN)))) fun args hp K h0=>by
 obtain⟨columns,e,rfl,rfl,h_columns,h_e,hK⟩:=g2e h0
 have h:ok (F.nL columns e) (fun r=>K (dI r) []):=az (F.vZ columns e h_columns h_e) hK
 refine⟨rfl,ann64,(L64 columns e),(.dat aE),(bA (i0:=0) (by kernel_rfl) ?_),?_⟩
 ·rintro _ _ K ⟨hc0,i0,v0,rfl,hl0,rfl,hv0,h⟩
  exact cast (lvc64_0 _ _ _ _ _ _).symm (bf (t:=aC) hl0 h (fun ht0 h=>⟨hl0,⟨ht0,⟨(aH h_e i0),⟨(aH h_e i0),⟨h_columns,(oC h (fun b_37 h=>(oC h (fun _ h=>h) fun _ h=>(oG h fun _ h=>(oG h fun g1 h=>⟨(Int.le_refl _),⟨rfl,⟨(aH h_e i0),⟨h_columns,(oG h fun _ h=>⟨(bnf (bgt b_37)),(oG h fun _ h=>(oL h fun _ _ h=>(oC h (fun _ h=>h) fun _ h=>⟨(Int.natCast_nonneg 0),(oG h fun _ h=>⟨g1,⟨rfl,⟨rfl,(oG h fun _ h=>(aQ (t:=aC) (fun _ hm=>⟨hc0,hm⟩) _ rfl hl0 ht0 (aZ h_e) trivial h))⟩⟩⟩)⟩)))⟩)⟩⟩⟩⟩)))) fun _ h=>h)⟩⟩⟩⟩⟩) fun h=>(h trivial))
 ·rw[vc64]
  exact⟨h_columns,(oC h (fun _ h=>(oC h (fun _ h=>h) fun _ h=>(aR (t:=aC) (fun m hm=>⟨trivial,hm⟩) _ rfl trivial (aU h (fun v0 h hv0=>(oC h (fun _ h=>h) fun _ h=>⟨(Int.natCast_nonneg 0),(oG h fun _ h=>h)⟩)) (fun q0 h=>h))))) fun _ h=>h)⟩
def c128:Con:=⟨[.dat ah],fun args hp K=>g1 (pD ah) (fun s=>(Sm ah s)/\K (dB (M.bM s)) []) args hp,.plain,false⟩
abbrev C128:Ctx:=cx [] 67 [] 0 false
def ann128:=an [[.fixRow 1 ah,kp 2],[kp 10],[kp 26],[kp 4]] []
abbrev S128_0 (s:ah.D) (K:KA):Prop:=cond ((decide (s.1=Z3))==false) (K (dB (decide ((s.2.2.2.2.2.1.length:Int)=Z0))) []) (K (dB true) [])
abbrev S128_1 (s:ah.D) (K:KA):Prop:=cond ((decide (s.1=Z4))==false) (cond ((decide ((s.2.2.2.2.1.length:Int)=Z0))==true) (S128_0 s K) (K (dB false) [])) (S128_0 s K)
abbrev S128_2 (s:ah.D) (K:KA):Prop:=cond ((decide (s.1=Z1))==false) (cond ((decide (s.2.2.2.1=Z0))==true) (S128_1 s K) (K (dB false) [])) (S128_1 s K)
abbrev S128_3 (s:ah.D) (K:KA):Prop:=cond ((decide (s.1=Z5))==false) (cond ((decide (s.2.2.1=Z0))==true) (S128_2 s K) (K (dB false) [])) (S128_2 s K)
abbrev S128_4 (s:ah.D) (K:KA):Prop:=cond ((decide (s.1=Z1))==false) (cond ((decide (s.2.2.2.1=Z0))==true) (S128_0 s K) (K (dB false) [])) (S128_0 s K)
abbrev S128_5 (s:ah.D) (K:KA):Prop:=cond ((decide (s.1=Z5))==false) (cond ((decide (s.2.2.1=Z0))==true) (S128_4 s K) (K (dB false) [])) (S128_4 s K)
theorem vc128 (s:ah.D) (K:KA):vcT C128 aA ann128 f128 [.data ah s] [] (.dat Ty.bool) K =
 (cond ((decide (s.1=Z4))==false) (cond ((decide (s.1=Z2))==false) (cond ((!decide (s.1=Z1))==false) (cond ((decide (s.2.1=Z0))==true) (S128_3 s K) (K (dB false) [])) (S128_3 s K)) (cond ((!decide (s.1=Z1))==false) (cond ((decide (s.2.1=Z0))==true) (S128_5 s K) (K (dB false) [])) (S128_5 s K))) (cond ((decide (s.1=Z2))==false) (cond ((!decide (s.1=Z1))==false) (cond ((decide (s.2.1=Z0))==true) (S128_2 s K) (K (dB false) [])) (S128_2 s K)) (cond ((!decide (s.1=Z1))==false) (cond ((decide (s.2.1=Z0))==true) (S128_4 s K) (K (dB false) [])) (S128_4 s K)))):=by kernel_rfl
theorem con128_ok:bg P 128 c128:=bq C128 func128 kN fun args hp K h0=>by
 obtain⟨s,rfl,rfl,h_s,hK⟩:=g1e h0
 have h:ok (F.lK s) (fun r=>K (dB r) []):=az (F.uf s h_s) hK
 refine⟨rfl,ann128,aA,(.dat Ty.bool),(aG (by kernel_rfl)),?_⟩
 ·rw[vc128]
  exact(oC h (fun b_1 h=>(oC h (fun _ h=>(oC h (fun b_3 h=>(oC h (fun _ h=>(bL (ugt (cM (bnf (bgt b_3)) (by decide))) (oC h (fun _ h=>(cY (ugf (bnf (bgt b_3))) (bL (ugt (bgt b_1)) (oC h (fun _ h=>(bL (ugt (cM (bnf (bgt b_3)) (by decide))) h)) fun _ h=>h)))) fun _ h=>h))) fun _ h=>h)) fun b_3 h=>(oC h (fun _ h=>(oC h (fun _ h=>(bL (ugt (bnt (bgf b_3))) (oC h (fun _ h=>(bL (ugt (bgt b_1)) (oC h (fun _ h=>(oC h (fun _ h=>h) fun _ h=>h)) fun _ h=>h))) fun _ h=>h))) fun _ h=>h)) fun b_27 h=>(bL (ugt (bnt (bgf b_3))) (oC h (fun _ h=>(bL (ugt (bgt b_1)) (oC h (fun _ h=>(bL (ugt (cM (bgf b_27) (by decide))) h)) fun _ h=>h))) fun _ h=>h))))) fun b_2 h=>(cY (ugf (unt (cM (bgf b_2) (by decide)))) (bL (ugt (cM (bgf b_2) (by decide))) (oC h (fun _ h=>(bL (ugt (cM (bgf b_2) (by decide))) (oC h (fun _ h=>(bL (ugt (cM (bgf b_2) (by decide))) h)) fun _ h=>h))) fun _ h=>h))))) fun b_1 h=>(bL (ugt (cM (bgf b_1) (by decide))) (cY (ugf (unt (cM (bgf b_1) (by decide)))) (bL (ugt (cM (bgf b_1) (by decide))) (oC h (fun _ h=>(cY (ugf (bgf b_1)) (bL (ugt (cM (bgf b_1) (by decide))) h))) fun _ h=>h)))))
def c173:Con:=⟨[.any,.dat aE],fun args hp K=>args2 (fun a0 a1=>Ds a0 (eV aE a1 fun n=>(0<=n)/\(n<=1099511627776)/\(LD ([]:List ag.D) fun r=>K (.own 0 none) [(0,.arr false ag r)]))) args hp,.plain,false⟩
abbrev C173:Ctx:=cx [] 27 [] 0 false
def ann173:=an [[kp 3],[kp 67],[kp 3],[kp 3],[kp 65539],[kp 1],[kp 16]] []
theorem vc173 (n:Int) (K:KA):vcT C173 aA ann173 f173 [.cst (.slice none 0 0),dI n] [] .raw K =
 (cond (decide (n<Z0)) False (cond (decide (Z0<wrap64 (n-(wrap64 (Z0-Z0))))) ((0<=Z0)/\(Z0<=Z0)/\(Z0<=Z0)/\(Z0=Z0)/\(0<=wrap64 (n-(wrap64 (Z0-Z0))))/\((wrap64 (n-(wrap64 (Z0-Z0)))) * 16<=(lim:Int))/\(0<=Z0)/\(Z0<=Z0)/\(Z0<=((List.replicate (wrap64 (n-(wrap64 (Z0-Z0)))).toNat (Z0,(false,()))).length:Int))/\(Z0=Z0)/\(Z0=0)/\K (.own 0 none) [(0,.arr false ag ((List.replicate (wrap64 (n-(wrap64 (Z0-Z0)))).toNat (Z0,(false,()))).take Z0.toNat))]) (K (.own 0 none) [(0,.arr false ag [])]))):=by kernel_rfl
theorem con173_ok:bg P 173 c173:=bq C173 func173 kN fun args hp K h0=>by
 obtain⟨a0,a1,rfl,rfl,h1⟩:=ck h0
 obtain⟨rfl,h2⟩:=ug h1
 obtain⟨n,rfl,h3⟩:=bw h2
 obtain⟨p0,p1,hK⟩:=h3
 have h:ok (F.pG n) (fun r=>K (.own 0 none) [(0,.arr false ag r)]):=az (F.yA n p0 p1) (hK _ rfl)
 refine⟨rfl,ann173,aA,.raw,(aG (by kernel_rfl)),?_⟩
 ·rw[vc173]
  exact(oC h (fun _ h=>h) fun _ h=>(oC h (fun _ h=>⟨(Int.natCast_nonneg 0),⟨(Int.le_refl _),⟨(Int.le_refl _),⟨rfl,(oG h fun _ h=>(oG h fun _ h=>⟨(Int.natCast_nonneg 0),⟨(Int.le_refl _),⟨(Int.natCast_nonneg _),⟨rfl,⟨rfl,h⟩⟩⟩⟩⟩))⟩⟩⟩⟩) fun _ h=>h))
def c129:Con:=⟨[.dat (Ty.sl TCS)],fun args hp K=>g1 (pD (Ty.sl TCS)) (fun xss=>(Sm (Ty.sl TCS) xss)/\(LD (List.flatten xss) fun r=>K (.own 0 none) [(0,.arr false ag r)])) args hp,.plain,false⟩
abbrev C129:Ctx:=cx [(173,c173)] 36 [] 0 false
def ann129:=an [[kp 1],[kp 9],[kp 3593],[kp 7689],[kp 3625],[kp 3593],[kp 1052169],[kp 3593],[kp 3593],[kp 65],[kp 234881088],[kp 503316544],[kp 234881344],[kp 234881088],[kp 234881088],[kp 4]] [[kp 9],[],[kp 64]]
abbrev s129_0 (xss:(List LC)) (i0:Int) (v0:Int):St:=⟨[(0,.data (Ty.sl TCS) xss),(3,dI v0),(9,.data (Ty.sl TCS) xss),(10,dI (xss.length:Int)),(11,dI i0)],[]⟩
abbrev LP129_0 (xss:(List LC)) (m:Nat) (st_:St) (K:KX):Prop:=True/\bF (t:=TCS) (s129_0 xss) xss (F.gN xss) (fun v0:Int=>True) (br (fun v0:Int=>True->K (.exit 0) (⟨[(0,.data (Ty.sl TCS) xss),(3,dI v0)],[]⟩:St)) (fun _=>False)) m st_
abbrev s129_2 (xss:(List LC)) (i2:Int) (v2:LC):St:=⟨[(6,.own 24 none),(25,.data (Ty.sl TCS) xss),(26,dI (xss.length:Int)),(27,dI i2)],[(24,.arr false ag v2)]⟩
abbrev LP129_2 (xss:(List LC)) (m:Nat) (st_:St) (K:KX):Prop:=True/\bF (t:=TCS) (s129_2 xss) xss (F.gP xss) (fun v2:LC=>True) (br (fun v2:LC=>True->K (.exit 2) (⟨[(6,.own 24 none)],[(24,.arr false ag v2)]⟩:St)) (fun _=>False)) m st_
def L129 (xss:(List LC)):bE:=lp2 0 (LP129_0 xss) 2 (LP129_2 xss)
theorem vc129 (xss:(List LC)) (K:KA):vcT C129 (L129 xss) ann129 f129 [.data (Ty.sl TCS) xss] [] .raw K =
 (∃m_,True/\bF (t:=TCS) (s129_0 xss) xss (F.gN xss) (fun v0:Int=>True) (br (fun v0:Int=>True->(0<=v0)/\(v0<=1099511627776)/\(LD ([]:List ag.D) fun r1=>(∃m_,True/\bF (t:=TCS) (s129_2 xss) xss (F.gP xss) (fun v2:LC=>True) (br (fun v2:LC=>True->K (.own 0 none) [(0,.arr false ag v2)]) (fun _=>False)) m_ (s129_2 xss Z0 r1)))) (fun _=>False)) m_ (s129_0 xss Z0 Z0)):=by kernel_rfl
theorem lvc129_0 (xss:(List LC))  (i0:Int) (v0:Int) (m:Nat) (K:KX):lvT C129 (L129 xss) ann129 f129 0 0 (s129_0 xss i0 v0) m K =
 (cond (decide (i0<(xss.length:Int))) ((0<=i0)/\(i0<(xss.length:Int))/\cond (decide (wrap64 (v0+((nth (t:=TCS) xss i0).length:Int))<Z0)) False (nxT (LP129_0 xss) m K (s129_0 xss (wrap64 (i0+Z1)) (wrap64 (v0+((nth (t:=TCS) xss i0).length:Int)))))) (K (.exit 0) (⟨[(0,.data (Ty.sl TCS) xss),(3,dI v0)],[]⟩:St))):=by kernel_rfl
theorem lvc129_1 (xss:(List LC))  (i2:Int) (v2:LC) (m:Nat) (K:KX):lvT C129 (L129 xss) ann129 f129 1 2 (s129_2 xss i2 v2) m K =
 (cond (decide (i2<(xss.length:Int))) ((0<=i2)/\(i2<(xss.length:Int))/\((v2.length+(nth (t:=TCS) xss i2).length) * 16<=lim)/\(nxT (LP129_2 xss) m K (s129_2 xss (wrap64 (i2+Z1)) (v2++(nth (t:=TCS) xss i2))))) (K (.exit 2) (⟨[(6,.own 24 none)],[(24,.arr false ag v2)]⟩:St))):=by kernel_rfl
theorem con129_ok:bg P 129 c129:=bq C129 func129 (kC con173_ok kN) fun args hp K h0=>by
 obtain⟨xss,rfl,rfl,h_xss,hK⟩:=g1e h0
 have h:ok (F.mC xss) (fun r=>K (.own 0 none) [(0,.arr false ag r)]):=az (F.uC xss h_xss) (hK _ rfl)
 refine⟨rfl,ann129,(L129 xss),.raw,(sw (i0:=0) (i1:=2) (by kernel_rfl) ?_ ?_),?_⟩
 ·rintro _ _ K ⟨hc0,i0,v0,rfl,hl0,rfl,hv0,h⟩
  exact cast (lvc129_0 _ _ _ _ _).symm (bf (t:=TCS) hl0 h (fun ht0 h=>⟨hl0,⟨ht0,(oC h (fun _ h=>h) fun _ h=>(aQ (t:=TCS) (fun _ hm=>⟨hc0,hm⟩) _ rfl hl0 ht0 (aZ h_xss) trivial h))⟩⟩) fun h=>(h trivial))
 ·rintro _ _ K ⟨hc2,i2,v2,rfl,hl2,rfl,hv2,h⟩
  exact cast (lvc129_1 _ _ _ _ _).symm (bf (t:=TCS) hl2 h (fun ht2 h=>⟨hl2,⟨ht2,(oG h fun _ h=>(aQ (t:=TCS) (fun _ hm=>⟨hc2,hm⟩) _ rfl hl2 ht2 (aZ h_xss) trivial h))⟩⟩) fun h=>(h trivial))
 ·rw[vc129]
  exact(aR (t:=TCS) (fun m hm=>⟨trivial,hm⟩) _ rfl trivial (aU h (fun v0 h hv0=>(oG h fun _ h=>(oG h fun _ h=>(oL h fun _ _ h=>(aR (t:=TCS) (fun m hm=>⟨trivial,hm⟩) _ rfl trivial (aU h (fun v2 h hv2=>h) (fun _ h=>h.elim))))))) (fun _ h=>h.elim)))
abbrev C174:Ctx:=cx [] 9 [] 400000 true
def T174:Inl:=sO C174 (fun _=>[]) (dr f174) f174.results.toList
theorem inlOk174:uj P 174 T174:=yz C174 func174 kN
def c130:Con:=⟨[.dat TCS],fun args hp K=>g1 (pD TCS) (fun xs=>(Sm TCS xs)/\(LD xs fun r=>K (.clp 0 (r.length:Int)) [(0,.arr false ag r)])) args hp,.bor,false⟩
abbrev C130:Ctx:=cx [] 9 [(174,T174)] 0 true
def ann130:=an [[kp 1],[kp 33],[.clip 2,kp 4],[kp 4]] []
theorem vc130 (xs:LC) (K:KA):vcT C130 aA ann130 f130 [.data TCS xs] [] .raw K =
 (cond (decide ((xs.length:Int)=Z0)) (K (.clp 0 (([]:List ag.D).length:Int)) [(0,.arr false ag ([]:List ag.D))]) ((xs.length * 16<=lim)/\(0<=Z0)/\(Z0<=(xs.length:Int))/\((xs.length:Int)<=(xs.length:Int))/\((xs.length:Int)=(xs.length:Int))/\(Z0=0)/\K (.clp 0 ((xs.take (xs.length:Int).toNat).length:Int)) [(0,.arr false ag (xs.take (xs.length:Int).toNat))])):=by kernel_rfl
theorem con130_ok:bg P 130 c130:=bq C130 func130 (kI inlOk174 kN) fun args hp K h0=>by
 obtain⟨xs,rfl,rfl,h_xs,hK⟩:=g1e h0
 have h:ok (F.sV xs) (fun r=>K (.clp 0 (r.length:Int)) [(0,.arr false ag r)]):=az (F.wQ xs h_xs) (hK _ rfl)
 refine⟨rfl,ann130,aA,.raw,(aG (by kernel_rfl)),?_⟩
 ·rw[vc130]
  exact(oC h (fun _ h=>h) fun _ h=>⟨(Al h_xs rfl),⟨(Int.natCast_nonneg 0),⟨(Int.natCast_nonneg _),⟨(Int.le_refl _),⟨rfl,⟨rfl,h⟩⟩⟩⟩⟩⟩)
def c79:Con:=⟨[.dat ah,.dat TTb,.lent aI],fun args hp K=>g3 (pD ah) (pD TTb) (pB aI) (fun s tables ahead=>(Sm ah s)/\(Sm TTb tables)/\(Sm (Ty.sl aI) ahead)/\(LD (M.make s tables ahead) fun r=>K (.tup [.data aI r.1,dB r.2]) [])) args hp,.plain,false⟩
abbrev C79:Ctx:=cx [(60,c60),(64,c64),(128,c128),(129,c129),(130,c130)] 201 [] 0 true
def ann79:=an [[.fixRow 3 ah,kp 78],[kp 33554510],[kp 192],[kp 536870990],[kp 68719476810],[kp 192],[kp 192],[.keep [2,3,6,60]],[kp 192],[.fixRow 8 aI,.fixRow 9 aI,kp 840],[.keep [3,6,8,9,73]],[kp 28334198897217871283016],[kp 192],[.keep [3,6,8,9,73,83]],[kp 1352],[.mineC false 10 0 800160 ag,kp 4332790137498830962146936136],[kp 9284550294640352061743433032],[kp 4332790137498830962146940232],[kp 2539633990593957633955553350984],[kp 192],[kp 4332790137498830962146936136],[kp 4332790137498830962146936136],[.freeze 800160,kp 192],[.keep [3,6,8,9,73,119]],[.fixRow 13 aI,kp 8264],[.freeze 126,kp 192],[.keep [6,8,9,146]],[.fixRow 14 aI,kp 17216],[.keep [6,9,14,163]],[kp 192],[.keep [6,14,166,167,168]],[.keep [6,14,166,167,168,169]],[.fixRow 16 ag,.keep [6,14,15,16,166,167,168]],[.keep [6,14,15,16,166,167,168,181]],[kp 192],[.keep [6,14,166,167,168]],[.keep [6,14,166,167,168]],[.freeze 150,kp 192],[kp 192]] [[],[kp 1096],[],[kp 16448]]
abbrev s79_1 (s:ah.D) (tables:LTb) (ahead:(List aI.D)) (i1:Int) (v1:LC):St:=⟨[(3,.adr ah s),(6,.ptr 6 0),(8,.adr aI (nM ahead s.2.1)),(10,.ptr 10 0),(89,.data (Ty.sl aE) s.2.2.2.2.2.1),(90,dI (s.2.2.2.2.2.1.length:Int)),(91,dI i1)],[(6,.box [.cst (.slice none 0 0),dI Z0]),(10,.box [.own 800160 none,dI (nM ahead s.2.1).2.1]),(800160,.arr false ag v1)]⟩
abbrev LP79_1 (s:ah.D) (tables:LTb) (ahead:(List aI.D)) (m:Nat) (st_:St) (K:KX):Prop:=True/\bF (t:=aE) (s79_1 s tables ahead) s.2.2.2.2.2.1 (F.gM s tables ahead) (fun v1:LC=>True) (br (fun v1:LC=>True->K (.exit 1) (⟨[(3,.adr ah s),(6,.ptr 6 0),(10,.ptr 10 0)],[(6,.box [.cst (.slice none 0 0),dI Z0]),(10,.box [.own 800160 none,dI (nM ahead s.2.1).2.1]),(800160,.arr false ag v1)]⟩:St)) (fun q1:Unit=>K .ret (⟨[(6,.ptr 6 0),(7,dB false)],[(6,.box [.cst (.slice none 0 0),dI Z0])]⟩:St))) m st_
abbrev s79_3 (s:ah.D) (tables:LTb) (ahead:(List aI.D)) (c3_0:Int) (i3:Int) (v3:LC):St:=⟨[(6,.ptr 6 0),(14,.ptr 14 0),(166,.data TCS (nM ahead s.2.2.1).1),(167,dI ((nM ahead s.2.2.1).1.length:Int)),(168,dI i3)],[(6,.box [.cst (.slice none 0 0),dI Z0]),(14,.box [.clp 150 c3_0,dI (wrap64 ((nM ahead s.2.1).2.1+(nM ahead s.2.2.1).2.1))]),(150,.arr false ag v3)]⟩
abbrev LP79_3 (s:ah.D) (tables:LTb) (ahead:(List aI.D)) (m:Nat) (st_:St) (K:KX):Prop:=∃c3_0:Int,True/\cI (s79_3 s tables ahead c3_0) Z0 ((nM ahead s.2.2.1).1.length:Int) (F.fj s tables ahead c3_0) (fun v3:LC=>True) (br (fun v3:LC=>True->K (.exit 3) (⟨[(6,.ptr 6 0),(14,.ptr 14 0)],[(6,.box [.cst (.slice none 0 0),dI Z0]),(14,.box [.clp 150 c3_0,dI (wrap64 ((nM ahead s.2.1).2.1+(nM ahead s.2.2.1).2.1))]),(150,.arr false ag v3)]⟩:St)) (fun q3:Unit=>K .ret (⟨[(6,.ptr 6 0),(7,dB false)],[(6,.box [.cst (.slice none 0 0),dI Z0])]⟩:St))) m st_
def L79 (s:ah.D) (tables:LTb) (ahead:(List aI.D)):bE:=lp2 1 (LP79_1 s tables ahead) 3 (LP79_3 s tables ahead)
abbrev S79_0 (s:ah.D) (tables:LTb) (ahead:(List aI.D)) (K:KA):Prop:=(Sm (Ty.sl TCS) [(nM ahead s.2.1).1,(nM ahead s.2.2.1).1])/\(LD (List.flatten [(nM ahead s.2.1).1,(nM ahead s.2.2.1).1]) fun r1=>cond ((decide ((r1.length:Int)<=Z4))==true) ((Sm TCS r1)/\(Sm TPS s.2.2.2.2.1)/\Q0 (K (.tup [.data aI (r1,(wrap64 ((nM ahead s.2.1).2.1 * (nM ahead s.2.2.1).2.1),())),dB (decide ((M.bZ r1 s.2.2.2.2.1)=Z3))]) [])) (Q0 (K (.tup [.data aI (r1,(wrap64 ((nM ahead s.2.1).2.1 * (nM ahead s.2.2.1).2.1),())),dB false]) [])))
abbrev S79_1 (s:ah.D) (tables:LTb) (ahead:(List aI.D)) (K:KA):Prop:=(Sm TCS (nM ahead s.2.1).1)/\(LD (nM ahead s.2.1).1 fun r2=>cond (!decide (((nM ahead s.2.1).1.length:Int)=((nM ahead s.2.2.1).1.length:Int))) (K (.tup [.data aI ([],(Z0,())),dB false]) []) (∃m_,∃c3_0:Int,True/\cI (s79_3 s tables ahead c3_0) Z0 ((nM ahead s.2.2.1).1.length:Int) (F.fj s tables ahead c3_0) (fun v3:LC=>True) (br (fun v3:LC=>True->K (.tup [.data aI ((aj v3 (some (Z0,c3_0))),(wrap64 ((nM ahead s.2.1).2.1+(nM ahead s.2.2.1).2.1),())),dB true]) []) (fun q3:Unit=>K (.tup [.data aI ([],(Z0,())),dB false]) [])) m_ (s79_3 s tables ahead (r2.length:Int) Z0 r2)))
abbrev S79_2 (s:ah.D) (tables:LTb) (ahead:(List aI.D)) (K:KA):Prop:=cond (decide (s.1=Z2)) ((Sm TCS (nM ahead s.2.1).1)/\(Sm TPS s.2.2.2.2.1)/\K (.tup [.data aI (nM ahead s.2.1),dB (decide ((M.bZ (nM ahead s.2.1).1 s.2.2.2.2.1)=Z3))]) []) (cond (decide (s.1=Z3)) (∃m_,True/\bF (t:=aE) (s79_1 s tables ahead) s.2.2.2.2.2.1 (F.gM s tables ahead) (fun v1:LC=>True) (br (fun v1:LC=>True->Q0 (K (.tup [.data aI (v1,(nM ahead s.2.1).2),dB (decide ((s.2.2.2.2.2.1.length:Int)<=Z4))]) [])) (fun q1:Unit=>K (.tup [.data aI ([],(Z0,())),dB false]) [])) m_ (s79_1 s tables ahead Z0 [])) (cond (decide (s.1=Z4)) (Q1 (S79_0 s tables ahead K)) (cond (decide (s.1=Z5)) (Q0 (S79_1 s tables ahead K)) (K (.tup [.data aI (nM ahead s.2.1),dB true]) []))))
abbrev S79_3 (s:ah.D) (tables:LTb) (ahead:(List aI.D)) (K:KA):Prop:=(S79_2 s tables ahead K)
theorem vc79 (s:ah.D) (tables:LTb) (ahead:(List aI.D)) (K:KA):vcT C79 (L79 s tables ahead) ann79 f79 [.data ah s,.data TTb tables,.brw aI ahead] [] (.tup [aI,Ty.bool]) K =
 ((Sm ah s)/\cond ((!(M.bM s))==false) (cond (!(M.inR s.1 Z1 Z6)) (K (.tup [.data aI ([],(Z0,())),dB false]) []) (cond (decide (s.1=Z1)) (cond (!(M.inR s.2.2.2.1 Z0 (wrap64 ((tables.length:Int)-Z1)))) (K (.tup [.data aI ([],(Z0,())),dB false]) []) ((0<=s.2.2.2.1)/\(s.2.2.2.1<(tables.length:Int))/\K (.tup [.data aI ((nT tables s.2.2.2.1).1,(Z6,())),dB true]) [])) (cond ((!(M.inR s.2.1 Z0 (wrap64 ((ahead.length:Int)-Z1))))==false) (cond (!(M.inR s.2.2.1 Z0 (wrap64 ((ahead.length:Int)-Z1)))) (K (.tup [.data aI ([],(Z0,())),dB false]) []) ((0<=s.2.1)/\(s.2.1<(ahead.length:Int))/\(0<=s.2.2.1)/\(s.2.2.1<(ahead.length:Int))/\Q2 (S79_3 s tables ahead K))) (K (.tup [.data aI ([],(Z0,())),dB false]) [])))) (K (.tup [.data aI ([],(Z0,())),dB false]) [])):=by kernel_rfl
theorem lvc79_0 (s:ah.D) (tables:LTb) (ahead:(List aI.D))  (i1:Int) (v1:LC) (m:Nat) (K:KX):lvT C79 (L79 s tables ahead) ann79 f79 0 1 (s79_1 s tables ahead i1 v1) m K =
 (cond (decide (i1<(s.2.2.2.2.2.1.length:Int))) ((0<=i1)/\(i1<(s.2.2.2.2.2.1.length:Int))/\cond (!(M.inR (nI s.2.2.2.2.2.1 i1) Z0 (wrap64 (((nM ahead s.2.1).1.length:Int)-Z1)))) (K .ret (⟨[(6,.ptr 6 0),(7,dB false)],[(6,.box [.cst (.slice none 0 0),dI Z0])]⟩:St)) ((0<=(nI s.2.2.2.2.2.1 i1))/\((nI s.2.2.2.2.2.1 i1)<((nM ahead s.2.1).1.length:Int))/\((v1.length+[(nC (nM ahead s.2.1).1 (nI s.2.2.2.2.2.1 i1))].length) * 16<=lim)/\(nxT (LP79_1 s tables ahead) m K (s79_1 s tables ahead (wrap64 (i1+Z1)) (v1++[(nC (nM ahead s.2.1).1 (nI s.2.2.2.2.2.1 i1))]))))) (K (.exit 1) (⟨[(3,.adr ah s),(6,.ptr 6 0),(10,.ptr 10 0)],[(6,.box [.cst (.slice none 0 0),dI Z0]),(10,.box [.own 800160 none,dI (nM ahead s.2.1).2.1]),(800160,.arr false ag v1)]⟩:St))):=by kernel_rfl
theorem lvc79_1 (s:ah.D) (tables:LTb) (ahead:(List aI.D)) (c3_0:Int) (i3:Int) (v3:LC) (m:Nat) (K:KX):lvT C79 (L79 s tables ahead) ann79 f79 1 3 (s79_3 s tables ahead c3_0 i3 v3) m K =
 (cond (decide (i3<((nM ahead s.2.2.1).1.length:Int))) ((0<=i3)/\(i3<((nM ahead s.2.2.1).1.length:Int))/\(0<=i3)/\(i3<c3_0)/\cond (!decide ((nC (nM ahead s.2.2.1).1 i3).1=(nC v3 i3).1)) (K .ret (⟨[(6,.ptr 6 0),(7,dB false)],[(6,.box [.cst (.slice none 0 0),dI Z0])]⟩:St)) ((0<=i3)/\(i3<c3_0)/\cond ((nC v3 i3).2.1==false) ((0<=i3)/\(i3<c3_0)/\(let y1:LC:=(v3.set i3.toNat ((nC v3 i3).1,(nC (nM ahead s.2.2.1).1 i3).2));(nxT (LP79_3 s tables ahead) m K (s79_3 s tables ahead c3_0 (wrap64 (i3+Z1)) y1)))) ((0<=i3)/\(i3<c3_0)/\(nxT (LP79_3 s tables ahead) m K (s79_3 s tables ahead c3_0 (wrap64 (i3+Z1)) (v3.set i3.toNat ((nC v3 i3).1,(true,())))))))) (K (.exit 3) (⟨[(6,.ptr 6 0),(14,.ptr 14 0)],[(6,.box [.cst (.slice none 0 0),dI Z0]),(14,.box [.clp 150 c3_0,dI (wrap64 ((nM ahead s.2.1).2.1+(nM ahead s.2.2.1).2.1))]),(150,.arr false ag v3)]⟩:St))):=by kernel_rfl
theorem con79_ok:bg P 79 c79:=bq C79 func79 (kC con60_ok (kC con64_ok (kC con128_ok (kC con129_ok (kC con130_ok kN))))) fun args hp K h0=>by
 obtain⟨s,tables,ahead,rfl,rfl,h_s,h_tables,h_ahead,hK⟩:=g3e h0
 have h:ok (F.gR s tables ahead) (fun r=>K (.tup [.data aI r.1,dB r.2]) []):=az (F.vE s tables ahead h_s h_tables h_ahead) (hK _ rfl)
 refine⟨rfl,ann79,(L79 s tables ahead),(.tup [aI,Ty.bool]),(sw (i0:=1) (i1:=3) (by kernel_rfl) ?_ ?_),?_⟩
 ·rintro _ _ K ⟨hc1,i1,v1,rfl,hl1,rfl,hv1,h⟩
  exact cast (lvc79_0 _ _ _ _ _ _ _).symm (bf (t:=aE) hl1 h (fun ht1 h=>⟨hl1,⟨ht1,(oC h (fun _ h=>h) fun b_22 h=>⟨(eC (bnf b_22)),⟨(jT (bnf b_22)),(oG h fun _ h=>(aQ (t:=aE) (fun _ hm=>⟨hc1,hm⟩) _ rfl hl1 ht1 (aZ h_s.2.2.2.2.2.1) trivial h))⟩⟩)⟩⟩) fun h=>(h trivial))
 ·rintro _ _ K ⟨c3_0,hc3,i3,v3,rfl,hl3,rfl,hv3,h⟩
  exact cast (lvc79_1 _ _ _ _ _ _ _ _).symm (cj h (fun ht3 h=>⟨hl3,⟨ht3,⟨hl3,(oG h fun g1 h=>(oC h (fun _ h=>h) fun _ h=>⟨hl3,⟨g1,(oC h (fun _ h=>⟨hl3,⟨g1,(have h:=cB h _ rfl;(aT (fun _ hm=>⟨c3_0,hc3,hm⟩) _ rfl hl3 fS ht3 (aZ (aH h_ahead s.2.2.1).1) trivial h))⟩⟩) fun _ h=>⟨hl3,⟨g1,(aT (fun _ hm=>⟨c3_0,hc3,hm⟩) _ rfl hl3 fS ht3 (aZ (aH h_ahead s.2.2.1).1) trivial h)⟩⟩)⟩⟩))⟩⟩⟩) fun h=>(h trivial))
 ·rw[vc79]
  exact⟨h_s,(oC h (fun _ h=>(oC h (fun _ h=>h) fun _ h=>(oC h (fun _ h=>(oC h (fun _ h=>h) fun b_4 h=>⟨(eC (bnf b_4)),⟨(jT (bnf b_4)),h⟩⟩)) fun _ h=>(oC h (fun b_5 h=>(oC h (fun _ h=>h) fun b_6 h=>⟨(eC (bnf (bgt b_5))),⟨(jT (bnf (bgt b_5))),⟨(eC (bnf b_6)),⟨(jT (bnf b_6)),(q2 (oC h (fun _ h=>⟨(aH h_ahead s.2.1).1,⟨h_s.2.2.2.2.1,h⟩⟩) fun _ h=>(oC h (fun _ h=>(aR (t:=aE) (fun m hm=>⟨trivial,hm⟩) _ rfl trivial (aU h (fun v1 h hv1=>(q0 h)) (fun q1 h=>h)))) fun _ h=>(oC h (fun _ h=>(q1 (oG h fun _ h=>(oL h fun _ _ h=>(oC h (fun _ h=>(oG h fun _ h=>⟨h_s.2.2.2.2.1,(q0 h)⟩)) fun _ h=>(q0 h)))))) fun _ h=>(oC h (fun _ h=>(q0 (⟨(aH h_ahead s.2.1).1,(oL h fun r2 _ h=>(oC h (fun _ h=>h) fun _ h=>(bN (fun m hm=>⟨(r2.length:Int),trivial,hm⟩) Z0 _ rfl (Int.natCast_nonneg 0) trivial (aU h (fun v3 h hv3=>h) (fun q3 h=>h)))))⟩))) fun _ h=>h)))))⟩⟩⟩⟩)) fun _ h=>h)))) fun _ h=>h)⟩
def c36:Con:=⟨[.dat TTb,.dat TSS],fun args hp K=>g2 (pD TTb) (pD TSS) (fun tables plan=>(Sm TTb tables)/\(Sm TSS plan)/\(LD (M.makes tables plan) fun r=>K (.tup [.data (Ty.sl aI) r.1,dB r.2]) [])) args hp,.plain,false⟩
abbrev C36:Ctx:=cx [(60,c60),(78,c78),(79,c79)] 46 [] 0 false
def ann36:=an [[kp 3],[kp 524291],[kp 48],[kp 67],[kp 7340097],[kp 15728705],[.fixRow 8 ah,kp 7340353],[.fixRow 9 aI,kp 7341633],[kp 549763154497],[kp 48],[kp 7340097],[kp 7340097],[kp 48]] [[kp 64]]
abbrev s36_0 (tables:LTb) (plan:LS) (i0:Int) (v0:(List aI.D)):St:=⟨[(0,.data TTb tables),(6,.own 6 none),(20,.data TSS plan),(21,dI (plan.length:Int)),(22,dI i0)],[(6,.arr false aI v0)]⟩
abbrev LP36_0 (tables:LTb) (plan:LS) (m:Nat) (st_:St) (K:KX):Prop:=True/\bF (t:=ah) (s36_0 tables plan) plan (F.iV tables plan) (fun v0:(List aI.D)=>True) (br (fun v0:(List aI.D)=>True->K (.exit 0) (⟨[(6,.own 6 none)],[(6,.arr false aI v0)]⟩:St)) (fun q0:Unit=>K .ret (⟨[(4,.own 4 none),(5,dB false)],[(4,.arr false aI [])]⟩:St))) m st_
def L36 (tables:LTb) (plan:LS):bE:=lp1 0 (LP36_0 tables plan)
theorem vc36 (tables:LTb) (plan:LS) (K:KA):vcT C36 (L36 tables plan) ann36 f36 [.data TTb tables,.data TSS plan] [] (.tup [(Ty.sl aI),Ty.bool]) K =
 ((Sm TTb tables)/\cond ((!(M.bT tables))==false) (cond (!(M.inR (plan.length:Int) Z1 Z6)) (K (.tup [.data (Ty.sl aI) [],dB false]) []) (∃m_,True/\bF (t:=ah) (s36_0 tables plan) plan (F.iV tables plan) (fun v0:(List aI.D)=>True) (br (fun v0:(List aI.D)=>True->K (.tup [.data (Ty.sl aI) v0,dB true]) []) (fun q0:Unit=>K (.tup [.data (Ty.sl aI) [],dB false]) [])) m_ (s36_0 tables plan Z0 []))) (K (.tup [.data (Ty.sl aI) [],dB false]) [])):=by kernel_rfl
theorem lvc36_0 (tables:LTb) (plan:LS)  (i0:Int) (v0:(List aI.D)) (m:Nat) (K:KX):lvT C36 (L36 tables plan) ann36 f36 0 0 (s36_0 tables plan i0 v0) m K =
 (cond (decide (i0<(plan.length:Int))) ((0<=i0)/\(i0<(plan.length:Int))/\(Sm ah (nS plan i0))/\(Sm TTb tables)/\(Sm (Ty.sl aI) v0)/\(LD (M.make (nS plan i0) tables v0) fun r1=>cond ((!r1.2)==false) (cond (decide ((300:Int)<r1.1.2.1)) (K .ret (⟨[(4,.own 4 none),(5,dB false)],[(4,.arr false aI [])]⟩:St)) (((v0.length+[r1.1].length) * 32<=lim)/\(nxT (LP36_0 tables plan) m K (s36_0 tables plan (wrap64 (i0+Z1)) (v0++[r1.1]))))) (K .ret (⟨[(4,.own 4 none),(5,dB false)],[(4,.arr false aI [])]⟩:St)))) (K (.exit 0) (⟨[(6,.own 6 none)],[(6,.arr false aI v0)]⟩:St))):=by kernel_rfl
theorem con36_ok:bg P 36 c36:=bq C36 func36 (kC con60_ok (kC con78_ok (kC con79_ok kN))) fun args hp K h0=>by
 obtain⟨tables,plan,rfl,rfl,h_tables,h_plan,hK⟩:=g2e h0
 have h:ok (F.mF tables plan) (fun r=>K (.tup [.data (Ty.sl aI) r.1,dB r.2]) []):=az (F.Bs tables plan h_tables h_plan) (hK _ rfl)
 refine⟨rfl,ann36,(L36 tables plan),(.tup [(Ty.sl aI),Ty.bool]),(bA (i0:=0) (by kernel_rfl) ?_),?_⟩
 ·rintro _ _ K ⟨hc0,i0,v0,rfl,hl0,rfl,hv0,h⟩
  exact cast (lvc36_0 _ _ _ _ _ _).symm (bf (t:=ah) hl0 h (fun ht0 h=>⟨hl0,⟨ht0,⟨(aH h_plan i0),⟨h_tables,(oG h fun _ h=>(oL h fun _ _ h=>(oC h (fun _ h=>(oC h (fun _ h=>h) fun _ h=>(oG h fun _ h=>(aQ (t:=ah) (fun _ hm=>⟨hc0,hm⟩) _ rfl hl0 ht0 (aZ h_plan) trivial h)))) fun _ h=>h)))⟩⟩⟩⟩) fun h=>(h trivial))
 ·rw[vc36]
  exact⟨h_tables,(oC h (fun _ h=>(oC h (fun _ h=>h) fun _ h=>(aR (t:=ah) (fun m hm=>⟨trivial,hm⟩) _ rfl trivial (aU h (fun v0 h hv0=>h) (fun q0 h=>h))))) fun _ h=>h)⟩
def c10:Con:=⟨[.dat TTb,.dat TSS],fun args hp K=>g2 (pD TTb) (pD TSS) (fun tables plan=>(Sm TTb tables)/\(Sm TSS plan)/\K (dB (M.bK tables plan)) []) args hp,.plain,false⟩
abbrev C10:Ctx:=cx [(36,c36)] 14 [] 0 false
def ann10:=an [[kp 3],[kp 64],[kp 16]] []
theorem vc10 (tables:LTb) (plan:LS) (K:KA):vcT C10 aA ann10 f10 [.data TTb tables,.data TSS plan] [] (.dat Ty.bool) K =
 ((Sm TTb tables)/\(Sm TSS plan)/\(LD (M.makes tables plan) fun r1=>K (dB r1.2) [])):=by kernel_rfl
theorem con10_ok:bg P 10 c10:=bq C10 func10 (kC con36_ok kN) fun args hp K h0=>by
 obtain⟨tables,plan,rfl,rfl,h_tables,h_plan,hK⟩:=g2e h0
 have h:ok (F.rz tables plan) (fun r=>K (dB r) []):=az (F.zp tables plan h_tables h_plan) hK
 refine⟨rfl,ann10,aA,(.dat Ty.bool),(aG (by kernel_rfl)),?_⟩
 ·rw[vc10]
  exact⟨h_tables,⟨h_plan,(oL h fun _ _ h=>h)⟩⟩
abbrev C142:Ctx:=cx [] 9 [] 400000 true
def T142:Inl:=sO C142 (fun _=>[]) (dr f142) f142.results.toList
theorem inlOk142:uj P 142 T142:=yz C142 func142 kN
def c87:Con:=⟨[.dat TVS],fun args hp K=>g1 (pD TVS) (fun xs=>(Sm TVS xs)/\(LD xs fun r=>K (.clp 0 (r.length:Int)) [(0,.arr false aa r)])) args hp,.bor,false⟩
abbrev C87:Ctx:=cx [] 9 [(142,T142)] 0 true
def ann87:=an [[kp 1],[kp 33],[.clip 2,kp 4],[kp 4]] []
theorem vc87 (xs:LV) (K:KA):vcT C87 aA ann87 f87 [.data TVS xs] [] .raw K =
 (cond (decide ((xs.length:Int)=Z0)) (K (.clp 0 (([]:List aa.D).length:Int)) [(0,.arr false aa ([]:List aa.D))]) ((xs.length * 32<=lim)/\(0<=Z0)/\(Z0<=(xs.length:Int))/\((xs.length:Int)<=(xs.length:Int))/\((xs.length:Int)=(xs.length:Int))/\(Z0=0)/\K (.clp 0 ((xs.take (xs.length:Int).toNat).length:Int)) [(0,.arr false aa (xs.take (xs.length:Int).toNat))])):=by kernel_rfl
theorem con87_ok:bg P 87 c87:=bq C87 func87 (kI inlOk142 kN) fun args hp K h0=>by
 obtain⟨xs,rfl,rfl,h_xs,hK⟩:=g1e h0
 have h:ok (F.vM xs) (fun r=>K (.clp 0 (r.length:Int)) [(0,.arr false aa r)]):=az (F.yE xs h_xs) (hK _ rfl)
 refine⟨rfl,ann87,aA,.raw,(aG (by kernel_rfl)),?_⟩
 ·rw[vc87]
  exact(oC h (fun _ h=>h) fun _ h=>⟨(Al h_xs rfl),⟨(Int.natCast_nonneg 0),⟨(Int.natCast_nonneg _),⟨(Int.le_refl _),⟨rfl,⟨rfl,h⟩⟩⟩⟩⟩⟩)
abbrev C88:Ctx:=cx [] 9 [] 400000 true
def T88:Inl:=sO C88 (fun _=>[]) (dr f88) f88.results.toList
theorem inlOk88:uj P 88 T88:=yz C88 func88 kN
def c42:Con:=⟨[.dat (Ty.sl TVS)],fun args hp K=>g1 (pD (Ty.sl TVS)) (fun rows=>(Sm (Ty.sl TVS) rows)/\(LD rows fun r=>K (.clp 0 (r.length:Int)) [(0,.arr true TVS r)])) args hp,.bor,false⟩
abbrev C42:Ctx:=cx [(87,c87)] 20 [(88,T88)] 0 true
def ann42:=an [[kp 1],[kp 9],[kp 456],[kp 968],[kp 488],[kp 456],[kp 456],[kp 4]] [[kp 8]]
abbrev s42_0 (rows:(List LV)) (i0:Int) (v0:(List LV)):St:=⟨[(3,.own 3 none),(6,.data (Ty.sl TVS) rows),(7,dI (rows.length:Int)),(8,dI i0)],[(3,.arr true TVS v0)]⟩
abbrev LP42_0 (rows:(List LV)) (m:Nat) (st_:St) (K:KX):Prop:=True/\bF (t:=TVS) (s42_0 rows) rows (F.iL rows) (fun v0:(List LV)=>True) (br (fun v0:(List LV)=>True->K (.exit 0) (⟨[(3,.own 3 none)],[(3,.arr true TVS v0)]⟩:St)) (fun _=>False)) m st_
def L42 (rows:(List LV)):bE:=lp1 0 (LP42_0 rows)
theorem vc42 (rows:(List LV)) (K:KA):vcT C42 (L42 rows) ann42 f42 [.data (Ty.sl TVS) rows] [] .raw K =
 (∃m_,True/\bF (t:=TVS) (s42_0 rows) rows (F.iL rows) (fun v0:(List LV)=>True) (br (fun v0:(List LV)=>True->(0<=Z0)/\(Z0<=(v0.length:Int))/\((v0.length:Int)<=(v0.length:Int))/\((v0.length:Int)=(v0.length:Int))/\(Z0=0)/\K (.clp 0 ((v0.take (v0.length:Int).toNat).length:Int)) [(0,.arr true TVS (v0.take (v0.length:Int).toNat))]) (fun _=>False)) m_ (s42_0 rows Z0 [])):=by kernel_rfl
theorem lvc42_0 (rows:(List LV))  (i0:Int) (v0:(List LV)) (m:Nat) (K:KX):lvT C42 (L42 rows) ann42 f42 0 0 (s42_0 rows i0 v0) m K =
 (cond (decide (i0<(rows.length:Int))) ((0<=i0)/\(i0<(rows.length:Int))/\(Sm TVS (nth (t:=TVS) rows i0))/\(LD (nth (t:=TVS) rows i0) fun r1=>((v0.length+[(aj r1 (some (Z0,(r1.length:Int))))].length) * 24<=lim)/\(nxT (LP42_0 rows) m K (s42_0 rows (wrap64 (i0+Z1)) (v0++[(aj r1 (some (Z0,(r1.length:Int))))]))))) (K (.exit 0) (⟨[(3,.own 3 none)],[(3,.arr true TVS v0)]⟩:St))):=by kernel_rfl
theorem con42_ok:bg P 42 c42:=bq C42 func42 (kC con87_ok (kI inlOk88 kN)) fun args hp K h0=>by
 obtain⟨rows,rfl,rfl,h_rows,hK⟩:=g1e h0
 have h:ok (F.nO rows) (fun r=>K (.clp 0 (r.length:Int)) [(0,.arr true TVS r)]):=az (F.wm rows h_rows) (hK _ rfl)
 refine⟨rfl,ann42,(L42 rows),.raw,(bA (i0:=0) (by kernel_rfl) ?_),?_⟩
 ·rintro _ _ K ⟨hc0,i0,v0,rfl,hl0,rfl,hv0,h⟩
  exact cast (lvc42_0 _ _ _ _ _).symm (bf (t:=TVS) hl0 h (fun ht0 h=>⟨hl0,⟨ht0,⟨(aH h_rows i0),(oL h fun _ _ h=>(oG h fun _ h=>(aQ (t:=TVS) (fun _ hm=>⟨hc0,hm⟩) _ rfl hl0 ht0 (aZ h_rows) trivial h)))⟩⟩⟩) fun h=>(h trivial))
 ·rw[vc42]
  exact(aR (t:=TVS) (fun m hm=>⟨trivial,hm⟩) _ rfl trivial (aU h (fun v0 h hv0=>⟨(Int.natCast_nonneg 0),⟨(Int.natCast_nonneg _),⟨(Int.le_refl _),⟨rfl,⟨rfl,h⟩⟩⟩⟩⟩) (fun _ h=>h.elim)))
def c90:Con:=⟨[.lent aa,.lent aa],fun args hp K=>g2 (pB aa) (pB aa) (fun xs ys=>(Sm TVS xs)/\(Sm TVS ys)/\K (dB (decide (xs=ys))) []) args hp,.plain,false⟩
abbrev C90:Ctx:=cx [] 26 [] 0 false
def ann90:=an [[kp 3],[kp 1027],[kp 16],[kp 12291],[kp 28675],[kp 12323],[kp 16789507],[kp 16],[kp 12291],[kp 16]] [[kp 0]]
abbrev s90_0 (xs:LV) (ys:LV) (i0:Int) (v0:Unit):St:=⟨[(0,.brw aa xs),(1,.brw aa ys),(12,dI (xs.length:Int)),(13,dI i0)],[]⟩
abbrev LP90_0 (xs:LV) (ys:LV) (m:Nat) (st_:St) (K:KX):Prop:=True/\cI (s90_0 xs ys) Z0 (xs.length:Int) (F.jd xs ys) (fun v0:Unit=>True) (br (fun v0:Unit=>True->K (.exit 0) (⟨[],[]⟩:St)) (fun q0:Unit=>K .ret (⟨[(4,dB false)],[]⟩:St))) m st_
def L90 (xs:LV) (ys:LV):bE:=lp1 0 (LP90_0 xs ys)
theorem vc90 (xs:LV) (ys:LV) (K:KA):vcT C90 (L90 xs ys) ann90 f90 [.brw aa xs,.brw aa ys] [] (.dat Ty.bool) K =
 (cond (!decide ((xs.length:Int)=(ys.length:Int))) (K (dB false) []) (∃m_,True/\cI (s90_0 xs ys) Z0 (xs.length:Int) (F.jd xs ys) (fun v0:Unit=>True) (br (fun v0:Unit=>True->K (dB true) []) (fun q0:Unit=>K (dB false) [])) m_ (s90_0 xs ys Z0 ()))):=by kernel_rfl
theorem lvc90_0 (xs:LV) (ys:LV)  (i0:Int) (v0:Unit) (m:Nat) (K:KX):lvT C90 (L90 xs ys) ann90 f90 0 0 (s90_0 xs ys i0 v0) m K =
 (cond (decide (i0<(xs.length:Int))) ((0<=i0)/\(i0<(xs.length:Int))/\(0<=i0)/\(i0<(ys.length:Int))/\cond (!(Ty.beq aa (nV xs i0) (nV ys i0))) (K .ret (⟨[(4,dB false)],[]⟩:St)) (nxT (LP90_0 xs ys) m K (s90_0 xs ys (wrap64 (i0+Z1)) ()))) (K (.exit 0) (⟨[],[]⟩:St))):=by kernel_rfl
theorem con90_ok:bg P 90 c90:=bq C90 func90 kN fun args hp K h0=>by
 obtain⟨xs,ys,rfl,rfl,h_xs,h_ys,hK⟩:=g2e h0
 have h:ok (F.uw xs ys) (fun r=>K (dB r) []):=az (F.yB xs ys h_xs h_ys) hK
 refine⟨rfl,ann90,(L90 xs ys),(.dat Ty.bool),(bA (i0:=0) (by kernel_rfl) ?_),?_⟩
 ·rintro _ _ K ⟨hc0,i0,v0,rfl,hl0,rfl,hv0,h⟩
  exact cast (lvc90_0 _ _ _ _ _ _).symm (cj h (fun ht0 h=>⟨hl0,⟨ht0,⟨hl0,(oG h fun _ h=>(oC h (fun _ h=>h) fun _ h=>(aT (fun _ hm=>⟨hc0,hm⟩) _ rfl hl0 fS ht0 (aZ h_xs) trivial h)))⟩⟩⟩) fun h=>(h trivial))
 ·rw[vc90]
  exact(oC h (fun _ h=>h) fun _ h=>(bN (fun m hm=>⟨trivial,hm⟩) Z0 _ rfl (Int.natCast_nonneg 0) trivial (aU h (fun v0 h hv0=>h) (fun q0 h=>h))))
def c44:Con:=⟨[.lent TVS,.dat TVS],fun args hp K=>g2 (pB TVS) (pD TVS) (fun rows row=>(Sm (Ty.sl TVS) rows)/\(Sm TVS row)/\K (dI (M.dH rows row:Int)) []) args hp,.plain,false⟩
abbrev C44:Ctx:=cx [(90,c90)] 21 [] 0 false
def ann44:=an [[kp 3],[kp 35],[kp 1826],[kp 3874],[kp 1954],[kp 67362],[kp 1826],[kp 1826],[kp 16]] [[kp 32]]
abbrev s44_0 (rows:(List LV)) (row:LV) (i0:Int) (v0:Int):St:=⟨[(1,.data TVS row),(5,dI v0),(8,.brw TVS rows),(9,dI (rows.length:Int)),(10,dI i0)],[]⟩
abbrev LP44_0 (rows:(List LV)) (row:LV) (m:Nat) (st_:St) (K:KX):Prop:=True/\bF (t:=TVS) (s44_0 rows row) rows (F.gf rows row) (fun v0:Int=>True) (br (fun v0:Int=>True->K (.exit 0) (⟨[(5,dI v0)],[]⟩:St)) (fun _=>False)) m st_
def L44 (rows:(List LV)) (row:LV):bE:=lp1 0 (LP44_0 rows row)
theorem vc44 (rows:(List LV)) (row:LV) (K:KA):vcT C44 (L44 rows row) ann44 f44 [.brw TVS rows,.data TVS row] [] (.dat aE) K =
 (∃m_,True/\bF (t:=TVS) (s44_0 rows row) rows (F.gf rows row) (fun v0:Int=>True) (br (fun v0:Int=>True->K (dI v0) []) (fun _=>False)) m_ (s44_0 rows row Z0 Z0)):=by kernel_rfl
theorem lvc44_0 (rows:(List LV)) (row:LV)  (i0:Int) (v0:Int) (m:Nat) (K:KX):lvT C44 (L44 rows row) ann44 f44 0 0 (s44_0 rows row i0 v0) m K =
 (cond (decide (i0<(rows.length:Int))) ((0<=i0)/\(i0<(rows.length:Int))/\(Sm TVS (nth (t:=TVS) rows i0))/\(Sm TVS row)/\cond (decide ((nth (t:=TVS) rows i0)=row)) (nxT (LP44_0 rows row) m K (s44_0 rows row (wrap64 (i0+Z1)) (wrap64 (v0+Z1)))) (nxT (LP44_0 rows row) m K (s44_0 rows row (wrap64 (i0+Z1)) v0))) (K (.exit 0) (⟨[(5,dI v0)],[]⟩:St))):=by kernel_rfl
theorem con44_ok:bg P 44 c44:=bq C44 func44 (kC con90_ok kN) fun args hp K h0=>by
 obtain⟨rows,row,rfl,rfl,h_rows,h_row,hK⟩:=g2e h0
 have h:ok (F.qx rows row) (fun r=>K (dI r) []):=az (F.yL rows row h_rows h_row) hK
 refine⟨rfl,ann44,(L44 rows row),(.dat aE),(bA (i0:=0) (by kernel_rfl) ?_),?_⟩
 ·rintro _ _ K ⟨hc0,i0,v0,rfl,hl0,rfl,hv0,h⟩
  exact cast (lvc44_0 _ _ _ _ _ _).symm (bf (t:=TVS) hl0 h (fun ht0 h=>⟨hl0,⟨ht0,⟨(aH h_rows i0),⟨h_row,(oC h (fun _ h=>(aQ (t:=TVS) (fun _ hm=>⟨hc0,hm⟩) _ rfl hl0 ht0 (aZ h_rows) trivial h)) fun _ h=>(aQ (t:=TVS) (fun _ hm=>⟨hc0,hm⟩) _ rfl hl0 ht0 (aZ h_rows) trivial h))⟩⟩⟩⟩) fun h=>(h trivial))
 ·rw[vc44]
  exact(aR (t:=TVS) (fun m hm=>⟨trivial,hm⟩) _ rfl trivial (aU h (fun v0 h hv0=>h) (fun _ h=>h.elim)))
def c59:Con:=⟨[.lent TVS,.dat TVS],fun args hp K=>g2 (pB TVS) (pD TVS) (fun rows row=>(Sm (Ty.sl TVS) rows)/\(Sm TVS row)/\K (dB (decide (0<(M.dH rows row:Int)))) []) args hp,.plain,false⟩
abbrev C59:Ctx:=cx [(44,c44)] 9 [] 0 false
def ann59:=an [[kp 3],[kp 16]] []
theorem vc59 (rows:(List LV)) (row:LV) (K:KA):vcT C59 aA ann59 f59 [.brw TVS rows,.data TVS row] [] (.dat Ty.bool) K =
 ((Sm (Ty.sl TVS) rows)/\(Sm TVS row)/\K (dB (decide (Z0<(M.dH rows row:Int)))) []):=by kernel_rfl
theorem con59_ok:bg P 59 c59:=bq C59 func59 (kC con44_ok kN) fun args hp K h0=>by
 obtain⟨rows,row,rfl,rfl,h_rows,h_row,hK⟩:=g2e h0
 have h:ok (F.vz rows row) (fun r=>K (dB r) []):=az (F.ye rows row h_rows h_row) hK
 refine⟨rfl,ann59,aA,(.dat Ty.bool),(aG (by kernel_rfl)),?_⟩
 ·rw[vc59]
  exact⟨h_rows,⟨h_row,h⟩⟩
def c22:Con:=⟨[.dat (Ty.sl TVS)],fun args hp K=>g1 (pD (Ty.sl TVS)) (fun rows=>(Sm (Ty.sl TVS) rows)/\(LD (M.eO rows) fun r=>K (.clp 0 (r.length:Int)) [(0,.arr true TVS r)])) args hp,.bor,false⟩
abbrev C22:Ctx:=cx [(42,c42),(59,c59)] 23 [] 0 true
def ann22:=an [[kp 1],[.weak 3,kp 9],[kp 456],[kp 968],[kp 488],[kp 33256],[kp 456],[kp 456],[kp 4]] [[kp 8]]
abbrev s22_0 (rows:(List LV)) (i0:Int) (v0:(List LV)):St:=⟨[(3,.own 3 none),(6,.data (Ty.sl TVS) rows),(7,dI (rows.length:Int)),(8,dI i0)],[(3,.arr false TVS v0)]⟩
abbrev LP22_0 (rows:(List LV)) (m:Nat) (st_:St) (K:KX):Prop:=True/\bF (t:=TVS) (s22_0 rows) rows (F.fJ rows) (fun v0:(List LV)=>True) (br (fun v0:(List LV)=>True->K (.exit 0) (⟨[(3,.own 3 none)],[(3,.arr false TVS v0)]⟩:St)) (fun _=>False)) m st_
def L22 (rows:(List LV)):bE:=lp1 0 (LP22_0 rows)
theorem vc22 (rows:(List LV)) (K:KA):vcT C22 (L22 rows) ann22 f22 [.data (Ty.sl TVS) rows] [] .raw K =
 (∃m_,True/\bF (t:=TVS) (s22_0 rows) rows (F.fJ rows) (fun v0:(List LV)=>True) (br (fun v0:(List LV)=>True->(Sm (Ty.sl TVS) v0)/\(LD v0 fun r1=>K (.clp 0 ((r1.take (r1.length:Int).toNat).length:Int)) [(0,.arr true TVS (r1.take (r1.length:Int).toNat))])) (fun _=>False)) m_ (s22_0 rows Z0 [])):=by kernel_rfl
theorem lvc22_0 (rows:(List LV))  (i0:Int) (v0:(List LV)) (m:Nat) (K:KX):lvT C22 (L22 rows) ann22 f22 0 0 (s22_0 rows i0 v0) m K =
 (cond (decide (i0<(rows.length:Int))) ((0<=i0)/\(i0<(rows.length:Int))/\(Sm (Ty.sl TVS) v0)/\(Sm TVS (nth (t:=TVS) rows i0))/\cond (!(decide (0<(M.dH v0 (nth (t:=TVS) rows i0):Int)))) (((v0.length+[(nth (t:=TVS) rows i0)].length) * 24<=lim)/\(nxT (LP22_0 rows) m K (s22_0 rows (wrap64 (i0+Z1)) (v0++[(nth (t:=TVS) rows i0)])))) (nxT (LP22_0 rows) m K (s22_0 rows (wrap64 (i0+Z1)) v0))) (K (.exit 0) (⟨[(3,.own 3 none)],[(3,.arr false TVS v0)]⟩:St))):=by kernel_rfl
theorem con22_ok:bg P 22 c22:=bq C22 func22 (kC con42_ok (kC con59_ok kN)) fun args hp K h0=>by
 obtain⟨rows,rfl,rfl,h_rows,hK⟩:=g1e h0
 have h:ok (F.oa rows) (fun r=>K (.clp 0 (r.length:Int)) [(0,.arr true TVS r)]):=az (F.wv rows h_rows) (hK _ rfl)
 refine⟨rfl,ann22,(L22 rows),.raw,(bA (i0:=0) (by kernel_rfl) ?_),?_⟩
 ·rintro _ _ K ⟨hc0,i0,v0,rfl,hl0,rfl,hv0,h⟩
  exact cast (lvc22_0 _ _ _ _ _).symm (bf (t:=TVS) hl0 h (fun ht0 h=>⟨hl0,⟨ht0,(oG h fun _ h=>⟨(aH h_rows i0),(oC h (fun _ h=>(oG h fun _ h=>(aQ (t:=TVS) (fun _ hm=>⟨hc0,hm⟩) _ rfl hl0 ht0 (aZ h_rows) trivial h))) fun _ h=>(aQ (t:=TVS) (fun _ hm=>⟨hc0,hm⟩) _ rfl hl0 ht0 (aZ h_rows) trivial h))⟩)⟩⟩) fun h=>(h trivial))
 ·rw[vc22]
  exact(aR (t:=TVS) (fun m hm=>⟨trivial,hm⟩) _ rfl trivial (aU h (fun v0 h hv0=>(oG h fun _ h=>(oL h fun _ _ h=>h))) (fun _ h=>h.elim)))
def c89:Con:=⟨[.any,.dat aE],fun args hp K=>args2 (fun a0 a1=>Ds a0 (eV aE a1 fun n=>(0<=n)/\(n<=1099511627776)/\(LD ([]:List TVS.D) fun r=>K (.own 0 none) [(0,.arr false TVS r)]))) args hp,.plain,false⟩
abbrev C89:Ctx:=cx [] 27 [] 0 false
def ann89:=an [[kp 3],[kp 67],[kp 3],[kp 3],[kp 65539],[kp 1],[kp 16]] []
theorem vc89 (n:Int) (K:KA):vcT C89 aA ann89 f89 [.cst (.slice none 0 0),dI n] [] .raw K =
 (cond (decide (n<Z0)) False (cond (decide (Z0<wrap64 (n-(wrap64 (Z0-Z0))))) ((0<=Z0)/\(Z0<=Z0)/\(Z0<=Z0)/\(Z0=Z0)/\(0<=wrap64 (n-(wrap64 (Z0-Z0))))/\((wrap64 (n-(wrap64 (Z0-Z0)))) * 24<=(lim:Int))/\(0<=Z0)/\(Z0<=Z0)/\(Z0<=((List.replicate (wrap64 (n-(wrap64 (Z0-Z0)))).toNat ([]:List aa.D)).length:Int))/\(Z0=Z0)/\(Z0=0)/\K (.own 0 none) [(0,.arr false TVS ((List.replicate (wrap64 (n-(wrap64 (Z0-Z0)))).toNat ([]:List aa.D)).take Z0.toNat))]) (K (.own 0 none) [(0,.arr false TVS [])]))):=by kernel_rfl
theorem con89_ok:bg P 89 c89:=bq C89 func89 kN fun args hp K h0=>by
 obtain⟨a0,a1,rfl,rfl,h1⟩:=ck h0
 obtain⟨rfl,h2⟩:=ug h1
 obtain⟨n,rfl,h3⟩:=bw h2
 obtain⟨p0,p1,hK⟩:=h3
 have h:ok (F.qu n) (fun r=>K (.own 0 none) [(0,.arr false TVS r)]):=az (F.yG n p0 p1) (hK _ rfl)
 refine⟨rfl,ann89,aA,.raw,(aG (by kernel_rfl)),?_⟩
 ·rw[vc89]
  exact(oC h (fun _ h=>h) fun _ h=>(oC h (fun _ h=>⟨(Int.natCast_nonneg 0),⟨(Int.le_refl _),⟨(Int.le_refl _),⟨rfl,(oG h fun _ h=>(oG h fun _ h=>⟨(Int.natCast_nonneg 0),⟨(Int.le_refl _),⟨(Int.natCast_nonneg _),⟨rfl,⟨rfl,h⟩⟩⟩⟩⟩))⟩⟩⟩⟩) fun _ h=>h))
def c43:Con:=⟨[.dat (Ty.sl (Ty.sl TVS))],fun args hp K=>g1 (pD (Ty.sl (Ty.sl TVS))) (fun xss=>(Sm (Ty.sl (Ty.sl TVS)) xss)/\(LD (List.flatten xss) fun r=>K (.own 0 none) [(0,.arr false TVS r)])) args hp,.plain,false⟩
abbrev C43:Ctx:=cx [(89,c89)] 36 [] 0 false
def ann43:=an [[kp 1],[kp 9],[kp 3593],[kp 7689],[kp 3625],[kp 3593],[kp 1052169],[kp 3593],[kp 3593],[kp 65],[kp 234881088],[kp 503316544],[kp 234881344],[kp 234881088],[kp 234881088],[kp 4]] [[kp 9],[],[kp 64]]
abbrev s43_0 (xss:(List (List LV))) (i0:Int) (v0:Int):St:=⟨[(0,.data (Ty.sl (Ty.sl TVS)) xss),(3,dI v0),(9,.data (Ty.sl (Ty.sl TVS)) xss),(10,dI (xss.length:Int)),(11,dI i0)],[]⟩
abbrev LP43_0 (xss:(List (List LV))) (m:Nat) (st_:St) (K:KX):Prop:=True/\bF (t:=(Ty.sl TVS)) (s43_0 xss) xss (F.gF xss) (fun v0:Int=>True) (br (fun v0:Int=>True->K (.exit 0) (⟨[(0,.data (Ty.sl (Ty.sl TVS)) xss),(3,dI v0)],[]⟩:St)) (fun _=>False)) m st_
abbrev s43_2 (xss:(List (List LV))) (i2:Int) (v2:(List LV)):St:=⟨[(6,.own 24 none),(25,.data (Ty.sl (Ty.sl TVS)) xss),(26,dI (xss.length:Int)),(27,dI i2)],[(24,.arr false TVS v2)]⟩
abbrev LP43_2 (xss:(List (List LV))) (m:Nat) (st_:St) (K:KX):Prop:=True/\bF (t:=(Ty.sl TVS)) (s43_2 xss) xss (F.gJ xss) (fun v2:(List LV)=>True) (br (fun v2:(List LV)=>True->K (.exit 2) (⟨[(6,.own 24 none)],[(24,.arr false TVS v2)]⟩:St)) (fun _=>False)) m st_
def L43 (xss:(List (List LV))):bE:=lp2 0 (LP43_0 xss) 2 (LP43_2 xss)
theorem vc43 (xss:(List (List LV))) (K:KA):vcT C43 (L43 xss) ann43 f43 [.data (Ty.sl (Ty.sl TVS)) xss] [] .raw K =
 (∃m_,True/\bF (t:=(Ty.sl TVS)) (s43_0 xss) xss (F.gF xss) (fun v0:Int=>True) (br (fun v0:Int=>True->(0<=v0)/\(v0<=1099511627776)/\(LD ([]:List TVS.D) fun r1=>(∃m_,True/\bF (t:=(Ty.sl TVS)) (s43_2 xss) xss (F.gJ xss) (fun v2:(List LV)=>True) (br (fun v2:(List LV)=>True->K (.own 0 none) [(0,.arr false TVS v2)]) (fun _=>False)) m_ (s43_2 xss Z0 r1)))) (fun _=>False)) m_ (s43_0 xss Z0 Z0)):=by kernel_rfl
theorem lvc43_0 (xss:(List (List LV)))  (i0:Int) (v0:Int) (m:Nat) (K:KX):lvT C43 (L43 xss) ann43 f43 0 0 (s43_0 xss i0 v0) m K =
 (cond (decide (i0<(xss.length:Int))) ((0<=i0)/\(i0<(xss.length:Int))/\cond (decide (wrap64 (v0+((nth (t:=(Ty.sl TVS)) xss i0).length:Int))<Z0)) False (nxT (LP43_0 xss) m K (s43_0 xss (wrap64 (i0+Z1)) (wrap64 (v0+((nth (t:=(Ty.sl TVS)) xss i0).length:Int)))))) (K (.exit 0) (⟨[(0,.data (Ty.sl (Ty.sl TVS)) xss),(3,dI v0)],[]⟩:St))):=by kernel_rfl
theorem lvc43_1 (xss:(List (List LV)))  (i2:Int) (v2:(List LV)) (m:Nat) (K:KX):lvT C43 (L43 xss) ann43 f43 1 2 (s43_2 xss i2 v2) m K =
 (cond (decide (i2<(xss.length:Int))) ((0<=i2)/\(i2<(xss.length:Int))/\((v2.length+(nth (t:=(Ty.sl TVS)) xss i2).length) * 24<=lim)/\(nxT (LP43_2 xss) m K (s43_2 xss (wrap64 (i2+Z1)) (v2++(nth (t:=(Ty.sl TVS)) xss i2))))) (K (.exit 2) (⟨[(6,.own 24 none)],[(24,.arr false TVS v2)]⟩:St))):=by kernel_rfl
theorem con43_ok:bg P 43 c43:=bq C43 func43 (kC con89_ok kN) fun args hp K h0=>by
 obtain⟨xss,rfl,rfl,h_xss,hK⟩:=g1e h0
 have h:ok (F.mA xss) (fun r=>K (.own 0 none) [(0,.arr false TVS r)]):=az (F.vl xss h_xss) (hK _ rfl)
 refine⟨rfl,ann43,(L43 xss),.raw,(sw (i0:=0) (i1:=2) (by kernel_rfl) ?_ ?_),?_⟩
 ·rintro _ _ K ⟨hc0,i0,v0,rfl,hl0,rfl,hv0,h⟩
  exact cast (lvc43_0 _ _ _ _ _).symm (bf (t:=(Ty.sl TVS)) hl0 h (fun ht0 h=>⟨hl0,⟨ht0,(oC h (fun _ h=>h) fun _ h=>(aQ (t:=(Ty.sl TVS)) (fun _ hm=>⟨hc0,hm⟩) _ rfl hl0 ht0 (aZ h_xss) trivial h))⟩⟩) fun h=>(h trivial))
 ·rintro _ _ K ⟨hc2,i2,v2,rfl,hl2,rfl,hv2,h⟩
  exact cast (lvc43_1 _ _ _ _ _).symm (bf (t:=(Ty.sl TVS)) hl2 h (fun ht2 h=>⟨hl2,⟨ht2,(oG h fun _ h=>(aQ (t:=(Ty.sl TVS)) (fun _ hm=>⟨hc2,hm⟩) _ rfl hl2 ht2 (aZ h_xss) trivial h))⟩⟩) fun h=>(h trivial))
 ·rw[vc43]
  exact(aR (t:=(Ty.sl TVS)) (fun m hm=>⟨trivial,hm⟩) _ rfl trivial (aU h (fun v0 h hv0=>(oG h fun _ h=>(oG h fun _ h=>(oL h fun _ _ h=>(aR (t:=(Ty.sl TVS)) (fun m hm=>⟨trivial,hm⟩) _ rfl trivial (aU h (fun v2 h hv2=>h) (fun _ h=>h.elim))))))) (fun _ h=>h.elim)))
def c160:Con:=⟨[.any,.dat aE],fun args hp K=>args2 (fun a0 a1=>Ds a0 (eV aE a1 fun n=>(0<=n)/\(n<=1099511627776)/\(LD ([]:List aa.D) fun r=>K (.own 0 none) [(0,.arr false aa r)]))) args hp,.plain,false⟩
abbrev C160:Ctx:=cx [] 27 [] 0 false
def ann160:=an [[kp 3],[kp 67],[kp 3],[kp 3],[kp 65539],[kp 1],[kp 16]] []
theorem vc160 (n:Int) (K:KA):vcT C160 aA ann160 f160 [.cst (.slice none 0 0),dI n] [] .raw K =
 (cond (decide (n<Z0)) False (cond (decide (Z0<wrap64 (n-(wrap64 (Z0-Z0))))) ((0<=Z0)/\(Z0<=Z0)/\(Z0<=Z0)/\(Z0=Z0)/\(0<=wrap64 (n-(wrap64 (Z0-Z0))))/\((wrap64 (n-(wrap64 (Z0-Z0)))) * 32<=(lim:Int))/\(0<=Z0)/\(Z0<=Z0)/\(Z0<=((List.replicate (wrap64 (n-(wrap64 (Z0-Z0)))).toNat (Z0,(Z0,((⟨#[]⟩:ByteArray),())))).length:Int))/\(Z0=Z0)/\(Z0=0)/\K (.own 0 none) [(0,.arr false aa ((List.replicate (wrap64 (n-(wrap64 (Z0-Z0)))).toNat (Z0,(Z0,((⟨#[]⟩:ByteArray),())))).take Z0.toNat))]) (K (.own 0 none) [(0,.arr false aa [])]))):=by kernel_rfl
theorem con160_ok:bg P 160 c160:=bq C160 func160 kN fun args hp K h0=>by
 obtain⟨a0,a1,rfl,rfl,h1⟩:=ck h0
 obtain⟨rfl,h2⟩:=ug h1
 obtain⟨n,rfl,h3⟩:=bw h2
 obtain⟨p0,p1,hK⟩:=h3
 have h:ok (F.ru n) (fun r=>K (.own 0 none) [(0,.arr false aa r)]):=az (F.zi n p0 p1) (hK _ rfl)
 refine⟨rfl,ann160,aA,.raw,(aG (by kernel_rfl)),?_⟩
 ·rw[vc160]
  exact(oC h (fun _ h=>h) fun _ h=>(oC h (fun _ h=>⟨(Int.natCast_nonneg 0),⟨(Int.le_refl _),⟨(Int.le_refl _),⟨rfl,(oG h fun _ h=>(oG h fun _ h=>⟨(Int.natCast_nonneg 0),⟨(Int.le_refl _),⟨(Int.natCast_nonneg _),⟨rfl,⟨rfl,h⟩⟩⟩⟩⟩))⟩⟩⟩⟩) fun _ h=>h))
def c105:Con:=⟨[.dat (Ty.sl TVS)],fun args hp K=>g1 (pD (Ty.sl TVS)) (fun xss=>(Sm (Ty.sl TVS) xss)/\(LD (List.flatten xss) fun r=>K (.own 0 none) [(0,.arr false aa r)])) args hp,.plain,false⟩
abbrev C105:Ctx:=cx [(160,c160)] 36 [] 0 false
def ann105:=an [[kp 1],[kp 9],[kp 3593],[kp 7689],[kp 3625],[kp 3593],[kp 1052169],[kp 3593],[kp 3593],[kp 65],[kp 234881088],[kp 503316544],[kp 234881344],[kp 234881088],[kp 234881088],[kp 4]] [[kp 9],[],[kp 64]]
abbrev s105_0 (xss:(List LV)) (i0:Int) (v0:Int):St:=⟨[(0,.data (Ty.sl TVS) xss),(3,dI v0),(9,.data (Ty.sl TVS) xss),(10,dI (xss.length:Int)),(11,dI i0)],[]⟩
abbrev LP105_0 (xss:(List LV)) (m:Nat) (st_:St) (K:KX):Prop:=True/\bF (t:=TVS) (s105_0 xss) xss (F.iy xss) (fun v0:Int=>True) (br (fun v0:Int=>True->K (.exit 0) (⟨[(0,.data (Ty.sl TVS) xss),(3,dI v0)],[]⟩:St)) (fun _=>False)) m st_
abbrev s105_2 (xss:(List LV)) (i2:Int) (v2:LV):St:=⟨[(6,.own 24 none),(25,.data (Ty.sl TVS) xss),(26,dI (xss.length:Int)),(27,dI i2)],[(24,.arr false aa v2)]⟩
abbrev LP105_2 (xss:(List LV)) (m:Nat) (st_:St) (K:KX):Prop:=True/\bF (t:=TVS) (s105_2 xss) xss (F.iu xss) (fun v2:LV=>True) (br (fun v2:LV=>True->K (.exit 2) (⟨[(6,.own 24 none)],[(24,.arr false aa v2)]⟩:St)) (fun _=>False)) m st_
def L105 (xss:(List LV)):bE:=lp2 0 (LP105_0 xss) 2 (LP105_2 xss)
theorem vc105 (xss:(List LV)) (K:KA):vcT C105 (L105 xss) ann105 f105 [.data (Ty.sl TVS) xss] [] .raw K =
 (∃m_,True/\bF (t:=TVS) (s105_0 xss) xss (F.iy xss) (fun v0:Int=>True) (br (fun v0:Int=>True->(0<=v0)/\(v0<=1099511627776)/\(LD ([]:List aa.D) fun r1=>(∃m_,True/\bF (t:=TVS) (s105_2 xss) xss (F.iu xss) (fun v2:LV=>True) (br (fun v2:LV=>True->K (.own 0 none) [(0,.arr false aa v2)]) (fun _=>False)) m_ (s105_2 xss Z0 r1)))) (fun _=>False)) m_ (s105_0 xss Z0 Z0)):=by kernel_rfl
theorem lvc105_0 (xss:(List LV))  (i0:Int) (v0:Int) (m:Nat) (K:KX):lvT C105 (L105 xss) ann105 f105 0 0 (s105_0 xss i0 v0) m K =
 (cond (decide (i0<(xss.length:Int))) ((0<=i0)/\(i0<(xss.length:Int))/\cond (decide (wrap64 (v0+((nth (t:=TVS) xss i0).length:Int))<Z0)) False (nxT (LP105_0 xss) m K (s105_0 xss (wrap64 (i0+Z1)) (wrap64 (v0+((nth (t:=TVS) xss i0).length:Int)))))) (K (.exit 0) (⟨[(0,.data (Ty.sl TVS) xss),(3,dI v0)],[]⟩:St))):=by kernel_rfl
theorem lvc105_1 (xss:(List LV))  (i2:Int) (v2:LV) (m:Nat) (K:KX):lvT C105 (L105 xss) ann105 f105 1 2 (s105_2 xss i2 v2) m K =
 (cond (decide (i2<(xss.length:Int))) ((0<=i2)/\(i2<(xss.length:Int))/\((v2.length+(nth (t:=TVS) xss i2).length) * 32<=lim)/\(nxT (LP105_2 xss) m K (s105_2 xss (wrap64 (i2+Z1)) (v2++(nth (t:=TVS) xss i2))))) (K (.exit 2) (⟨[(6,.own 24 none)],[(24,.arr false aa v2)]⟩:St))):=by kernel_rfl
theorem con105_ok:bg P 105 c105:=bq C105 func105 (kC con160_ok kN) fun args hp K h0=>by
 obtain⟨xss,rfl,rfl,h_xss,hK⟩:=g1e h0
 have h:ok (F.oc xss) (fun r=>K (.own 0 none) [(0,.arr false aa r)]):=az (F.wB xss h_xss) (hK _ rfl)
 refine⟨rfl,ann105,(L105 xss),.raw,(sw (i0:=0) (i1:=2) (by kernel_rfl) ?_ ?_),?_⟩
 ·rintro _ _ K ⟨hc0,i0,v0,rfl,hl0,rfl,hv0,h⟩
  exact cast (lvc105_0 _ _ _ _ _).symm (bf (t:=TVS) hl0 h (fun ht0 h=>⟨hl0,⟨ht0,(oC h (fun _ h=>h) fun _ h=>(aQ (t:=TVS) (fun _ hm=>⟨hc0,hm⟩) _ rfl hl0 ht0 (aZ h_xss) trivial h))⟩⟩) fun h=>(h trivial))
 ·rintro _ _ K ⟨hc2,i2,v2,rfl,hl2,rfl,hv2,h⟩
  exact cast (lvc105_1 _ _ _ _ _).symm (bf (t:=TVS) hl2 h (fun ht2 h=>⟨hl2,⟨ht2,(oG h fun _ h=>(aQ (t:=TVS) (fun _ hm=>⟨hc2,hm⟩) _ rfl hl2 ht2 (aZ h_xss) trivial h))⟩⟩) fun h=>(h trivial))
 ·rw[vc105]
  exact(aR (t:=TVS) (fun m hm=>⟨trivial,hm⟩) _ rfl trivial (aU h (fun v0 h hv0=>(oG h fun _ h=>(oG h fun _ h=>(oL h fun _ _ h=>(aR (t:=TVS) (fun m hm=>⟨trivial,hm⟩) _ rfl trivial (aU h (fun v2 h hv2=>h) (fun _ h=>h.elim))))))) (fun _ h=>h.elim)))
def c62:Con:=⟨[.dat TVS,.dat TVS],fun args hp K=>g2 (pD TVS) (pD TVS) (fun a b=>(Sm TVS a)/\(Sm TVS b)/\(a.length+b.length<=1048576)/\(LD (a++b) fun r=>K (.clp 0 (r.length:Int)) [(0,.arr false aa r)])) args hp,.bor,false⟩
abbrev C62:Ctx:=cx [(87,c87),(105,c105)] 10 [] 0 false
def ann62:=an [[kp 3],[kp 16]] []
theorem vc62 (a:LV) (b:LV) (K:KA):vcT C62 aA ann62 f62 [.data TVS a,.data TVS b] [] .raw K =
 ((Sm (Ty.sl TVS) [a,b])/\(LD (List.flatten [a,b]) fun r1=>(Sm TVS r1)/\(LD r1 fun r2=>K (.clp 0 ((r2.take (r2.length:Int).toNat).length:Int)) [(0,.arr false aa (r2.take (r2.length:Int).toNat))]))):=by kernel_rfl
theorem con62_ok:bg P 62 c62:=bq C62 func62 (kC con87_ok (kC con105_ok kN)) fun args hp K h0=>by
 obtain⟨a,b,rfl,rfl,h_a,h_b,p0,hK⟩:=g2e h0
 have h:ok (F.rM a b) (fun r=>K (.clp 0 (r.length:Int)) [(0,.arr false aa r)]):=az (F.zd a b h_a h_b p0) (hK _ rfl)
 refine⟨rfl,ann62,aA,.raw,(aG (by kernel_rfl)),?_⟩
 ·rw[vc62]
  exact(oG h fun _ h=>(oL h fun _ _ h=>(oG h fun _ h=>(oL h fun _ _ h=>h))))
def c112:Con:=⟨[.dat aE],fun args hp K=>g1 (pD aE) (fun truth=>(LD (M.valueOf truth) fun r=>K (.data aa r) [])) args hp,.plain,false⟩
abbrev C112:Ctx:=cx [(60,c60)] 9 [] 0 false
def ann112:=an [[kp 5],[kp 37],[kp 4],[kp 4]] []
theorem vc112 (truth:Int) (K:KA):vcT C112 aA ann112 f112 [dI truth] [] (.dat aa) K =
 (cond (!(M.inR truth Z0 Z1)) (K (.data aa (Z0,(Z0,((⟨#[]⟩:ByteArray),())))) []) (K (.data aa (Z3,(truth,((⟨#[]⟩:ByteArray),())))) [])):=by kernel_rfl
theorem con112_ok:bg P 112 c112:=bq C112 func112 (kC con60_ok kN) fun args hp K h0=>by
 obtain⟨truth,rfl,rfl,hK⟩:=g1e h0
 have h:ok (F.pN truth) (fun r=>K (.data aa r) []):=az (F.yQ truth) (hK _ rfl)
 refine⟨rfl,ann112,aA,(.dat aa),(aG (by kernel_rfl)),?_⟩
 ·rw[vc112]
  exact(oC h (fun _ h=>h) fun _ h=>h)
def c137:Con:=⟨[.dat (Ty.sl aE)],fun args hp K=>g1 (pD (Ty.sl aE)) (fun vals=>(Sm (Ty.sl aE) vals)/\K (dI (M.orI vals)) []) args hp,.plain,false⟩
abbrev C137:Ctx:=cx [] 18 [] 0 false
def ann137:=an [[kp 1],[kp 9],[kp 456],[kp 968],[kp 488],[kp 16872],[kp 4],[kp 456],[kp 4]] [[kp 8]]
abbrev s137_0 (vals:LI) (i0:Int) (v0:Unit):St:=⟨[(3,dI Z0),(6,.data (Ty.sl aE) vals),(7,dI (vals.length:Int)),(8,dI i0)],[]⟩
abbrev LP137_0 (vals:LI) (m:Nat) (st_:St) (K:KX):Prop:=True/\bF (t:=aE) (s137_0 vals) vals (F.iT vals) (fun v0:Unit=>True) (br (fun v0:Unit=>True->K (.exit 0) (⟨[(3,dI Z0)],[]⟩:St)) (fun q0:Int=>K .ret (⟨[(2,dI q0)],[]⟩:St))) m st_
def L137 (vals:LI):bE:=lp1 0 (LP137_0 vals)
theorem vc137 (vals:LI) (K:KA):vcT C137 (L137 vals) ann137 f137 [.data (Ty.sl aE) vals] [] (.dat aE) K =
 (∃m_,True/\bF (t:=aE) (s137_0 vals) vals (F.iT vals) (fun v0:Unit=>True) (br (fun v0:Unit=>True->K (dI Z0) []) (fun q0:Int=>K (dI q0) [])) m_ (s137_0 vals Z0 ())):=by kernel_rfl
theorem lvc137_0 (vals:LI)  (i0:Int) (v0:Unit) (m:Nat) (K:KX):lvT C137 (L137 vals) ann137 f137 0 0 (s137_0 vals i0 v0) m K =
 (cond (decide (i0<(vals.length:Int))) ((0<=i0)/\(i0<(vals.length:Int))/\cond (!decide ((nI vals i0)=Z0)) (K .ret (⟨[(2,dI (nI vals i0))],[]⟩:St)) (nxT (LP137_0 vals) m K (s137_0 vals (wrap64 (i0+Z1)) ()))) (K (.exit 0) (⟨[(3,dI Z0)],[]⟩:St))):=by kernel_rfl
theorem con137_ok:bg P 137 c137:=bq C137 func137 kN fun args hp K h0=>by
 obtain⟨vals,rfl,rfl,h_vals,hK⟩:=g1e h0
 have h:ok (F.tB vals) (fun r=>K (dI r) []):=az (F.AN vals h_vals) hK
 refine⟨rfl,ann137,(L137 vals),(.dat aE),(bA (i0:=0) (by kernel_rfl) ?_),?_⟩
 ·rintro _ _ K ⟨hc0,i0,v0,rfl,hl0,rfl,hv0,h⟩
  exact cast (lvc137_0 _ _ _ _ _).symm (bf (t:=aE) hl0 h (fun ht0 h=>⟨hl0,⟨ht0,(oC h (fun _ h=>h) fun _ h=>(aQ (t:=aE) (fun _ hm=>⟨hc0,hm⟩) _ rfl hl0 ht0 (aZ h_vals) trivial h))⟩⟩) fun h=>(h trivial))
 ·rw[vc137]
  exact(aR (t:=aE) (fun m hm=>⟨trivial,hm⟩) _ rfl trivial (aU h (fun v0 h hv0=>h) (fun q0 h=>h)))
def c179:Con:=⟨[.dat aE],fun args hp K=>g1 (pD aE) (fun x=>K (dB false) []) args hp,.plain,false⟩
abbrev C179:Ctx:=cx [] 6 [] 0 false
def ann179:=an [[kp 1],[kp 4]] []
theorem vc179 (x:Int) (K:KA):vcT C179 aA ann179 f179 [dI x] [] (.dat Ty.bool) K =
 (K (dB (!decide (x=x))) []):=by kernel_rfl
theorem con179_ok:bg P 179 c179:=bq C179 func179 kN fun args hp K h0=>by
 obtain⟨x,rfl,rfl,hK⟩:=g1e h0
 have h:ok (F.ow x) (fun r=>K (dB r) []):=az (F.wY x) hK
 refine⟨rfl,ann179,aA,(.dat Ty.bool),(aG (by kernel_rfl)),?_⟩
 ·rw[vc179]
  exact h
def c140:Con:=⟨[.dat aE,.dat aE],fun args hp K=>g2 (pD aE) (pD aE) (fun x y=>K (dI (M.uJ x y)) []) args hp,.plain,false⟩
abbrev C140:Ctx:=cx [(179,c179)] 20 [] 0 false
def ann140:=an [[kp 3],[kp 35],[kp 99],[kp 2115],[kp 4096],[kp 16],[kp 16],[kp 8195],[kp 16],[kp 65539],[kp 16],[kp 524288],[kp 16],[kp 16]] []
theorem vc140 (x:Int) (y:Int) (K:KA):vcT C140 aA ann140 f140 [dI x,dI y] [] (.dat aE) K =
 (cond false (cond false (K (dI Z0) []) (K (dI (-1:Int)) [])) (cond false (K (dI Z1) []) (cond (decide (x<y)) (K (dI (-1:Int)) []) (cond (decide (y<x)) (K (dI Z1) []) (K (dI Z0) []))))):=by kernel_rfl
theorem con140_ok:bg P 140 c140:=bq C140 func140 (kC con179_ok kN) fun args hp K h0=>by
 obtain⟨x,y,rfl,rfl,hK⟩:=g2e h0
 have h:ok (F.lP x y) (fun r=>K (dI r) []):=az (F.uo x y) hK
 refine⟨rfl,ann140,aA,(.dat aE),(aG (by kernel_rfl)),?_⟩
 ·rw[vc140]
  exact(oC h (fun b_1 h=>(bL b_1 h)) fun b_1 h=>(cY b_1 (oC h (fun _ h=>h) fun _ h=>(oC h (fun _ h=>h) fun _ h=>h))))
def c202:Con:=⟨[.dat Ty.str],fun args hp K=>g1 (pD Ty.str) (fun x=>(Sm Ty.str x)/\K (dB false) []) args hp,.plain,false⟩
abbrev C202:Ctx:=cx [] 6 [] 0 false
def ann202:=an [[kp 1],[kp 4]] []
theorem vc202 (x:ByteArray) (K:KA):vcT C202 aA ann202 f202 [.data Ty.str x] [] (.dat Ty.bool) K =
 (K (dB (!decide (x=x))) []):=by kernel_rfl
theorem con202_ok:bg P 202 c202:=bq C202 func202 kN fun args hp K h0=>by
 obtain⟨x,rfl,rfl,h_x,hK⟩:=g1e h0
 have h:ok (F.jV x) (fun r=>K (dB r) []):=az (F.sP x h_x) hK
 refine⟨rfl,ann202,aA,(.dat Ty.bool),(aG (by kernel_rfl)),?_⟩
 ·rw[vc202]
  exact h
def c178:Con:=⟨[.dat Ty.str,.dat Ty.str],fun args hp K=>g2 (pD Ty.str) (pD Ty.str) (fun x y=>(Sm Ty.str x)/\(Sm Ty.str y)/\K (dI (M.uB x y)) []) args hp,.plain,false⟩
abbrev C178:Ctx:=cx [(202,c202)] 20 [] 0 false
def ann178:=an [[kp 3],[kp 35],[kp 99],[kp 2115],[kp 4096],[kp 16],[kp 16],[kp 8195],[kp 16],[kp 65539],[kp 16],[kp 524288],[kp 16],[kp 16]] []
theorem vc178 (x:ByteArray) (y:ByteArray) (K:KA):vcT C178 aA ann178 f178 [.data Ty.str x,.data Ty.str y] [] (.dat aE) K =
 ((Sm Ty.str x)/\(Sm Ty.str y)/\cond false (cond false (K (dI Z0) []) (K (dI (-1:Int)) [])) (cond false (K (dI Z1) []) (cond (Op.bytesLess x.toList y.toList) (K (dI (-1:Int)) []) (cond (!(Op.bytesLess x.toList y.toList||decide (x=y))) (K (dI Z1) []) (K (dI Z0) []))))):=by kernel_rfl
theorem con178_ok:bg P 178 c178:=bq C178 func178 (kC con202_ok kN) fun args hp K h0=>by
 obtain⟨x,y,rfl,rfl,h_x,h_y,hK⟩:=g2e h0
 have h:ok (F.jj x y) (fun r=>K (dI r) []):=az (F.qK x y h_x h_y) hK
 refine⟨rfl,ann178,aA,(.dat aE),(aG (by kernel_rfl)),?_⟩
 ·rw[vc178]
  exact⟨h_x,⟨h_y,(oC h (fun b_1 h=>(bL b_1 h)) fun b_1 h=>(cY b_1 (oC h (fun _ h=>h) fun _ h=>(oC h (fun _ h=>h) fun _ h=>h))))⟩⟩
def c139:Con:=⟨[.dat aa,.dat aa],fun args hp K=>g2 (pD aa) (pD aa) (fun v w=>(Sm aa v)/\(Sm aa w)/\K (dI (M.order v w)) []) args hp,.plain,false⟩
abbrev C139:Ctx:=cx [(137,c137),(140,c140),(178,c178)] 22 [] 0 false
def ann139:=an [[.fixRow 2 aa,.fixRow 3 aa,kp 12],[kp 16]] []
theorem vc139 (v:aa.D) (w:aa.D) (K:KA):vcT C139 aA ann139 f139 [.data aa v,.data aa w] [] (.dat aE) K =
 ((Sm Ty.str v.2.2.1)/\(Sm Ty.str w.2.2.1)/\(Sm (Ty.sl aE) [(M.uJ v.1 w.1),(M.uJ v.2.1 w.2.1),(M.uB v.2.2.1 w.2.2.1)])/\K (dI (M.orI [(M.uJ v.1 w.1),(M.uJ v.2.1 w.2.1),(M.uB v.2.2.1 w.2.2.1)])) []):=by kernel_rfl
theorem con139_ok:bg P 139 c139:=bq C139 func139 (kC con137_ok (kC con140_ok (kC con178_ok kN))) fun args hp K h0=>by
 obtain⟨v,w,rfl,rfl,h_v,h_w,hK⟩:=g2e h0
 have h:ok (F.kj v w) (fun r=>K (dI r) []):=az (F.sJ v w h_v h_w) hK
 refine⟨rfl,ann139,aA,(.dat aE),(aG (by kernel_rfl)),?_⟩
 ·rw[vc139]
  exact⟨h_v.2.2.1,⟨h_w.2.2.1,(oG h fun _ h=>h)⟩⟩
def c198:Con:=⟨[.dat Ty.bool],fun args hp K=>g1 (pD Ty.bool) (fun b=>K (dI (M.bool b)) []) args hp,.plain,false⟩
abbrev C198:Ctx:=cx [] 4 [] 0 false
def ann198:=an [[kp 1],[kp 8],[kp 4],[kp 4]] []
theorem vc198 (b:Bool) (K:KA):vcT C198 aA ann198 f198 [dB b] [] (.dat aE) K =
 (cond b (K (dI Z1) []) (K (dI Z0) [])):=by kernel_rfl
theorem con198_ok:bg P 198 c198:=bq C198 func198 kN fun args hp K h0=>by
 obtain⟨b,rfl,rfl,hK⟩:=g1e h0
 have h:ok (F.qb b) (fun r=>K (dI r) []):=az (F.yH b) hK
 refine⟨rfl,ann198,aA,(.dat aE),(aG (by kernel_rfl)),?_⟩
 ·rw[vc198]
  exact(oC h (fun _ h=>h) fun _ h=>h)
def c193:Con:=⟨[.dat aE,.dat aa,.dat aa],fun args hp K=>g3 (pD aE) (pD aa) (pD aa) (fun kind a b=>(Sm aa a)/\(Sm aa b)/\K (dI (M.compare kind a b)) []) args hp,.plain,false⟩
abbrev C193:Ctx:=cx [(60,c60),(91,c91),(139,c139),(198,c198)] 71 [] 0 false
def ann193:=an [[.fixRow 4 aa,.fixRow 5 aa,kp 49],[kp 305],[kp 64],[kp 4194353],[kp 64],[kp 2147483697],[kp 64],[kp 129],[kp 64]] []
abbrev S193_0 (kind:Int) (a:aa.D) (b:aa.D) (K:KA):Prop:=cond ((decide (kind=Z4))==true) (K (dI (M.bool (decide ((M.order a b)<=Z0)))) []) (K (dI (M.bool false)) [])
abbrev S193_1 (kind:Int) (a:aa.D) (b:aa.D) (K:KA):Prop:=cond ((decide (kind=Z3))==true) (cond ((decide ((M.order a b)<Z0))==false) (S193_0 kind a b K) (K (dI (M.bool true)) [])) (S193_0 kind a b K)
abbrev S193_2 (kind:Int) (a:aa.D) (b:aa.D) (K:KA):Prop:=cond ((decide (kind=Z2))==true) (cond ((!decide ((M.order a b)=Z0))==false) (S193_1 kind a b K) (K (dI (M.bool true)) [])) (S193_1 kind a b K)
theorem vc193 (kind:Int) (a:aa.D) (b:aa.D) (K:KA):vcT C193 aA ann193 f193 [dI kind,.data aa a,.data aa b] [] (.dat aE) K =
 (cond ((!(M.inR kind Z1 Z4))==false) ((Sm aa a)/\cond ((!(M.aM a))==false) ((Sm aa b)/\cond (!(M.aM b)) (K (dI (-1:Int)) []) (cond ((decide (a.1=Z0))==false) (cond (decide (b.1=Z0)) (K (dI Z2) []) (cond (!decide (a.1=b.1)) (K (dI (-1:Int)) []) ((Sm aa a)/\(Sm aa b)/\cond ((decide (kind=Z1))==true) (cond ((decide ((M.order a b)=Z0))==false) (S193_2 kind a b K) (K (dI (M.bool true)) [])) (S193_2 kind a b K)))) (K (dI Z2) []))) (K (dI (-1:Int)) [])) (K (dI (-1:Int)) [])):=by kernel_rfl
theorem con193_ok:bg P 193 c193:=bq C193 func193 (kC con60_ok (kC con91_ok (kC con139_ok (kC con198_ok kN)))) fun args hp K h0=>by
 obtain⟨kind,a,b,rfl,rfl,h_a,h_b,hK⟩:=g3e h0
 have h:ok (F.qy kind a b) (fun r=>K (dI r) []):=az (F.yC kind a b h_a h_b) hK
 refine⟨rfl,ann193,aA,(.dat aE),(aG (by kernel_rfl)),?_⟩
 ·rw[vc193]
  exact(oC h (fun _ h=>⟨h_a,(oC h (fun _ h=>⟨h_b,(oC h (fun _ h=>h) fun _ h=>(oC h (fun _ h=>(oC h (fun _ h=>h) fun _ h=>(oC h (fun _ h=>h) fun _ h=>⟨h_a,⟨h_b,(oC h (fun b_7 h=>(oC h (fun _ h=>(cY (uef (cM (bet b_7) (by decide))) (cY (uef (cM (bet b_7) (by decide))) (cY (uef (cM (bet b_7) (by decide))) h)))) fun _ h=>h)) fun _ h=>(oC h (fun b_19 h=>(oC h (fun _ h=>(cY (uef (cM (bet b_19) (by decide))) (cY (uef (cM (bet b_19) (by decide))) h))) fun _ h=>h)) fun _ h=>(oC h (fun b_25 h=>(oC h (fun _ h=>(cY (uef (cM (bet b_25) (by decide))) h)) fun _ h=>h)) fun _ h=>(oC h (fun _ h=>h) fun _ h=>h))))⟩⟩))) fun _ h=>h))⟩) fun _ h=>h)⟩) fun _ h=>h)
def c219:Con:=⟨[.dat aE],fun args hp K=>g1 (pD aE) (fun n=>K (dB (M.inR n 0 2)) []) args hp,.plain,false⟩
abbrev C219:Ctx:=cx [(60,c60)] 5 [] 0 false
def ann219:=an [[kp 1],[kp 4]] []
theorem vc219 (n:Int) (K:KA):vcT C219 aA ann219 f219 [dI n] [] (.dat Ty.bool) K =
 (K (dB (M.inR n Z0 Z2)) []):=by kernel_rfl
theorem con219_ok:bg P 219 c219:=bq C219 func219 (kC con60_ok kN) fun args hp K h0=>by
 obtain⟨n,rfl,rfl,hK⟩:=g1e h0
 have h:ok (F.uG n) (fun r=>K (dB r) []):=az (F.yo n) hK
 refine⟨rfl,ann219,aA,(.dat Ty.bool),(aG (by kernel_rfl)),?_⟩
 ·rw[vc219]
  exact h
def c208:Con:=⟨[.dat aE,.dat aE,.dat aE],fun args hp K=>g3 (pD aE) (pD aE) (pD aE) (fun a b alone=>(0<=alone/\alone<=1)/\K (dI (M.fold a b alone)) []) args hp,.plain,false⟩
abbrev C208:Ctx:=cx [(219,c219)] 35 [] 0 false
def ann208:=an [[kp 7],[kp 135],[kp 64],[kp 65543],[kp 64],[kp 67108868],[kp 64],[kp 64]] []
theorem vc208 (a:Int) (b:Int) (alone:Int) (K:KA):vcT C208 aA ann208 f208 [dI a,dI b,dI alone] [] (.dat aE) K =
 (cond ((!(M.inR a 0 2))==false) (cond (!(M.inR b 0 2)) (K (dI (-1:Int)) []) (cond ((decide (a=alone))==false) (cond (decide (b=alone)) (K (dI alone) []) (cond ((decide (a=Z2))==false) (cond (decide (b=Z2)) (K (dI Z2) []) (K (dI (wrap64 (Z1-alone))) [])) (K (dI Z2) []))) (K (dI alone) []))) (K (dI (-1:Int)) [])):=by kernel_rfl
theorem con208_ok:bg P 208 c208:=bq C208 func208 (kC con219_ok kN) fun args hp K h0=>by
 obtain⟨a,b,alone,rfl,rfl,p0,hK⟩:=g3e h0
 have h:ok (F.wT a b alone) (fun r=>K (dI r) []):=az (F.Cp a b alone p0) hK
 refine⟨rfl,ann208,aA,(.dat aE),(aG (by kernel_rfl)),?_⟩
 ·rw[vc208]
  exact(oC h (fun _ h=>(oC h (fun _ h=>h) fun _ h=>(oC h (fun _ h=>(oC h (fun _ h=>h) fun _ h=>(oC h (fun _ h=>(oC h (fun _ h=>h) fun _ h=>h)) fun _ h=>h))) fun _ h=>h))) fun _ h=>h)
def c194:Con:=⟨[.dat aE,.dat aE],fun args hp K=>g2 (pD aE) (pD aE) (fun a b=>K (dI (M.rQ a b)) []) args hp,.plain,false⟩
abbrev C194:Ctx:=cx [(208,c208)] 8 [] 0 false
def ann194:=an [[kp 3],[kp 16]] []
theorem vc194 (a:Int) (b:Int) (K:KA):vcT C194 aA ann194 f194 [dI a,dI b] [] (.dat aE) K =
 ((0<=Z0/\Z0<=1)/\K (dI (M.fold a b Z0)) []):=by kernel_rfl
theorem con194_ok:bg P 194 c194:=bq C194 func194 (kC con208_ok kN) fun args hp K h0=>by
 obtain⟨a,b,rfl,rfl,hK⟩:=g2e h0
 have h:ok (F.tE a b) (fun r=>K (dI r) []):=az (F.Bb a b) hK
 refine⟨rfl,ann194,aA,(.dat aE),(aG (by kernel_rfl)),?_⟩
 ·rw[vc194]
  exact(oG h fun _ h=>h)
def c195:Con:=⟨[.dat aa],fun args hp K=>g1 (pD aa) (fun v=>(Sm aa v)/\K (dI (M.cv v)) []) args hp,.plain,false⟩
abbrev C195:Ctx:=cx [(91,c91)] 17 [] 0 false
def ann195:=an [[.fixRow 1 aa,kp 2],[kp 10],[kp 4],[kp 130],[kp 4],[kp 2050],[kp 4],[kp 4]] []
theorem vc195 (v:aa.D) (K:KA):vcT C195 aA ann195 f195 [.data aa v] [] (.dat aE) K =
 ((Sm aa v)/\cond (!(M.aM v)) (K (dI (-1:Int)) []) (cond (decide (v.1=Z0)) (K (dI Z2) []) (cond (decide (v.1=Z3)) (K (dI v.2.1) []) (K (dI (-1:Int)) [])))):=by kernel_rfl
theorem con195_ok:bg P 195 c195:=bq C195 func195 (kC con91_ok kN) fun args hp K h0=>by
 obtain⟨v,rfl,rfl,h_v,hK⟩:=g1e h0
 have h:ok (F.pY v) (fun r=>K (dI r) []):=az (F.yO v h_v) hK
 refine⟨rfl,ann195,aA,(.dat aE),(aG (by kernel_rfl)),?_⟩
 ·rw[vc195]
  exact⟨h_v,(oC h (fun _ h=>h) fun _ h=>(oC h (fun _ h=>h) fun _ h=>(oC h (fun _ h=>h) fun _ h=>h)))⟩
def c196:Con:=⟨[.dat aE,.dat aE],fun args hp K=>g2 (pD aE) (pD aE) (fun a b=>K (dI (M.zV a b)) []) args hp,.plain,false⟩
abbrev C196:Ctx:=cx [(208,c208)] 8 [] 0 false
def ann196:=an [[kp 3],[kp 16]] []
theorem vc196 (a:Int) (b:Int) (K:KA):vcT C196 aA ann196 f196 [dI a,dI b] [] (.dat aE) K =
 ((0<=Z1/\Z1<=1)/\K (dI (M.fold a b Z1)) []):=by kernel_rfl
theorem con196_ok:bg P 196 c196:=bq C196 func196 (kC con208_ok kN) fun args hp K h0=>by
 obtain⟨a,b,rfl,rfl,hK⟩:=g2e h0
 have h:ok (F.vS a b) (fun r=>K (dI r) []):=az (F.Ct a b) hK
 refine⟨rfl,ann196,aA,(.dat aE),(aG (by kernel_rfl)),?_⟩
 ·rw[vc196]
  exact(oG h fun _ h=>h)
def c197:Con:=⟨[.dat aE],fun args hp K=>g1 (pD aE) (fun a=>K (dI (M.qU a)) []) args hp,.plain,false⟩
abbrev C197:Ctx:=cx [] 10 [] 0 false
def ann197:=an [[kp 1],[kp 8],[kp 24],[kp 4],[kp 72],[kp 4],[kp 256],[kp 4],[kp 4]] []
theorem vc197 (a:Int) (K:KA):vcT C197 aA ann197 f197 [dI a] [] (.dat aE) K =
 (cond (decide (a=Z0)) (K (dI Z1) []) (cond (decide (a=Z1)) (K (dI Z0) []) (cond (decide (a=Z2)) (K (dI Z2) []) (K (dI (-1:Int)) [])))):=by kernel_rfl
theorem con197_ok:bg P 197 c197:=bq C197 func197 kN fun args hp K h0=>by
 obtain⟨a,rfl,rfl,hK⟩:=g1e h0
 have h:ok (F.tD a) (fun r=>K (dI r) []):=az (F.Bd a) hK
 refine⟨rfl,ann197,aA,(.dat aE),(aG (by kernel_rfl)),?_⟩
 ·rw[vc197]
  exact(oC h (fun _ h=>h) fun _ h=>(oC h (fun _ h=>h) fun _ h=>(oC h (fun _ h=>h) fun _ h=>h)))
def c166:Con:=⟨[.dat aC,.dat TVS,.lent aa],fun args hp K=>g3 (pD aC) (pD TVS) (pB aa) (fun p row inp=>(Sm aC p)/\(Sm TVS row)/\(Sm TVS inp)/\((inp.length:Int)=M.takes p)/\(M.nr p row.length)/\(1<=p.1/\p.1<=8)/\(LD (M.iB p row inp) fun r=>K (.data aa r) [])) args hp,.plain,false⟩
abbrev C166:Ctx:=cx [(91,c91),(112,c112),(193,c193),(194,c194),(195,c195),(196,c196),(197,c197),(198,c198)] 103 [] 0 false
def ann166:=an [[.fixRow 3 aC,kp 78],[kp 590],[kp 1614],[kp 64],[kp 16974],[kp 64],[kp 2097740],[.fixRow 7 aa,kp 196],[.keep [6,7,49]],[kp 64],[kp 64],[kp 4503599627371084],[kp 64],[.keep [2,6,9,64]],[kp 64],[.keep [2,6,9,76]],[kp 64],[.keep [2,6,88]],[kp 64],[kp 64]] []
theorem vc166 (p:aC.D) (row:LV) (inp:LV) (K:KA):vcT C166 aA ann166 f166 [.data aC p,.data TVS row,.brw aa inp] [] (.dat aa) K =
 (cond (decide (p.1=Z1)) (K (.data aa p.2.2.1) []) (cond (decide (p.1=Z2)) ((0<=p.2.1)/\(p.2.1<(row.length:Int))/\K (.data aa (nV row p.2.1)) []) (cond (decide (p.1=Z3)) ((0<=Z0)/\(Z0<(inp.length:Int))/\(0<=Z1)/\(Z1<(inp.length:Int))/\(0<=Z0)/\(Z0<(inp.length:Int))/\cond ((decide ((nV inp Z0).1=Z0))==false) ((0<=Z1)/\(Z1<(inp.length:Int))/\cond ((decide ((nV inp Z1).1=Z0))==false) ((Sm aa (Z1,(wrap64 ((nV inp Z0).2.1+(nV inp Z1).2.1),((⟨#[]⟩:ByteArray),()))))/\cond (!(M.aM (Z1,(wrap64 ((nV inp Z0).2.1+(nV inp Z1).2.1),((⟨#[]⟩:ByteArray),()))))) (K (.data aa (Z0,(Z0,((⟨#[]⟩:ByteArray),())))) []) (K (.data aa (Z1,(wrap64 ((nV inp Z0).2.1+(nV inp Z1).2.1),((⟨#[]⟩:ByteArray),())))) [])) (K (.data aa (Z0,(Z0,((⟨#[]⟩:ByteArray),())))) [])) (K (.data aa (Z0,(Z0,((⟨#[]⟩:ByteArray),())))) [])) (cond (decide (p.1=Z4)) ((0<=Z0)/\(Z0<(inp.length:Int))/\(0<=Z1)/\(Z1<(inp.length:Int))/\(Sm aa (nV inp Z0))/\(Sm aa (nV inp Z1))/\(LD (M.valueOf (M.compare p.2.1 (nV inp Z0) (nV inp Z1))) fun r1=>K (.data aa r1) [])) (cond (decide (p.1=Z5)) ((0<=Z0)/\(Z0<(inp.length:Int))/\(0<=Z1)/\(Z1<(inp.length:Int))/\(Sm aa (nV inp Z0))/\(Sm aa (nV inp Z1))/\(LD (M.valueOf (M.rQ (M.cv (nV inp Z0)) (M.cv (nV inp Z1)))) fun r2=>K (.data aa r2) [])) (cond (decide (p.1=Z6)) ((0<=Z0)/\(Z0<(inp.length:Int))/\(0<=Z1)/\(Z1<(inp.length:Int))/\(Sm aa (nV inp Z0))/\(Sm aa (nV inp Z1))/\(LD (M.valueOf (M.zV (M.cv (nV inp Z0)) (M.cv (nV inp Z1)))) fun r3=>K (.data aa r3) [])) (cond (decide (p.1=(7:Int))) ((0<=Z0)/\(Z0<(inp.length:Int))/\(Sm aa (nV inp Z0))/\(LD (M.valueOf (M.qU (M.cv (nV inp Z0)))) fun r4=>K (.data aa r4) [])) ((0<=Z0)/\(Z0<(inp.length:Int))/\(LD (M.valueOf (M.bool (decide ((nV inp Z0).1=Z0)))) fun r5=>K (.data aa r5) []))))))))):=by kernel_rfl
theorem con166_ok:bg P 166 c166:=bq C166 func166 (kC con91_ok (kC con112_ok (kC con193_ok (kC con194_ok (kC con195_ok (kC con196_ok (kC con197_ok (kC con198_ok kN)))))))) fun args hp K h0=>by
 obtain⟨p,row,inp,rfl,rfl,h_p,h_row,h_inp,p0,p1,p2,hK⟩:=g3e h0
 have h:ok (F.lD p row inp) (fun r=>K (.data aa r) []):=az (F.tN p row inp h_p h_row h_inp p0 p1 p2) (hK _ rfl)
 refine⟨rfl,ann166,aA,(.dat aa),(aG (by kernel_rfl)),?_⟩
 ·rw[vc166]
  exact(oC h (fun _ h=>h) fun _ h=>(oC h (fun _ h=>(oG h fun _ h=>(oG h fun _ h=>h))) fun _ h=>(oC h (fun _ h=>⟨(Int.natCast_nonneg 0),(oG h fun g1 h=>⟨(Int.natCast_nonneg 1),(oG h fun g2 h=>⟨(Int.natCast_nonneg 0),⟨g1,(oC h (fun _ h=>⟨(Int.natCast_nonneg 1),⟨g2,(oC h (fun _ h=>⟨(show Sm aa _ from⟨trivial,(show Sm (Ty.pair aE (Ty.pair Ty.str Ty.unit)) _ from⟨trivial,(show Sm (Ty.pair Ty.str Ty.unit) _ from⟨(Nat.le_of_ble_eq_true rfl),trivial⟩)⟩)⟩),(oC h (fun _ h=>h) fun _ h=>h)⟩) fun _ h=>h)⟩⟩) fun _ h=>h)⟩⟩)⟩)⟩) fun _ h=>(oC h (fun _ h=>⟨(Int.natCast_nonneg 0),(oG h fun _ h=>⟨(Int.natCast_nonneg 1),(oG h fun _ h=>⟨(aH h_inp Z0),⟨(aH h_inp Z1),(oL h fun _ _ h=>h)⟩⟩)⟩)⟩) fun _ h=>(oC h (fun _ h=>⟨(Int.natCast_nonneg 0),(oG h fun _ h=>⟨(Int.natCast_nonneg 1),(oG h fun _ h=>⟨(aH h_inp Z0),⟨(aH h_inp Z1),(oL h fun _ _ h=>h)⟩⟩)⟩)⟩) fun _ h=>(oC h (fun _ h=>⟨(Int.natCast_nonneg 0),(oG h fun _ h=>⟨(Int.natCast_nonneg 1),(oG h fun _ h=>⟨(aH h_inp Z0),⟨(aH h_inp Z1),(oL h fun _ _ h=>h)⟩⟩)⟩)⟩) fun _ h=>(oC h (fun _ h=>⟨(Int.natCast_nonneg 0),(oG h fun _ h=>⟨(aH h_inp Z0),(oL h fun _ _ h=>h)⟩)⟩) fun _ h=>⟨(Int.natCast_nonneg 0),(oG h fun _ h=>(oL h fun _ _ h=>h))⟩)))))))
def c111:Con:=⟨[.dat TVS,.dat TPS],fun args hp K=>g2 (pD TVS) (pD TPS) (fun row e=>(Sm TVS row)/\(Sm TPS e)/\(M.bX row.length e)/\(LD (M.fF row e) fun r=>K (.data aa r) [])) args hp,.plain,false⟩
abbrev C111:Ctx:=cx [(108,c108),(166,c166)] 37 [] 0 false
def ann111:=an [[kp 19],[kp 51],[kp 7217],[kp 15409],[.fixRow 7 aC,kp 7345],[kp 7601],[.fixRow 9 aa,kp 7985],[kp 7217],[kp 7217],[kp 16]] [[kp 48]]
abbrev s111_0 (row:LV) (e:LPt) (i0:Int) (v0:LV):St:=⟨[(0,.data TVS row),(4,.ptr 4 0),(5,.own 5 none),(10,.data TPS e),(11,dI (e.length:Int)),(12,dI i0)],[(4,.box [dI Z0,dI Z0,.data Ty.str (⟨#[]⟩:ByteArray)]),(5,.arr false aa v0)]⟩
abbrev LP111_0 (row:LV) (e:LPt) (m:Nat) (st_:St) (K:KX):Prop:=True/\bF (t:=aC) (s111_0 row e) e (F.dR row e) (fun v0:LV=>True) (br (fun v0:LV=>True->K (.exit 0) (⟨[(4,.ptr 4 0),(5,.own 5 none)],[(4,.box [dI Z0,dI Z0,.data Ty.str (⟨#[]⟩:ByteArray)]),(5,.arr false aa v0)]⟩:St)) (fun _=>False)) m st_
def L111 (row:LV) (e:LPt):bE:=lp1 0 (LP111_0 row e)
theorem vc111 (row:LV) (e:LPt) (K:KA):vcT C111 (L111 row e) ann111 f111 [.data TVS row,.data TPS e] [] (.dat aa) K =
 (∃m_,True/\bF (t:=aC) (s111_0 row e) e (F.dR row e) (fun v0:LV=>True) (br (fun v0:LV=>True->(0<=Z0)/\(Z0<(v0.length:Int))/\K (.data aa (nV v0 Z0)) []) (fun _=>False)) m_ (s111_0 row e Z0 [])):=by kernel_rfl
abbrev S111l0_0 (row:LV) (e:LPt)  (i0:Int) (v0:LV) (m:Nat) (K:KX):Prop:=(Sm aC (nP e i0))/\(Sm TVS row)/\(Sm TVS (aj v0 (some (wrap64 ((v0.length:Int)-(M.takes (nP e i0))),(v0.length:Int)))))/\(((aj v0 (some (wrap64 ((v0.length:Int)-(M.takes (nP e i0))),(v0.length:Int)))).length:Int)=M.takes (nP e i0))/\(M.nr (nP e i0) row.length)/\(1<=(nP e i0).1/\(nP e i0).1<=8)/\(LD (M.iB (nP e i0) row (aj v0 (some (wrap64 ((v0.length:Int)-(M.takes (nP e i0))),(v0.length:Int))))) fun r1=>(0<=Z0)/\(Z0<=wrap64 ((v0.length:Int)-(M.takes (nP e i0))))/\(wrap64 ((v0.length:Int)-(M.takes (nP e i0)))<=(v0.length:Int))/\(wrap64 ((v0.length:Int)-(M.takes (nP e i0)))=wrap64 ((v0.length:Int)-(M.takes (nP e i0))))/\(Z0=0)/\(((wrap64 ((v0.length:Int)-(M.takes (nP e i0)))).toNat+[r1].length) * 32<=lim)/\(nxT (LP111_0 row e) m K (s111_0 row e (wrap64 (i0+Z1)) (v0.take (wrap64 ((v0.length:Int)-(M.takes (nP e i0)))).toNat++[r1]))))
theorem lvc111_0 (row:LV) (e:LPt)  (i0:Int) (v0:LV) (m:Nat) (K:KX):lvT C111 (L111 row e) ann111 f111 0 0 (s111_0 row e i0 v0) m K =
 (cond (decide (i0<(e.length:Int))) ((0<=i0)/\(i0<(e.length:Int))/\(Sm aC (nP e i0))/\(0<=wrap64 ((v0.length:Int)-(M.takes (nP e i0))))/\(wrap64 ((v0.length:Int)-(M.takes (nP e i0)))<=(v0.length:Int))/\((v0.length:Int)<=(v0.length:Int))/\((v0.length:Int)=(v0.length:Int))/\Q0 (S111l0_0  row e i0 v0 m K)) (K (.exit 0) (⟨[(4,.ptr 4 0),(5,.own 5 none)],[(4,.box [dI Z0,dI Z0,.data Ty.str (⟨#[]⟩:ByteArray)]),(5,.arr false aa v0)]⟩:St))):=by kernel_rfl
theorem con111_ok:bg P 111 c111:=bq C111 func111 (kC con108_ok (kC con166_ok kN)) fun args hp K h0=>by
 obtain⟨row,e,rfl,rfl,h_row,h_e,p0,hK⟩:=g2e h0
 have h:ok (F.mL row e) (fun r=>K (.data aa r) []):=az (F.uZ row e h_row h_e p0) (hK _ rfl)
 refine⟨rfl,ann111,(L111 row e),(.dat aa),(bA (i0:=0) (by kernel_rfl) ?_),?_⟩
 ·rintro _ _ K ⟨hc0,i0,v0,rfl,hl0,rfl,hv0,h⟩
  exact cast (lvc111_0 _ _ _ _ _ _).symm (bf (t:=aC) hl0 h (fun ht0 h=>⟨hl0,⟨ht0,⟨(aH h_e i0),(oG h fun _ h=>(oG h fun g1 h=>⟨(Int.le_refl _),⟨rfl,(q0 (⟨(aH h_e i0),⟨h_row,(oG h fun _ h=>(oG h fun _ h=>(oG h fun _ h=>(oG h fun _ h=>(oL h fun _ _ h=>⟨(Int.natCast_nonneg 0),(oG h fun _ h=>⟨g1,⟨rfl,⟨rfl,(oG h fun _ h=>(aQ (t:=aC) (fun _ hm=>⟨hc0,hm⟩) _ rfl hl0 ht0 (aZ h_e) trivial h))⟩⟩⟩)⟩)))))⟩⟩))⟩⟩))⟩⟩⟩) fun h=>(h trivial))
 ·rw[vc111]
  exact(aR (t:=aC) (fun m hm=>⟨trivial,hm⟩) _ rfl trivial (aU h (fun v0 h hv0=>⟨(Int.natCast_nonneg 0),(oG h fun _ h=>h)⟩) (fun _ h=>h.elim)))
def c66:Con:=⟨[.dat TVS,.dat TPS],fun args hp K=>g2 (pD TVS) (pD TPS) (fun row e=>(Sm TVS row)/\(Sm TPS e)/\(M.bX row.length e)/\K (dB (M.holds row e)) []) args hp,.plain,false⟩
abbrev C66:Ctx:=cx [(111,c111),(112,c112)] 10 [] 0 false
def ann66:=an [[kp 3],[kp 16]] []
theorem vc66 (row:LV) (e:LPt) (K:KA):vcT C66 aA ann66 f66 [.data TVS row,.data TPS e] [] (.dat Ty.bool) K =
 ((Sm TVS row)/\(Sm TPS e)/\(M.bX row.length e)/\(LD (M.fF row e) fun r1=>(LD (M.valueOf Z1) fun r2=>K (dB (Ty.beq aa r1 r2)) []))):=by kernel_rfl
theorem con66_ok:bg P 66 c66:=bq C66 func66 (kC con111_ok (kC con112_ok kN)) fun args hp K h0=>by
 obtain⟨row,e,rfl,rfl,h_row,h_e,p0,hK⟩:=g2e h0
 have h:ok (F.rN row e) (fun r=>K (dB r) []):=az (F.vi row e h_row h_e p0) hK
 refine⟨rfl,ann66,aA,(.dat Ty.bool),(aG (by kernel_rfl)),?_⟩
 ·rw[vc66]
  exact⟨h_row,⟨h_e,⟨p0,(oL h fun _ _ h=>(oL h fun _ _ h=>h))⟩⟩⟩
def c106:Con:=⟨[.dat TVS,.dat (Ty.sl aE)],fun args hp K=>g2 (pD TVS) (pD (Ty.sl aE)) (fun row list=>(Sm TVS row)/\(Sm (Ty.sl aE) list)/\(M.sY row list)/\(LD (M.taken row list) fun r=>K (.data TVS r) [])) args hp,.plain,false⟩
abbrev C106:Ctx:=cx [(87,c87)] 24 [] 0 false
def ann106:=an [[kp 3],[kp 35],[kp 1825],[kp 3873],[kp 1953],[kp 1825],[kp 1825],[.freeze 23,kp 16]] [[kp 32]]
abbrev s106_0 (row:LV) (list:LI) (i0:Int) (v0:LV):St:=⟨[(0,.data TVS row),(5,.own 5 none),(8,.data (Ty.sl aE) list),(9,dI (list.length:Int)),(10,dI i0)],[(5,.arr false aa v0)]⟩
abbrev LP106_0 (row:LV) (list:LI) (m:Nat) (st_:St) (K:KX):Prop:=True/\bF (t:=aE) (s106_0 row list) list (F.kz row list) (fun v0:LV=>True) (br (fun v0:LV=>True->K (.exit 0) (⟨[(5,.own 5 none)],[(5,.arr false aa v0)]⟩:St)) (fun _=>False)) m st_
def L106 (row:LV) (list:LI):bE:=lp1 0 (LP106_0 row list)
theorem vc106 (row:LV) (list:LI) (K:KA):vcT C106 (L106 row list) ann106 f106 [.data TVS row,.data (Ty.sl aE) list] [] (.dat TVS) K =
 (∃m_,True/\bF (t:=aE) (s106_0 row list) list (F.kz row list) (fun v0:LV=>True) (br (fun v0:LV=>True->(Sm TVS v0)/\(LD v0 fun r1=>K (.data TVS (aj r1 (some (Z0,(r1.length:Int))))) [])) (fun _=>False)) m_ (s106_0 row list Z0 [])):=by kernel_rfl
theorem lvc106_0 (row:LV) (list:LI)  (i0:Int) (v0:LV) (m:Nat) (K:KX):lvT C106 (L106 row list) ann106 f106 0 0 (s106_0 row list i0 v0) m K =
 (cond (decide (i0<(list.length:Int))) ((0<=i0)/\(i0<(list.length:Int))/\(0<=(nI list i0))/\((nI list i0)<(row.length:Int))/\((v0.length+[(nV row (nI list i0))].length) * 32<=lim)/\(nxT (LP106_0 row list) m K (s106_0 row list (wrap64 (i0+Z1)) (v0++[(nV row (nI list i0))])))) (K (.exit 0) (⟨[(5,.own 5 none)],[(5,.arr false aa v0)]⟩:St))):=by kernel_rfl
theorem con106_ok:bg P 106 c106:=bq C106 func106 (kC con87_ok kN) fun args hp K h0=>by
 obtain⟨row,list,rfl,rfl,h_row,h_list,p0,hK⟩:=g2e h0
 have h:ok (F.tC row list) (fun r=>K (.data TVS r) []):=az (F.Bt row list h_row h_list p0) (hK _ rfl)
 refine⟨rfl,ann106,(L106 row list),(.dat TVS),(bA (i0:=0) (by kernel_rfl) ?_),?_⟩
 ·rintro _ _ K ⟨hc0,i0,v0,rfl,hl0,rfl,hv0,h⟩
  exact cast (lvc106_0 _ _ _ _ _ _).symm (bf (t:=aE) hl0 h (fun ht0 h=>⟨hl0,⟨ht0,(oG h fun _ h=>(oG h fun _ h=>(oG h fun _ h=>(aQ (t:=aE) (fun _ hm=>⟨hc0,hm⟩) _ rfl hl0 ht0 (aZ h_list) trivial h))))⟩⟩) fun h=>(h trivial))
 ·rw[vc106]
  exact(aR (t:=aE) (fun m hm=>⟨trivial,hm⟩) _ rfl trivial (aU h (fun v0 h hv0=>(oG h fun _ h=>(oL h fun _ _ h=>h))) (fun _ h=>h.elim)))
def c63:Con:=⟨[.dat ah,.dat TTb,.lent (Ty.sl TVS)],fun args hp K=>g3 (pD ah) (pD TTb) (pB (Ty.sl TVS)) (fun s tables ahead=>(Sm ah s)/\(Sm TTb tables)/\(Sm (Ty.sl (Ty.sl TVS)) ahead)/\(M.kA tables ahead s)/\(LD (M.bP tables ahead s) fun r=>K (.data (Ty.sl TVS) r) [])) args hp,.plain,false⟩
abbrev C63:Ctx:=cx [(22,c22),(43,c43),(62,c62),(66,c66),(106,c106)] 126 [] 0 false
def ann63:=an [[.fixRow 3 ah,kp 14],[kp 142],[kp 262286],[kp 786574],[kp 64],[kp 134480012],[kp 60129542280],[kp 128849019016],[kp 60129542792],[kp 4458176053896],[kp 60129542280],[kp 60129542280],[kp 281474976972940],[kp 126100789566374024],[kp 270215977642229896],[kp 126100789566376072],[kp 126100789566374024],[kp 126100789566374024],[.keep [2,3,7,18,68]],[kp 132226261520350065983628],[kp 283341988972178712821900],[kp 132226261520350065991820],[kp 135531918058358817633083532],[kp 290274422969031351995474060],[kp 135531918058358817633116300],[kp 135531918058358817633149068],[kp 79363694432322696411177099404],[kp 135531918058358817633083532],[kp 135531918058358817633083532],[kp 132226261520350065983628],[.keep [2,3,7,18,103]],[kp 64],[.keep [2,3,7,117]],[.weak 124,.freeze 124,kp 64],[kp 64]] [[],[kp 128],[],[kp 128],[],[kp 128],[],[kp 132226261520350065983628]]
abbrev s63_1 (s:ah.D) (tables:LTb) (ahead:(List (List LV))) (i1:Int) (v1:(List LV)):St:=⟨[(3,.adr ah s),(7,.own 7 none),(33,.data (Ty.sl TVS) (nth (t:=(Ty.sl TVS)) ahead s.2.1)),(34,dI ((nth (t:=(Ty.sl TVS)) ahead s.2.1).length:Int)),(35,dI i1)],[(7,.arr false TVS v1)]⟩
abbrev LP63_1 (s:ah.D) (tables:LTb) (ahead:(List (List LV))) (m:Nat) (st_:St) (K:KX):Prop:=True/\bF (t:=TVS) (s63_1 s tables ahead) (nth (t:=(Ty.sl TVS)) ahead s.2.1) (F.gQ s tables ahead) (fun v1:(List LV)=>True) (br (fun v1:(List LV)=>True->K (.exit 1) (⟨[(7,.own 7 none)],[(7,.arr false TVS v1)]⟩:St)) (fun _=>False)) m st_
abbrev s63_3 (s:ah.D) (tables:LTb) (ahead:(List (List LV))) (i3:Int) (v3:(List LV)):St:=⟨[(3,.adr ah s),(7,.own 7 none),(54,.data (Ty.sl TVS) (nth (t:=(Ty.sl TVS)) ahead s.2.1)),(55,dI ((nth (t:=(Ty.sl TVS)) ahead s.2.1).length:Int)),(56,dI i3)],[(7,.arr false TVS v3)]⟩
abbrev LP63_3 (s:ah.D) (tables:LTb) (ahead:(List (List LV))) (m:Nat) (st_:St) (K:KX):Prop:=True/\bF (t:=TVS) (s63_3 s tables ahead) (nth (t:=(Ty.sl TVS)) ahead s.2.1) (F.gH s tables ahead) (fun v3:(List LV)=>True) (br (fun v3:(List LV)=>True->K (.exit 3) (⟨[(7,.own 7 none)],[(7,.arr false TVS v3)]⟩:St)) (fun _=>False)) m st_
abbrev s63_5 (s:ah.D) (tables:LTb) (ahead:(List (List LV))) (i5:Int) (v5:(List LV)):St:=⟨[(2,.brw (Ty.sl TVS) ahead),(3,.adr ah s),(7,.own 7 none),(74,.data (Ty.sl TVS) (nth (t:=(Ty.sl TVS)) ahead s.2.1)),(75,dI ((nth (t:=(Ty.sl TVS)) ahead s.2.1).length:Int)),(76,dI i5)],[(7,.arr false TVS v5)]⟩
abbrev LP63_5 (s:ah.D) (tables:LTb) (ahead:(List (List LV))) (m:Nat) (st_:St) (K:KX):Prop:=True/\cI (s63_5 s tables ahead) Z0 ((nth (t:=(Ty.sl TVS)) ahead s.2.1).length:Int) (F.gL s tables ahead) (fun v5:(List LV)=>True) (br (fun v5:(List LV)=>True->K (.exit 5) (⟨[(7,.own 7 none)],[(7,.arr false TVS v5)]⟩:St)) (fun _=>False)) m st_
abbrev s63_7 (s:ah.D) (tables:LTb) (ahead:(List (List LV))) (c7_0:LV) (c7_1:Int) (i7:Int) (v7:(List LV)):St:=⟨[(2,.brw (Ty.sl TVS) ahead),(3,.adr ah s),(7,.own 7 none),(13,.data TVS c7_0),(74,.data (Ty.sl TVS) (nth (t:=(Ty.sl TVS)) ahead s.2.1)),(75,dI ((nth (t:=(Ty.sl TVS)) ahead s.2.1).length:Int)),(76,dI c7_1),(84,.data (Ty.sl TVS) (nth (t:=(Ty.sl TVS)) ahead s.2.2.1)),(85,dI ((nth (t:=(Ty.sl TVS)) ahead s.2.2.1).length:Int)),(86,dI i7)],[(7,.arr false TVS v7)]⟩
abbrev LP63_7 (s:ah.D) (tables:LTb) (ahead:(List (List LV))) (m:Nat) (st_:St) (K:KX):Prop:=∃c7_0:LV,∃c7_1:Int,(Sm TVS c7_0/\True)/\bF (t:=TVS) (s63_7 s tables ahead c7_0 c7_1) (nth (t:=(Ty.sl TVS)) ahead s.2.2.1) (F.gG s tables ahead c7_0 c7_1) (fun v7:(List LV)=>True) (br (fun v7:(List LV)=>True->K (.exit 7) (⟨[(2,.brw (Ty.sl TVS) ahead),(3,.adr ah s),(7,.own 7 none),(74,.data (Ty.sl TVS) (nth (t:=(Ty.sl TVS)) ahead s.2.1)),(75,dI ((nth (t:=(Ty.sl TVS)) ahead s.2.1).length:Int)),(76,dI c7_1)],[(7,.arr false TVS v7)]⟩:St)) (fun _=>False)) m st_
def L63 (s:ah.D) (tables:LTb) (ahead:(List (List LV))):bE:=fun id m st_ K=>match id with
 | 1=>LP63_1 s tables ahead m st_ K
 | 3=>LP63_3 s tables ahead m st_ K
 | 5=>LP63_5 s tables ahead m st_ K
 | 7=>LP63_7 s tables ahead m st_ K
 | _=>False
theorem vc63 (s:ah.D) (tables:LTb) (ahead:(List (List LV))) (K:KA):vcT C63 (L63 s tables ahead) ann63 f63 [.data ah s,.data TTb tables,.brw (Ty.sl TVS) ahead] [] (.dat (Ty.sl TVS)) K =
 (cond (decide (s.1=Z1)) ((0<=s.2.2.2.1)/\(s.2.2.2.1<(tables.length:Int))/\K (.data (Ty.sl TVS) (nT tables s.2.2.2.1).2.1) []) (cond (decide (s.1=Z2)) ((0<=s.2.1)/\(s.2.1<(ahead.length:Int))/\(∃m_,True/\bF (t:=TVS) (s63_1 s tables ahead) (nth (t:=(Ty.sl TVS)) ahead s.2.1) (F.gQ s tables ahead) (fun v1:(List LV)=>True) (br (fun v1:(List LV)=>True->K (.data (Ty.sl TVS) v1) []) (fun _=>False)) m_ (s63_1 s tables ahead Z0 []))) (cond (decide (s.1=Z3)) ((0<=s.2.1)/\(s.2.1<(ahead.length:Int))/\(∃m_,True/\bF (t:=TVS) (s63_3 s tables ahead) (nth (t:=(Ty.sl TVS)) ahead s.2.1) (F.gH s tables ahead) (fun v3:(List LV)=>True) (br (fun v3:(List LV)=>True->K (.data (Ty.sl TVS) v3) []) (fun _=>False)) m_ (s63_3 s tables ahead Z0 []))) (cond (decide (s.1=Z4)) ((0<=s.2.1)/\(s.2.1<(ahead.length:Int))/\(∃m_,True/\cI (s63_5 s tables ahead) Z0 ((nth (t:=(Ty.sl TVS)) ahead s.2.1).length:Int) (F.gL s tables ahead) (fun v5:(List LV)=>True) (br (fun v5:(List LV)=>True->K (.data (Ty.sl TVS) v5) []) (fun _=>False)) m_ (s63_5 s tables ahead Z0 []))) (cond (decide (s.1=Z5)) ((0<=s.2.1)/\(s.2.1<(ahead.length:Int))/\(0<=s.2.2.1)/\(s.2.2.1<(ahead.length:Int))/\(Sm (Ty.sl (Ty.sl TVS)) [(nth (t:=(Ty.sl TVS)) ahead s.2.1),(nth (t:=(Ty.sl TVS)) ahead s.2.2.1)])/\(LD (List.flatten [(nth (t:=(Ty.sl TVS)) ahead s.2.1),(nth (t:=(Ty.sl TVS)) ahead s.2.2.1)]) fun r1=>K (.data (Ty.sl TVS) r1) [])) (cond (decide (s.1=Z6)) ((0<=s.2.1)/\(s.2.1<(ahead.length:Int))/\(Sm (Ty.sl TVS) (nth (t:=(Ty.sl TVS)) ahead s.2.1))/\(LD (M.eO (nth (t:=(Ty.sl TVS)) ahead s.2.1)) fun r2=>K (.data (Ty.sl TVS) (aj r2 (some (Z0,(r2.length:Int))))) [])) (K (.data (Ty.sl TVS) []) []))))))):=by kernel_rfl
theorem lvc63_0 (s:ah.D) (tables:LTb) (ahead:(List (List LV)))  (i1:Int) (v1:(List LV)) (m:Nat) (K:KX):lvT C63 (L63 s tables ahead) ann63 f63 0 1 (s63_1 s tables ahead i1 v1) m K =
 (cond (decide (i1<((nth (t:=(Ty.sl TVS)) ahead s.2.1).length:Int))) ((0<=i1)/\(i1<((nth (t:=(Ty.sl TVS)) ahead s.2.1).length:Int))/\(Sm TVS (nth (t:=TVS) (nth (t:=(Ty.sl TVS)) ahead s.2.1) i1))/\(Sm TPS s.2.2.2.2.1)/\(M.bX (nth (t:=TVS) (nth (t:=(Ty.sl TVS)) ahead s.2.1) i1).length s.2.2.2.2.1)/\cond (M.holds (nth (t:=TVS) (nth (t:=(Ty.sl TVS)) ahead s.2.1) i1) s.2.2.2.2.1) (((v1.length+[(nth (t:=TVS) (nth (t:=(Ty.sl TVS)) ahead s.2.1) i1)].length) * 24<=lim)/\(nxT (LP63_1 s tables ahead) m K (s63_1 s tables ahead (wrap64 (i1+Z1)) (v1++[(nth (t:=TVS) (nth (t:=(Ty.sl TVS)) ahead s.2.1) i1)])))) (nxT (LP63_1 s tables ahead) m K (s63_1 s tables ahead (wrap64 (i1+Z1)) v1))) (K (.exit 1) (⟨[(7,.own 7 none)],[(7,.arr false TVS v1)]⟩:St))):=by kernel_rfl
theorem lvc63_1 (s:ah.D) (tables:LTb) (ahead:(List (List LV)))  (i3:Int) (v3:(List LV)) (m:Nat) (K:KX):lvT C63 (L63 s tables ahead) ann63 f63 1 3 (s63_3 s tables ahead i3 v3) m K =
 (cond (decide (i3<((nth (t:=(Ty.sl TVS)) ahead s.2.1).length:Int))) ((0<=i3)/\(i3<((nth (t:=(Ty.sl TVS)) ahead s.2.1).length:Int))/\(Sm TVS (nth (t:=TVS) (nth (t:=(Ty.sl TVS)) ahead s.2.1) i3))/\(Sm (Ty.sl aE) s.2.2.2.2.2.1)/\(M.sY (nth (t:=TVS) (nth (t:=(Ty.sl TVS)) ahead s.2.1) i3) s.2.2.2.2.2.1)/\(LD (M.taken (nth (t:=TVS) (nth (t:=(Ty.sl TVS)) ahead s.2.1) i3) s.2.2.2.2.2.1) fun r3=>((v3.length+[r3].length) * 24<=lim)/\(nxT (LP63_3 s tables ahead) m K (s63_3 s tables ahead (wrap64 (i3+Z1)) (v3++[r3]))))) (K (.exit 3) (⟨[(7,.own 7 none)],[(7,.arr false TVS v3)]⟩:St))):=by kernel_rfl
theorem lvc63_2 (s:ah.D) (tables:LTb) (ahead:(List (List LV)))  (i5:Int) (v5:(List LV)) (m:Nat) (K:KX):lvT C63 (L63 s tables ahead) ann63 f63 2 5 (s63_5 s tables ahead i5 v5) m K =
 (cond (decide (i5<((nth (t:=(Ty.sl TVS)) ahead s.2.1).length:Int))) ((0<=i5)/\(i5<((nth (t:=(Ty.sl TVS)) ahead s.2.1).length:Int))/\(0<=s.2.2.1)/\(s.2.2.1<(ahead.length:Int))/\(∃m_,∃c7_0:LV,∃c7_1:Int,(Sm TVS c7_0/\True)/\bF (t:=TVS) (s63_7 s tables ahead c7_0 c7_1) (nth (t:=(Ty.sl TVS)) ahead s.2.2.1) (F.gG s tables ahead c7_0 c7_1) (fun v7:(List LV)=>True) (br (fun v7:(List LV)=>True->(nxT (LP63_5 s tables ahead) m K (s63_5 s tables ahead (wrap64 (c7_1+Z1)) v7))) (fun _=>False)) m_ (s63_7 s tables ahead (nth (t:=TVS) (nth (t:=(Ty.sl TVS)) ahead s.2.1) i5) i5 Z0 v5))) (K (.exit 5) (⟨[(7,.own 7 none)],[(7,.arr false TVS v5)]⟩:St))):=by kernel_rfl
theorem lvc63_3 (s:ah.D) (tables:LTb) (ahead:(List (List LV))) (c7_0:LV) (c7_1:Int) (i7:Int) (v7:(List LV)) (m:Nat) (K:KX):lvT C63 (L63 s tables ahead) ann63 f63 3 7 (s63_7 s tables ahead c7_0 c7_1 i7 v7) m K =
 (cond (decide (i7<((nth (t:=(Ty.sl TVS)) ahead s.2.2.1).length:Int))) ((0<=i7)/\(i7<((nth (t:=(Ty.sl TVS)) ahead s.2.2.1).length:Int))/\(Sm TVS c7_0)/\(Sm TVS (nth (t:=TVS) (nth (t:=(Ty.sl TVS)) ahead s.2.2.1) i7))/\(c7_0.length+(nth (t:=TVS) (nth (t:=(Ty.sl TVS)) ahead s.2.2.1) i7).length<=1048576)/\(LD (c7_0++(nth (t:=TVS) (nth (t:=(Ty.sl TVS)) ahead s.2.2.1) i7)) fun r4=>(Sm TVS (aj r4 (some (Z0,(r4.length:Int)))))/\(Sm TPS s.2.2.2.2.1)/\(M.bX (aj r4 (some (Z0,(r4.length:Int)))).length s.2.2.2.2.1)/\cond (M.holds (aj r4 (some (Z0,(r4.length:Int)))) s.2.2.2.2.1) (((v7.length+[(aj r4 (some (Z0,(r4.length:Int))))].length) * 24<=lim)/\(nxT (LP63_7 s tables ahead) m K (s63_7 s tables ahead c7_0 c7_1 (wrap64 (i7+Z1)) (v7++[(aj r4 (some (Z0,(r4.length:Int))))])))) (nxT (LP63_7 s tables ahead) m K (s63_7 s tables ahead c7_0 c7_1 (wrap64 (i7+Z1)) v7)))) (K (.exit 7) (⟨[(2,.brw (Ty.sl TVS) ahead),(3,.adr ah s),(7,.own 7 none),(74,.data (Ty.sl TVS) (nth (t:=(Ty.sl TVS)) ahead s.2.1)),(75,dI ((nth (t:=(Ty.sl TVS)) ahead s.2.1).length:Int)),(76,dI c7_1)],[(7,.arr false TVS v7)]⟩:St))):=by kernel_rfl
theorem con63_ok:bg P 63 c63:=bq C63 func63 (kC con22_ok (kC con43_ok (kC con62_ok (kC con66_ok (kC con106_ok kN))))) fun args hp K h0=>by
 obtain⟨s,tables,ahead,rfl,rfl,h_s,h_tables,h_ahead,p0,hK⟩:=g3e h0
 have h:ok (F.mU s tables ahead) (fun r=>K (.data (Ty.sl TVS) r) []):=az (F.uN s tables ahead h_s h_tables h_ahead p0) (hK _ rfl)
 refine⟨rfl,ann63,(L63 s tables ahead),(.dat (Ty.sl TVS)),(Ga (i0:=1) (i1:=3) (i2:=5) (i3:=7) (by kernel_rfl) ?_ ?_ ?_ ?_),?_⟩
 ·rintro _ _ K ⟨hc1,i1,v1,rfl,hl1,rfl,hv1,h⟩
  exact cast (lvc63_0 _ _ _ _ _ _ _).symm (bf (t:=TVS) hl1 h (fun ht1 h=>⟨hl1,⟨ht1,⟨(aH (aH h_ahead s.2.1) i1),⟨h_s.2.2.2.2.1,(oG h fun _ h=>(oC h (fun _ h=>(oG h fun _ h=>(aQ (t:=TVS) (fun _ hm=>⟨hc1,hm⟩) _ rfl hl1 ht1 (aZ (aH h_ahead s.2.1)) trivial h))) fun _ h=>(aQ (t:=TVS) (fun _ hm=>⟨hc1,hm⟩) _ rfl hl1 ht1 (aZ (aH h_ahead s.2.1)) trivial h)))⟩⟩⟩⟩) fun h=>(h trivial))
 ·rintro _ _ K ⟨hc3,i3,v3,rfl,hl3,rfl,hv3,h⟩
  exact cast (lvc63_1 _ _ _ _ _ _ _).symm (bf (t:=TVS) hl3 h (fun ht3 h=>⟨hl3,⟨ht3,⟨(aH (aH h_ahead s.2.1) i3),⟨h_s.2.2.2.2.2.1,(oG h fun _ h=>(oL h fun _ _ h=>(oG h fun _ h=>(aQ (t:=TVS) (fun _ hm=>⟨hc3,hm⟩) _ rfl hl3 ht3 (aZ (aH h_ahead s.2.1)) trivial h))))⟩⟩⟩⟩) fun h=>(h trivial))
 ·rintro _ _ K ⟨hc5,i5,v5,rfl,hl5,rfl,hv5,h⟩
  exact cast (lvc63_2 _ _ _ _ _ _ _).symm (cj h (fun ht5 h=>⟨hl5,⟨ht5,(oG h fun _ h=>(oG h fun _ h=>(aR (t:=TVS) (fun m hm=>⟨(nth (t:=TVS) (nth (t:=(Ty.sl TVS)) ahead s.2.1) i5),i5,⟨(aH (aH h_ahead s.2.1) i5),trivial⟩,hm⟩) _ rfl trivial (aU h (fun v7 h hv7=>(aT (fun _ hm=>⟨hc5,hm⟩) _ rfl hl5 fS ht5 (aZ (aH h_ahead s.2.1)) trivial h)) (fun _ h=>h.elim)))))⟩⟩) fun h=>(h trivial))
 ·rintro _ _ K ⟨c7_0,c7_1,hc7,i7,v7,rfl,hl7,rfl,hv7,h⟩
  exact cast (lvc63_3 _ _ _ _ _ _ _ _ _).symm (bf (t:=TVS) hl7 h (fun ht7 h=>⟨hl7,⟨ht7,⟨hc7.1,⟨(aH (aH h_ahead s.2.2.1) i7),(oG h fun _ h=>(oL h fun _ _ h=>(oG h fun _ h=>⟨h_s.2.2.2.2.1,(oG h fun _ h=>(oC h (fun _ h=>(oG h fun _ h=>(aQ (t:=TVS) (fun _ hm=>⟨c7_0,c7_1,hc7,hm⟩) _ rfl hl7 ht7 (aZ (aH h_ahead s.2.2.1)) trivial h))) fun _ h=>(aQ (t:=TVS) (fun _ hm=>⟨c7_0,c7_1,hc7,hm⟩) _ rfl hl7 ht7 (aZ (aH h_ahead s.2.2.1)) trivial h)))⟩)))⟩⟩⟩⟩) fun h=>(h trivial))
 ·rw[vc63]
  exact(oC h (fun _ h=>(oG h fun _ h=>(oG h fun _ h=>h))) fun _ h=>(oC h (fun _ h=>(oG h fun _ h=>(oG h fun _ h=>(aR (t:=TVS) (fun m hm=>⟨trivial,hm⟩) _ rfl trivial (aU h (fun v1 h hv1=>h) (fun _ h=>h.elim)))))) fun _ h=>(oC h (fun _ h=>(oG h fun _ h=>(oG h fun _ h=>(aR (t:=TVS) (fun m hm=>⟨trivial,hm⟩) _ rfl trivial (aU h (fun v3 h hv3=>h) (fun _ h=>h.elim)))))) fun _ h=>(oC h (fun _ h=>(oG h fun _ h=>(oG h fun _ h=>(bN (fun m hm=>⟨trivial,hm⟩) Z0 _ rfl (Int.natCast_nonneg 0) trivial (aU h (fun v5 h hv5=>h) (fun _ h=>h.elim)))))) fun _ h=>(oC h (fun _ h=>(oG h fun _ h=>(oG h fun _ h=>(oG h fun _ h=>(oG h fun _ h=>(oG h fun _ h=>(oL h fun _ _ h=>h))))))) fun _ h=>(oC h (fun _ h=>(oG h fun _ h=>(oG h fun _ h=>⟨(aH h_ahead s.2.1),(oL h fun _ _ h=>h)⟩))) fun _ h=>h))))))
def c45:Con:=⟨[.dat TTb,.dat TSS],fun args hp K=>g2 (pD TTb) (pD TSS) (fun tables plan=>(Sm TTb tables)/\(Sm TSS plan)/\(M.bK tables plan=true)/\(LD (M.cO tables plan) fun r=>K (.clp 0 (r.length:Int)) [(0,.arr true TVS r)])) args hp,.bor,false⟩
abbrev C45:Ctx:=cx [(42,c42),(63,c63)] 29 [] 0 true
def ann45:=an [[kp 3],[.weak 5,kp 35],[kp 1825],[kp 3873],[.fixRow 7 ah,kp 1953],[kp 1825],[kp 1825],[kp 16]] [[kp 32]]
abbrev s45_0 (tables:LTb) (plan:LS) (i0:Int) (v0:(List (List LV))):St:=⟨[(0,.data TTb tables),(5,.own 5 none),(8,.data TSS plan),(9,dI (plan.length:Int)),(10,dI i0)],[(5,.arr false (Ty.sl TVS) v0)]⟩
abbrev LP45_0 (tables:LTb) (plan:LS) (m:Nat) (st_:St) (K:KX):Prop:=True/\bF (t:=ah) (s45_0 tables plan) plan (F.fG tables plan) (fun v0:(List (List LV))=>True) (br (fun v0:(List (List LV))=>True->K (.exit 0) (⟨[(5,.own 5 none)],[(5,.arr false (Ty.sl TVS) v0)]⟩:St)) (fun _=>False)) m st_
def L45 (tables:LTb) (plan:LS):bE:=lp1 0 (LP45_0 tables plan)
theorem vc45 (tables:LTb) (plan:LS) (K:KA):vcT C45 (L45 tables plan) ann45 f45 [.data TTb tables,.data TSS plan] [] .raw K =
 (∃m_,True/\bF (t:=ah) (s45_0 tables plan) plan (F.fG tables plan) (fun v0:(List (List LV))=>True) (br (fun v0:(List (List LV))=>True->(0<=wrap64 ((v0.length:Int)-Z1))/\(wrap64 ((v0.length:Int)-Z1)<(v0.length:Int))/\(Sm (Ty.sl TVS) (nth (t:=(Ty.sl TVS)) v0 (wrap64 ((v0.length:Int)-Z1))))/\(LD (nth (t:=(Ty.sl TVS)) v0 (wrap64 ((v0.length:Int)-Z1))) fun r1=>K (.clp 0 ((r1.take (r1.length:Int).toNat).length:Int)) [(0,.arr true TVS (r1.take (r1.length:Int).toNat))])) (fun _=>False)) m_ (s45_0 tables plan Z0 [])):=by kernel_rfl
theorem lvc45_0 (tables:LTb) (plan:LS)  (i0:Int) (v0:(List (List LV))) (m:Nat) (K:KX):lvT C45 (L45 tables plan) ann45 f45 0 0 (s45_0 tables plan i0 v0) m K =
 (cond (decide (i0<(plan.length:Int))) ((0<=i0)/\(i0<(plan.length:Int))/\(Sm ah (nS plan i0))/\(Sm TTb tables)/\(Sm (Ty.sl (Ty.sl TVS)) v0)/\(M.kA tables v0 (nS plan i0))/\(LD (M.bP tables v0 (nS plan i0)) fun r2=>((v0.length+[r2].length) * 24<=lim)/\(nxT (LP45_0 tables plan) m K (s45_0 tables plan (wrap64 (i0+Z1)) (v0++[r2]))))) (K (.exit 0) (⟨[(5,.own 5 none)],[(5,.arr false (Ty.sl TVS) v0)]⟩:St))):=by kernel_rfl
theorem con45_ok:bg P 45 c45:=bq C45 func45 (kC con42_ok (kC con63_ok kN)) fun args hp K h0=>by
 obtain⟨tables,plan,rfl,rfl,h_tables,h_plan,p0,hK⟩:=g2e h0
 have h:ok (F.nW tables plan) (fun r=>K (.clp 0 (r.length:Int)) [(0,.arr true TVS r)]):=az (F.vV tables plan h_tables h_plan p0) (hK _ rfl)
 refine⟨rfl,ann45,(L45 tables plan),.raw,(bA (i0:=0) (by kernel_rfl) ?_),?_⟩
 ·rintro _ _ K ⟨hc0,i0,v0,rfl,hl0,rfl,hv0,h⟩
  exact cast (lvc45_0 _ _ _ _ _ _).symm (bf (t:=ah) hl0 h (fun ht0 h=>⟨hl0,⟨ht0,⟨(aH h_plan i0),⟨h_tables,(oG h fun _ h=>(oG h fun _ h=>(oL h fun _ _ h=>(oG h fun _ h=>(aQ (t:=ah) (fun _ hm=>⟨hc0,hm⟩) _ rfl hl0 ht0 (aZ h_plan) trivial h)))))⟩⟩⟩⟩) fun h=>(h trivial))
 ·rw[vc45]
  exact(aR (t:=ah) (fun m hm=>⟨trivial,hm⟩) _ rfl trivial (aU h (fun v0 h hv0=>(oG h fun _ h=>(oG h fun _ h=>(oG h fun _ h=>(oL h fun _ _ h=>h))))) (fun _ h=>h.elim)))
def c14:Con:=⟨[.dat TTb,.dat TSS],fun args hp K=>g2 (pD TTb) (pD TSS) (fun tables plan=>(Sm TTb tables)/\(Sm TSS plan)/\(LD (M.cO tables plan) fun r=>K (.clp 0 (r.length:Int)) [(0,.arr true TVS r)])) args hp,.bor,false⟩
abbrev C14:Ctx:=cx [(10,c10),(45,c45)] 12 [] 0 true
def ann14:=an [[kp 3],[kp 259],[.clip 4,kp 16],[kp 16]] []
theorem vc14 (tables:LTb) (plan:LS) (K:KA):vcT C14 aA ann14 f14 [.data TTb tables,.data TSS plan] [] .raw K =
 ((Sm TTb tables)/\(Sm TSS plan)/\cond (!(M.bK tables plan)) (K (.clp 0 (([]:List TVS.D).length:Int)) [(0,.arr true TVS ([]:List TVS.D))]) ((Sm TTb tables)/\(Sm TSS plan)/\(M.bK tables plan=true)/\(LD (M.cO tables plan) fun r1=>K (.clp 0 ((r1.take (r1.length:Int).toNat).length:Int)) [(0,.arr true TVS (r1.take (r1.length:Int).toNat))]))):=by kernel_rfl
theorem con14_ok:bg P 14 c14:=bq C14 func14 (kC con10_ok (kC con45_ok kN)) fun args hp K h0=>by
 obtain⟨tables,plan,rfl,rfl,h_tables,h_plan,hK⟩:=g2e h0
 have h:ok (F.oD tables plan) (fun r=>K (.clp 0 (r.length:Int)) [(0,.arr true TVS r)]):=az (F.wX tables plan h_tables h_plan) (hK _ rfl)
 refine⟨rfl,ann14,aA,.raw,(aG (by kernel_rfl)),?_⟩
 ·rw[vc14]
  exact⟨h_tables,⟨h_plan,(oC h (fun _ h=>h) fun b_1 h=>⟨h_tables,⟨h_plan,⟨(bnf b_1),(oL h fun _ _ h=>h)⟩⟩⟩)⟩⟩
def c49:Con:=⟨[.dat TTb,.dat TGS],fun args hp K=>g2 (pD TTb) (pD TGS) (fun tables guards=>(Sm TTb tables)/\(Sm TGS guards)/\K (dB (M.bB tables guards)) []) args hp,.plain,false⟩
abbrev C49:Ctx:=cx [(60,c60),(64,c64),(78,c78)] 52 [] 0 false
def ann49:=an [[kp 3],[kp 515],[kp 16],[kp 7171],[kp 15363],[.fixRow 6 aB,kp 7267],[kp 1125899906849795],[kp 16],[kp 7171],[kp 16]] [[kp 0]]
abbrev s49_0 (tables:LTb) (guards:LG) (i0:Int) (v0:Unit):St:=⟨[(0,.data TTb tables),(1,.data TGS guards),(10,.data TGS guards),(11,dI (guards.length:Int)),(12,dI i0)],[]⟩
abbrev LP49_0 (tables:LTb) (guards:LG) (m:Nat) (st_:St) (K:KX):Prop:=True/\cI (s49_0 tables guards) Z0 (guards.length:Int) (F.iA tables guards) (fun v0:Unit=>True) (br (fun v0:Unit=>True->K (.exit 0) (⟨[],[]⟩:St)) (fun q0:Unit=>K .ret (⟨[(4,dB false)],[]⟩:St))) m st_
def L49 (tables:LTb) (guards:LG):bE:=lp1 0 (LP49_0 tables guards)
theorem vc49 (tables:LTb) (guards:LG) (K:KA):vcT C49 (L49 tables guards) ann49 f49 [.data TTb tables,.data TGS guards] [] (.dat Ty.bool) K =
 ((Sm TTb tables)/\cond (!(M.bT tables)) (K (dB false) []) (∃m_,True/\cI (s49_0 tables guards) Z0 (guards.length:Int) (F.iA tables guards) (fun v0:Unit=>True) (br (fun v0:Unit=>True->K (dB true) []) (fun q0:Unit=>K (dB false) [])) m_ (s49_0 tables guards Z0 ()))):=by kernel_rfl
abbrev S49l0_0 (tables:LTb) (guards:LG)  (i0:Int) (v0:Unit) (m:Nat) (K:KX):Prop:=(0<=(nG guards i0).1)/\((nG guards i0).1<(tables.length:Int))/\(Sm TCS (nT tables (nG guards i0).1).1)/\(Sm TPS (nG guards i0).2.1)/\cond (!decide ((M.bZ (nT tables (nG guards i0).1).1 (nG guards i0).2.1)=Z3)) (K .ret (⟨[(4,dB false)],[]⟩:St)) (nxT (LP49_0 tables guards) m K (s49_0 tables guards (wrap64 (i0+Z1)) ()))
theorem lvc49_0 (tables:LTb) (guards:LG)  (i0:Int) (v0:Unit) (m:Nat) (K:KX):lvT C49 (L49 tables guards) ann49 f49 0 0 (s49_0 tables guards i0 v0) m K =
 (cond (decide (i0<(guards.length:Int))) ((0<=i0)/\(i0<(guards.length:Int))/\cond ((!(M.inR (nG guards i0).1 Z0 (wrap64 ((tables.length:Int)-Z1))))==false) (cond ((decide (Z0<i0))==true) ((0<=wrap64 (i0-Z1))/\(wrap64 (i0-Z1)<(guards.length:Int))/\cond ((decide ((nG guards i0).1<=(nG guards (wrap64 (i0-Z1))).1))==false) (S49l0_0  tables guards i0 v0 m K) (K .ret (⟨[(4,dB false)],[]⟩:St))) (S49l0_0  tables guards i0 v0 m K)) (K .ret (⟨[(4,dB false)],[]⟩:St))) (K (.exit 0) (⟨[],[]⟩:St))):=by kernel_rfl
theorem con49_ok:bg P 49 c49:=bq C49 func49 (kC con60_ok (kC con64_ok (kC con78_ok kN))) fun args hp K h0=>by
 obtain⟨tables,guards,rfl,rfl,h_tables,h_guards,hK⟩:=g2e h0
 have h:ok (F.oJ tables guards) (fun r=>K (dB r) []):=az (F.xh tables guards h_tables h_guards) hK
 refine⟨rfl,ann49,(L49 tables guards),(.dat Ty.bool),(bA (i0:=0) (by kernel_rfl) ?_),?_⟩
 ·rintro _ _ K ⟨hc0,i0,v0,rfl,hl0,rfl,hv0,h⟩
  exact cast (lvc49_0 _ _ _ _ _ _).symm (cj h (fun ht0 h=>⟨hl0,⟨ht0,(oC h (fun b_22 h=>(oC h (fun _ h=>(oG h fun _ h=>(oG h fun _ h=>(oC h (fun _ h=>⟨(eC (bnf (bgt b_22))),⟨(jT (bnf (bgt b_22))),⟨(aH h_tables (nG guards i0).1).1,⟨(aH h_guards i0).2.1,(oC h (fun _ h=>h) fun _ h=>(aT (fun _ hm=>⟨hc0,hm⟩) _ rfl hl0 fS ht0 (aZ h_guards) trivial h))⟩⟩⟩⟩) fun _ h=>h)))) fun _ h=>⟨(eC (bnf (bgt b_22))),⟨(jT (bnf (bgt b_22))),⟨(aH h_tables (nG guards i0).1).1,⟨(aH h_guards i0).2.1,(oC h (fun _ h=>h) fun _ h=>(aT (fun _ hm=>⟨hc0,hm⟩) _ rfl hl0 fS ht0 (aZ h_guards) trivial h))⟩⟩⟩⟩)) fun _ h=>h)⟩⟩) fun h=>(h trivial))
 ·rw[vc49]
  exact⟨h_tables,(oC h (fun _ h=>h) fun _ h=>(bN (fun m hm=>⟨trivial,hm⟩) Z0 _ rfl (Int.natCast_nonneg 0) trivial (aU h (fun v0 h hv0=>h) (fun q0 h=>h))))⟩
abbrev C51:Ctx:=cx [] 8 [] 800000 true
def T51:Inl:=sO C51 (fun _=>[]) (dr f51) f51.results.toList
theorem inlOk51:uj P 51 T51:=yz C51 func51 kN
abbrev C181:Ctx:=cx [] 9 [] 400000 true
def T181:Inl:=sO C181 (fun _=>[]) (dr f181) f181.results.toList
theorem inlOk181:uj P 181 T181:=yz C181 func181 kN
def c145:Con:=⟨[.dat TPS],fun args hp K=>g1 (pD TPS) (fun xs=>(Sm TPS xs)/\(LD xs fun r=>K (.clp 0 (r.length:Int)) [(0,.arr false aC r)])) args hp,.bor,false⟩
abbrev C145:Ctx:=cx [] 9 [(181,T181)] 0 true
def ann145:=an [[kp 1],[kp 33],[.clip 2,kp 4],[kp 4]] []
theorem vc145 (xs:LPt) (K:KA):vcT C145 aA ann145 f145 [.data TPS xs] [] .raw K =
 (cond (decide ((xs.length:Int)=Z0)) (K (.clp 0 (([]:List aC.D).length:Int)) [(0,.arr false aC ([]:List aC.D))]) ((xs.length * 48<=lim)/\(0<=Z0)/\(Z0<=(xs.length:Int))/\((xs.length:Int)<=(xs.length:Int))/\((xs.length:Int)=(xs.length:Int))/\(Z0=0)/\K (.clp 0 ((xs.take (xs.length:Int).toNat).length:Int)) [(0,.arr false aC (xs.take (xs.length:Int).toNat))])):=by kernel_rfl
theorem con145_ok:bg P 145 c145:=bq C145 func145 (kI inlOk181 kN) fun args hp K h0=>by
 obtain⟨xs,rfl,rfl,h_xs,hK⟩:=g1e h0
 have h:ok (F.xO xs) (fun r=>K (.clp 0 (r.length:Int)) [(0,.arr false aC r)]):=az (F.zZ xs h_xs) (hK _ rfl)
 refine⟨rfl,ann145,aA,.raw,(aG (by kernel_rfl)),?_⟩
 ·rw[vc145]
  exact(oC h (fun _ h=>h) fun _ h=>⟨(Al h_xs rfl),⟨(Int.natCast_nonneg 0),⟨(Int.natCast_nonneg _),⟨(Int.le_refl _),⟨rfl,⟨rfl,h⟩⟩⟩⟩⟩⟩)
abbrev C182:Ctx:=cx [] 9 [] 400000 true
def T182:Inl:=sO C182 (fun _=>[]) (dr f182) f182.results.toList
theorem inlOk182:uj P 182 T182:=yz C182 func182 kN
def c146:Con:=⟨[.dat (Ty.sl aE)],fun args hp K=>g1 (pD (Ty.sl aE)) (fun xs=>(Sm (Ty.sl aE) xs)/\(LD xs fun r=>K (.clp 0 (r.length:Int)) [(0,.arr false aE r)])) args hp,.bor,false⟩
abbrev C146:Ctx:=cx [] 9 [(182,T182)] 0 true
def ann146:=an [[kp 1],[kp 33],[.clip 2,kp 4],[kp 4]] []
theorem vc146 (xs:LI) (K:KA):vcT C146 aA ann146 f146 [.data (Ty.sl aE) xs] [] .raw K =
 (cond (decide ((xs.length:Int)=Z0)) (K (.clp 0 (([]:List aE.D).length:Int)) [(0,.arr false aE ([]:List aE.D))]) ((xs.length * 8<=lim)/\(0<=Z0)/\(Z0<=(xs.length:Int))/\((xs.length:Int)<=(xs.length:Int))/\((xs.length:Int)=(xs.length:Int))/\(Z0=0)/\K (.clp 0 ((xs.take (xs.length:Int).toNat).length:Int)) [(0,.arr false aE (xs.take (xs.length:Int).toNat))])):=by kernel_rfl
theorem con146_ok:bg P 146 c146:=bq C146 func146 (kI inlOk182 kN) fun args hp K h0=>by
 obtain⟨xs,rfl,rfl,h_xs,hK⟩:=g1e h0
 have h:ok (F.uR xs) (fun r=>K (.clp 0 (r.length:Int)) [(0,.arr false aE r)]):=az (F.yh xs h_xs) (hK _ rfl)
 refine⟨rfl,ann146,aA,.raw,(aG (by kernel_rfl)),?_⟩
 ·rw[vc146]
  exact(oC h (fun _ h=>h) fun _ h=>⟨(Al h_xs rfl),⟨(Int.natCast_nonneg 0),⟨(Int.natCast_nonneg _),⟨(Int.le_refl _),⟨rfl,⟨rfl,h⟩⟩⟩⟩⟩⟩)
abbrev C95:Ctx:=cx [(145,c145),(146,c146)] 12 [] 200000 true
def T95:Inl:=sO C95 (fun _=>[]) (dr f95) f95.results.toList
theorem inlOk95:uj P 95 T95:=yz C95 func95 (kC con145_ok (kC con146_ok kN))
def c96:Con:=⟨[.dat aE],fun args hp K=>g1 (pD aE) (fun kind=>K (dB (M.two kind)) []) args hp,.plain,false⟩
abbrev C96:Ctx:=cx [] 9 [] 0 false
def ann96:=an [[kp 1],[kp 4]] []
theorem vc96 (kind:Int) (K:KA):vcT C96 aA ann96 f96 [dI kind] [] (.dat Ty.bool) K =
 (cond ((decide (kind=Z4))==false) (K (dB (decide (kind=Z5))) []) (K (dB true) [])):=by kernel_rfl
theorem con96_ok:bg P 96 c96:=bq C96 func96 kN fun args hp K h0=>by
 obtain⟨kind,rfl,rfl,hK⟩:=g1e h0
 have h:ok (F.rT kind) (fun r=>K (dB r) []):=az (F.AB kind) hK
 refine⟨rfl,ann96,aA,(.dat Ty.bool),(aG (by kernel_rfl)),?_⟩
 ·rw[vc96]
  exact(oC h (fun _ h=>h) fun _ h=>h)
abbrev C50:Ctx:=cx [(96,c96)] 25 [(51,T51),(95,T95)] 600000 true
def T50:Inl:=sO C50 (fun _=>[]) (dr f50) f50.results.toList
theorem inlOk50:uj P 50 T50:=yz C50 func50 (kC con96_ok (kI inlOk51 (kI inlOk95 kN)))
def c52:Con:=⟨[.dat TGS,.dat aE],fun args hp K=>g2 (pD TGS) (pD aE) (fun guards n=>(Sm TGS guards)/\(LD (M.guardOf guards n) fun r=>K (.tup [.data TPS r.1,dB r.2]) [])) args hp,.plain,false⟩
abbrev C52:Ctx:=cx [] 21 [] 0 false
def ann52:=an [[kp 3],[kp 1794],[kp 3842],[.fixRow 7 aB,kp 1922],[kp 132994],[kp 48],[kp 1794],[kp 48]] [[kp 0]]
abbrev s52_0 (guards:LG) (n:Int) (i0:Int) (v0:Unit):St:=⟨[(1,dI n),(8,.data TGS guards),(9,dI (guards.length:Int)),(10,dI i0)],[]⟩
abbrev LP52_0 (guards:LG) (n:Int) (m:Nat) (st_:St) (K:KX):Prop:=True/\bF (t:=aB) (s52_0 guards n) guards (F.gj guards n) (fun v0:Unit=>True) (br (fun v0:Unit=>True->K (.exit 0) (⟨[],[]⟩:St)) (fun q0:LPt=>K .ret (⟨[(4,.data TPS q0),(5,dB true)],[]⟩:St))) m st_
def L52 (guards:LG) (n:Int):bE:=lp1 0 (LP52_0 guards n)
theorem vc52 (guards:LG) (n:Int) (K:KA):vcT C52 (L52 guards n) ann52 f52 [.data TGS guards,dI n] [] (.tup [TPS,Ty.bool]) K =
 (∃m_,True/\bF (t:=aB) (s52_0 guards n) guards (F.gj guards n) (fun v0:Unit=>True) (br (fun v0:Unit=>True->K (.tup [.data TPS [],dB false]) []) (fun q0:LPt=>K (.tup [.data TPS q0,dB true]) [])) m_ (s52_0 guards n Z0 ())):=by kernel_rfl
theorem lvc52_0 (guards:LG) (n:Int)  (i0:Int) (v0:Unit) (m:Nat) (K:KX):lvT C52 (L52 guards n) ann52 f52 0 0 (s52_0 guards n i0 v0) m K =
 (cond (decide (i0<(guards.length:Int))) ((0<=i0)/\(i0<(guards.length:Int))/\cond (decide ((nG guards i0).1=n)) (K .ret (⟨[(4,.data TPS (nG guards i0).2.1),(5,dB true)],[]⟩:St)) (nxT (LP52_0 guards n) m K (s52_0 guards n (wrap64 (i0+Z1)) ()))) (K (.exit 0) (⟨[],[]⟩:St))):=by kernel_rfl
theorem con52_ok:bg P 52 c52:=bq C52 func52 kN fun args hp K h0=>by
 obtain⟨guards,n,rfl,rfl,h_guards,hK⟩:=g2e h0
 have h:ok (F.qz guards n) (fun r=>K (.tup [.data TPS r.1,dB r.2]) []):=az (F.yw guards n h_guards) (hK _ rfl)
 refine⟨rfl,ann52,(L52 guards n),(.tup [TPS,Ty.bool]),(bA (i0:=0) (by kernel_rfl) ?_),?_⟩
 ·rintro _ _ K ⟨hc0,i0,v0,rfl,hl0,rfl,hv0,h⟩
  exact cast (lvc52_0 _ _ _ _ _ _).symm (bf (t:=aB) hl0 h (fun ht0 h=>⟨hl0,⟨ht0,(oC h (fun _ h=>h) fun _ h=>(aQ (t:=aB) (fun _ hm=>⟨hc0,hm⟩) _ rfl hl0 ht0 (aZ h_guards) trivial h))⟩⟩) fun h=>(h trivial))
 ·rw[vc52]
  exact(aR (t:=aB) (fun m hm=>⟨trivial,hm⟩) _ rfl trivial (aU h (fun v0 h hv0=>h) (fun q0 h=>h)))
abbrev C97:Ctx:=cx [] 9 [] 500000 true
def T97:Inl:=sO C97 (fun _=>[]) (dr f97) f97.results.toList
theorem inlOk97:uj P 97 T97:=yz C97 func97 kN
def c53:Con:=⟨[.dat TSS],fun args hp K=>g1 (pD TSS) (fun plan=>(Sm TSS plan)/\(LD plan fun r=>K (.own 0 none) [(0,.arr true ah r)])) args hp,.bor,false⟩
abbrev C53:Ctx:=cx [] 20 [(95,T95),(97,T97)] 0 true
def ann53:=an [[kp 1],[kp 9],[kp 456],[kp 968],[.fixRow 5 ah,kp 488],[kp 456],[kp 456],[kp 4]] [[kp 8]]
abbrev s53_0 (plan:LS) (i0:Int) (v0:LS):St:=⟨[(3,.own 3 none),(6,.data TSS plan),(7,dI (plan.length:Int)),(8,dI i0)],[(3,.arr true ah v0)]⟩
abbrev LP53_0 (plan:LS) (m:Nat) (st_:St) (K:KX):Prop:=True/\bF (t:=ah) (s53_0 plan) plan (F.iJ plan) (fun v0:LS=>True) (br (fun v0:LS=>True->K (.exit 0) (⟨[(3,.own 3 none)],[(3,.arr true ah v0)]⟩:St)) (fun _=>False)) m st_
def L53 (plan:LS):bE:=lp1 0 (LP53_0 plan)
theorem vc53 (plan:LS) (K:KA):vcT C53 (L53 plan) ann53 f53 [.data TSS plan] [] .raw K =
 (∃m_,True/\bF (t:=ah) (s53_0 plan) plan (F.iJ plan) (fun v0:LS=>True) (br (fun v0:LS=>True->(0<=Z0)/\(Z0<=(v0.length:Int))/\((v0.length:Int)<=(v0.length:Int))/\((v0.length:Int)=(v0.length:Int))/\(Z0=0)/\K (.own 0 none) [(0,.arr true ah (v0.take (v0.length:Int).toNat))]) (fun _=>False)) m_ (s53_0 plan Z0 [])):=by kernel_rfl
theorem lvc53_0 (plan:LS)  (i0:Int) (v0:LS) (m:Nat) (K:KX):lvT C53 (L53 plan) ann53 f53 0 0 (s53_0 plan i0 v0) m K =
 (cond (decide (i0<(plan.length:Int))) ((0<=i0)/\(i0<(plan.length:Int))/\(Sm TPS (nS plan i0).2.2.2.2.1)/\(LD (nS plan i0).2.2.2.2.1 fun r1=>(Sm (Ty.sl aE) (nS plan i0).2.2.2.2.2.1)/\(LD (nS plan i0).2.2.2.2.2.1 fun r2=>((v0.length+[((nS plan i0).1,((nS plan i0).2.1,((nS plan i0).2.2.1,((nS plan i0).2.2.2.1,((aj r1 (some (Z0,(r1.length:Int)))),((aj r2 (some (Z0,(r2.length:Int)))),()))))))].length) * 80<=lim)/\(nxT (LP53_0 plan) m K (s53_0 plan (wrap64 (i0+Z1)) (v0++[((nS plan i0).1,((nS plan i0).2.1,((nS plan i0).2.2.1,((nS plan i0).2.2.2.1,((aj r1 (some (Z0,(r1.length:Int)))),((aj r2 (some (Z0,(r2.length:Int)))),()))))))])))))) (K (.exit 0) (⟨[(3,.own 3 none)],[(3,.arr true ah v0)]⟩:St))):=by kernel_rfl
theorem con53_ok:bg P 53 c53:=bq C53 func53 (kI inlOk95 (kI inlOk97 kN)) fun args hp K h0=>by
 obtain⟨plan,rfl,rfl,h_plan,hK⟩:=g1e h0
 have h:ok (F.oh plan) (fun r=>K (.own 0 none) [(0,.arr true ah r)]):=az (F.vW plan h_plan) (hK _ rfl)
 refine⟨rfl,ann53,(L53 plan),.raw,(bA (i0:=0) (by kernel_rfl) ?_),?_⟩
 ·rintro _ _ K ⟨hc0,i0,v0,rfl,hl0,rfl,hv0,h⟩
  exact cast (lvc53_0 _ _ _ _ _).symm (bf (t:=ah) hl0 h (fun ht0 h=>⟨hl0,⟨ht0,⟨(aH h_plan i0).2.2.2.2.1,(oL h fun _ _ h=>⟨(aH h_plan i0).2.2.2.2.2.1,(oL h fun _ _ h=>(oG h fun _ h=>(aQ (t:=ah) (fun _ hm=>⟨hc0,hm⟩) _ rfl hl0 ht0 (aZ h_plan) trivial h)))⟩)⟩⟩⟩) fun h=>(h trivial))
 ·rw[vc53]
  exact(aR (t:=ah) (fun m hm=>⟨trivial,hm⟩) _ rfl trivial (aU h (fun v0 h hv0=>⟨(Int.natCast_nonneg 0),⟨(Int.natCast_nonneg _),⟨(Int.le_refl _),⟨rfl,⟨rfl,h⟩⟩⟩⟩⟩) (fun _ h=>h.elim)))
def c17:Con:=⟨[.dat TTb,.dat TGS,.dat TSS],fun args hp K=>g3 (pD TTb) (pD TGS) (pD TSS) (fun tables guards plan=>(Sm TTb tables)/\(Sm TGS guards)/\(Sm TSS plan)/\(LD (M.bn tables guards plan) fun r=>K (.tup [.clp 0 (r.1.length:Int),dB r.2]) [(0,.arr true ah r.1)])) args hp,.bor,false⟩
abbrev C17:Ctx:=cx [(10,c10),(49,c49),(52,c52),(53,c53)] 73 [(50,T50),(51,T51)] 0 true
def ann17:=an [[kp 7],[kp 8388614],[.clip 6,kp 192],[.fixBox 8,kp 262],[.weak 9,kp 774],[kp 939524866],[kp 2013266690],[.fixRow 11 ah,kp 939527938],[kp 939527938],[kp 939540226],[kp 4503600566900482],[kp 939525890],[kp 939524866],[kp 939524866],[.keep [9,70]],[.clip 6,kp 192],[.clip 6,kp 192]] [[kp 512]]
abbrev s17_0 (tables:LTb) (guards:LG) (plan:LS) (i0:Int) (v0:LS×LI):St:=⟨[(1,.data TGS guards),(8,.ptr 8 0),(9,.own 9 none),(27,.data TSS plan),(28,dI (plan.length:Int)),(29,dI i0)],[(8,.box [.own 26 none]),(9,.arr false ah v0.1),(26,.arr false aE v0.2)]⟩
abbrev LP17_0 (tables:LTb) (guards:LG) (plan:LS) (m:Nat) (st_:St) (K:KX):Prop:=True/\cI (s17_0 tables guards plan) Z0 (plan.length:Int) (F.ez tables guards plan) (fun v0:LS×LI=>True) (br (fun v0:LS×LI=>True->K (.exit 0) (⟨[(9,.own 9 none)],[(9,.arr false ah v0.1)]⟩:St)) (fun _=>False)) m st_
def L17 (tables:LTb) (guards:LG) (plan:LS):bE:=lp1 0 (LP17_0 tables guards plan)
abbrev S17_0 (tables:LTb) (guards:LG) (plan:LS) (K:KA):Prop:=K (.tup [.clp 0 (([]:List ah.D).length:Int),dB false]) [(0,.arr true ah ([]:List ah.D))]
theorem vc17 (tables:LTb) (guards:LG) (plan:LS) (K:KA):vcT C17 (L17 tables guards plan) ann17 f17 [.data TTb tables,.data TGS guards,.data TSS plan] [] .raw K =
 ((Sm TTb tables)/\(Sm TGS guards)/\cond ((!(M.bB tables guards))==false) ((Sm TTb tables)/\(Sm TSS plan)/\cond (!(M.bK tables plan)) (S17_0 tables guards plan K) (((plan.length:Int)=(plan.length:Int))/\(0<=(plan.length:Int))/\((plan.length:Int) * 8<=(lim:Int))/\(∃m_,True/\cI (s17_0 tables guards plan) Z0 (plan.length:Int) (F.ez tables guards plan) (fun v0:LS×LI=>True) (br (fun v0:LS×LI=>True->cond (decide (Z6<(v0.1.length:Int))) (S17_0 tables guards plan K) ((Sm TSS v0.1)/\(LD v0.1 fun r1=>K (.tup [.clp 0 ((r1.take (r1.length:Int).toNat).length:Int),dB true]) [(0,.arr true ah (r1.take (r1.length:Int).toNat))]))) (fun _=>False)) m_ (s17_0 tables guards plan Z0 ([],(List.replicate (plan.length:Int).toNat Z0)))))) (S17_0 tables guards plan K)):=by kernel_rfl
theorem lvc17_0 (tables:LTb) (guards:LG) (plan:LS)  (i0:Int) (v0:LS×LI) (m:Nat) (K:KX):lvT C17 (L17 tables guards plan) ann17 f17 0 0 (s17_0 tables guards plan i0 v0) m K =
 (cond (decide (i0<(plan.length:Int))) ((0<=i0)/\(i0<(plan.length:Int))/\(Sm TPS (nS plan i0).2.2.2.2.1)/\(LD (nS plan i0).2.2.2.2.1 fun r2=>(Sm (Ty.sl aE) (nS plan i0).2.2.2.2.2.1)/\(LD (nS plan i0).2.2.2.2.2.1 fun r3=>cond (!decide ((nS plan i0).1=Z1)) ((0<=(nS plan i0).2.1)/\((nS plan i0).2.1<(v0.2.length:Int))/\cond (M.two (nS plan i0).1) ((0<=(nS plan i0).2.2.1)/\((nS plan i0).2.2.1<(v0.2.length:Int))/\((v0.1.length+[((nS plan i0).1,((nI v0.2 (nS plan i0).2.1),((nI v0.2 (nS plan i0).2.2.1),((nS plan i0).2.2.2.1,((aj r2 (some (Z0,(r2.length:Int)))),((aj r3 (some (Z0,(r3.length:Int)))),()))))))].length) * 80<=lim)/\(Sm TGS guards)/\(LD (M.guardOf guards (nS plan i0).2.2.2.1) fun r4=>cond (r4.2==true) (cond (decide ((nS plan i0).1=Z1)) ((((v0.1++[((nS plan i0).1,((nI v0.2 (nS plan i0).2.1),((nI v0.2 (nS plan i0).2.2.1),((nS plan i0).2.2.2.1,((aj r2 (some (Z0,(r2.length:Int)))),((aj r3 (some (Z0,(r3.length:Int)))),()))))))]).length+([(Z2,(wrap64 (((v0.1++[((nS plan i0).1,((nI v0.2 (nS plan i0).2.1),((nI v0.2 (nS plan i0).2.2.1),((nS plan i0).2.2.2.1,((aj r2 (some (Z0,(r2.length:Int)))),((aj r3 (some (Z0,(r3.length:Int)))),()))))))]).length:Int)-Z1),(Z0,(Z0,(r4.1,([],()))))))]:List ah.D).length) * 80<=lim)/\(0<=i0)/\(i0<(v0.2.length:Int))/\(let y1:LI:=(v0.2.set i0.toNat (wrap64 ((((v0.1++[((nS plan i0).1,((nI v0.2 (nS plan i0).2.1),((nI v0.2 (nS plan i0).2.2.1),((nS plan i0).2.2.2.1,((aj r2 (some (Z0,(r2.length:Int)))),((aj r3 (some (Z0,(r3.length:Int)))),()))))))])++[(Z2,(wrap64 (((v0.1++[((nS plan i0).1,((nI v0.2 (nS plan i0).2.1),((nI v0.2 (nS plan i0).2.2.1),((nS plan i0).2.2.2.1,((aj r2 (some (Z0,(r2.length:Int)))),((aj r3 (some (Z0,(r3.length:Int)))),()))))))]).length:Int)-Z1),(Z0,(Z0,(r4.1,([],()))))))]).length:Int)-Z1)));(nxT (LP17_0 tables guards plan) m K (s17_0 tables guards plan (wrap64 (i0+Z1)) (((v0.1++[((nS plan i0).1,((nI v0.2 (nS plan i0).2.1),((nI v0.2 (nS plan i0).2.2.1),((nS plan i0).2.2.2.1,((aj r2 (some (Z0,(r2.length:Int)))),((aj r3 (some (Z0,(r3.length:Int)))),()))))))])++[(Z2,(wrap64 (((v0.1++[((nS plan i0).1,((nI v0.2 (nS plan i0).2.1),((nI v0.2 (nS plan i0).2.2.1),((nS plan i0).2.2.2.1,((aj r2 (some (Z0,(r2.length:Int)))),((aj r3 (some (Z0,(r3.length:Int)))),()))))))]).length:Int)-Z1),(Z0,(Z0,(r4.1,([],()))))))]),y1))))) ((0<=i0)/\(i0<(v0.2.length:Int))/\(let y1:LI:=(v0.2.set i0.toNat (wrap64 (((v0.1++[((nS plan i0).1,((nI v0.2 (nS plan i0).2.1),((nI v0.2 (nS plan i0).2.2.1),((nS plan i0).2.2.2.1,((aj r2 (some (Z0,(r2.length:Int)))),((aj r3 (some (Z0,(r3.length:Int)))),()))))))]).length:Int)-Z1)));(nxT (LP17_0 tables guards plan) m K (s17_0 tables guards plan (wrap64 (i0+Z1)) ((v0.1++[((nS plan i0).1,((nI v0.2 (nS plan i0).2.1),((nI v0.2 (nS plan i0).2.2.1),((nS plan i0).2.2.2.1,((aj r2 (some (Z0,(r2.length:Int)))),((aj r3 (some (Z0,(r3.length:Int)))),()))))))]),y1)))))) ((0<=i0)/\(i0<(v0.2.length:Int))/\(let y1:LI:=(v0.2.set i0.toNat (wrap64 (((v0.1++[((nS plan i0).1,((nI v0.2 (nS plan i0).2.1),((nI v0.2 (nS plan i0).2.2.1),((nS plan i0).2.2.2.1,((aj r2 (some (Z0,(r2.length:Int)))),((aj r3 (some (Z0,(r3.length:Int)))),()))))))]).length:Int)-Z1)));(nxT (LP17_0 tables guards plan) m K (s17_0 tables guards plan (wrap64 (i0+Z1)) ((v0.1++[((nS plan i0).1,((nI v0.2 (nS plan i0).2.1),((nI v0.2 (nS plan i0).2.2.1),((nS plan i0).2.2.2.1,((aj r2 (some (Z0,(r2.length:Int)))),((aj r3 (some (Z0,(r3.length:Int)))),()))))))]),y1))))))) (((v0.1.length+[((nS plan i0).1,((nI v0.2 (nS plan i0).2.1),((nS plan i0).2.2.1,((nS plan i0).2.2.2.1,((aj r2 (some (Z0,(r2.length:Int)))),((aj r3 (some (Z0,(r3.length:Int)))),()))))))].length) * 80<=lim)/\(Sm TGS guards)/\(LD (M.guardOf guards (nS plan i0).2.2.2.1) fun r4=>cond (r4.2==true) (cond (decide ((nS plan i0).1=Z1)) ((((v0.1++[((nS plan i0).1,((nI v0.2 (nS plan i0).2.1),((nS plan i0).2.2.1,((nS plan i0).2.2.2.1,((aj r2 (some (Z0,(r2.length:Int)))),((aj r3 (some (Z0,(r3.length:Int)))),()))))))]).length+([(Z2,(wrap64 (((v0.1++[((nS plan i0).1,((nI v0.2 (nS plan i0).2.1),((nS plan i0).2.2.1,((nS plan i0).2.2.2.1,((aj r2 (some (Z0,(r2.length:Int)))),((aj r3 (some (Z0,(r3.length:Int)))),()))))))]).length:Int)-Z1),(Z0,(Z0,(r4.1,([],()))))))]:List ah.D).length) * 80<=lim)/\(0<=i0)/\(i0<(v0.2.length:Int))/\(let y1:LI:=(v0.2.set i0.toNat (wrap64 ((((v0.1++[((nS plan i0).1,((nI v0.2 (nS plan i0).2.1),((nS plan i0).2.2.1,((nS plan i0).2.2.2.1,((aj r2 (some (Z0,(r2.length:Int)))),((aj r3 (some (Z0,(r3.length:Int)))),()))))))])++[(Z2,(wrap64 (((v0.1++[((nS plan i0).1,((nI v0.2 (nS plan i0).2.1),((nS plan i0).2.2.1,((nS plan i0).2.2.2.1,((aj r2 (some (Z0,(r2.length:Int)))),((aj r3 (some (Z0,(r3.length:Int)))),()))))))]).length:Int)-Z1),(Z0,(Z0,(r4.1,([],()))))))]).length:Int)-Z1)));(nxT (LP17_0 tables guards plan) m K (s17_0 tables guards plan (wrap64 (i0+Z1)) (((v0.1++[((nS plan i0).1,((nI v0.2 (nS plan i0).2.1),((nS plan i0).2.2.1,((nS plan i0).2.2.2.1,((aj r2 (some (Z0,(r2.length:Int)))),((aj r3 (some (Z0,(r3.length:Int)))),()))))))])++[(Z2,(wrap64 (((v0.1++[((nS plan i0).1,((nI v0.2 (nS plan i0).2.1),((nS plan i0).2.2.1,((nS plan i0).2.2.2.1,((aj r2 (some (Z0,(r2.length:Int)))),((aj r3 (some (Z0,(r3.length:Int)))),()))))))]).length:Int)-Z1),(Z0,(Z0,(r4.1,([],()))))))]),y1))))) ((0<=i0)/\(i0<(v0.2.length:Int))/\(let y1:LI:=(v0.2.set i0.toNat (wrap64 (((v0.1++[((nS plan i0).1,((nI v0.2 (nS plan i0).2.1),((nS plan i0).2.2.1,((nS plan i0).2.2.2.1,((aj r2 (some (Z0,(r2.length:Int)))),((aj r3 (some (Z0,(r3.length:Int)))),()))))))]).length:Int)-Z1)));(nxT (LP17_0 tables guards plan) m K (s17_0 tables guards plan (wrap64 (i0+Z1)) ((v0.1++[((nS plan i0).1,((nI v0.2 (nS plan i0).2.1),((nS plan i0).2.2.1,((nS plan i0).2.2.2.1,((aj r2 (some (Z0,(r2.length:Int)))),((aj r3 (some (Z0,(r3.length:Int)))),()))))))]),y1)))))) ((0<=i0)/\(i0<(v0.2.length:Int))/\(let y1:LI:=(v0.2.set i0.toNat (wrap64 (((v0.1++[((nS plan i0).1,((nI v0.2 (nS plan i0).2.1),((nS plan i0).2.2.1,((nS plan i0).2.2.2.1,((aj r2 (some (Z0,(r2.length:Int)))),((aj r3 (some (Z0,(r3.length:Int)))),()))))))]).length:Int)-Z1)));(nxT (LP17_0 tables guards plan) m K (s17_0 tables guards plan (wrap64 (i0+Z1)) ((v0.1++[((nS plan i0).1,((nI v0.2 (nS plan i0).2.1),((nS plan i0).2.2.1,((nS plan i0).2.2.2.1,((aj r2 (some (Z0,(r2.length:Int)))),((aj r3 (some (Z0,(r3.length:Int)))),()))))))]),y1)))))))) (cond (M.two (nS plan i0).1) ((0<=(nS plan i0).2.2.1)/\((nS plan i0).2.2.1<(v0.2.length:Int))/\((v0.1.length+[((nS plan i0).1,((nS plan i0).2.1,((nI v0.2 (nS plan i0).2.2.1),((nS plan i0).2.2.2.1,((aj r2 (some (Z0,(r2.length:Int)))),((aj r3 (some (Z0,(r3.length:Int)))),()))))))].length) * 80<=lim)/\(Sm TGS guards)/\(LD (M.guardOf guards (nS plan i0).2.2.2.1) fun r4=>cond (r4.2==true) (cond (decide ((nS plan i0).1=Z1)) ((((v0.1++[((nS plan i0).1,((nS plan i0).2.1,((nI v0.2 (nS plan i0).2.2.1),((nS plan i0).2.2.2.1,((aj r2 (some (Z0,(r2.length:Int)))),((aj r3 (some (Z0,(r3.length:Int)))),()))))))]).length+([(Z2,(wrap64 (((v0.1++[((nS plan i0).1,((nS plan i0).2.1,((nI v0.2 (nS plan i0).2.2.1),((nS plan i0).2.2.2.1,((aj r2 (some (Z0,(r2.length:Int)))),((aj r3 (some (Z0,(r3.length:Int)))),()))))))]).length:Int)-Z1),(Z0,(Z0,(r4.1,([],()))))))]:List ah.D).length) * 80<=lim)/\(0<=i0)/\(i0<(v0.2.length:Int))/\(let y1:LI:=(v0.2.set i0.toNat (wrap64 ((((v0.1++[((nS plan i0).1,((nS plan i0).2.1,((nI v0.2 (nS plan i0).2.2.1),((nS plan i0).2.2.2.1,((aj r2 (some (Z0,(r2.length:Int)))),((aj r3 (some (Z0,(r3.length:Int)))),()))))))])++[(Z2,(wrap64 (((v0.1++[((nS plan i0).1,((nS plan i0).2.1,((nI v0.2 (nS plan i0).2.2.1),((nS plan i0).2.2.2.1,((aj r2 (some (Z0,(r2.length:Int)))),((aj r3 (some (Z0,(r3.length:Int)))),()))))))]).length:Int)-Z1),(Z0,(Z0,(r4.1,([],()))))))]).length:Int)-Z1)));(nxT (LP17_0 tables guards plan) m K (s17_0 tables guards plan (wrap64 (i0+Z1)) (((v0.1++[((nS plan i0).1,((nS plan i0).2.1,((nI v0.2 (nS plan i0).2.2.1),((nS plan i0).2.2.2.1,((aj r2 (some (Z0,(r2.length:Int)))),((aj r3 (some (Z0,(r3.length:Int)))),()))))))])++[(Z2,(wrap64 (((v0.1++[((nS plan i0).1,((nS plan i0).2.1,((nI v0.2 (nS plan i0).2.2.1),((nS plan i0).2.2.2.1,((aj r2 (some (Z0,(r2.length:Int)))),((aj r3 (some (Z0,(r3.length:Int)))),()))))))]).length:Int)-Z1),(Z0,(Z0,(r4.1,([],()))))))]),y1))))) ((0<=i0)/\(i0<(v0.2.length:Int))/\(let y1:LI:=(v0.2.set i0.toNat (wrap64 (((v0.1++[((nS plan i0).1,((nS plan i0).2.1,((nI v0.2 (nS plan i0).2.2.1),((nS plan i0).2.2.2.1,((aj r2 (some (Z0,(r2.length:Int)))),((aj r3 (some (Z0,(r3.length:Int)))),()))))))]).length:Int)-Z1)));(nxT (LP17_0 tables guards plan) m K (s17_0 tables guards plan (wrap64 (i0+Z1)) ((v0.1++[((nS plan i0).1,((nS plan i0).2.1,((nI v0.2 (nS plan i0).2.2.1),((nS plan i0).2.2.2.1,((aj r2 (some (Z0,(r2.length:Int)))),((aj r3 (some (Z0,(r3.length:Int)))),()))))))]),y1)))))) ((0<=i0)/\(i0<(v0.2.length:Int))/\(let y1:LI:=(v0.2.set i0.toNat (wrap64 (((v0.1++[((nS plan i0).1,((nS plan i0).2.1,((nI v0.2 (nS plan i0).2.2.1),((nS plan i0).2.2.2.1,((aj r2 (some (Z0,(r2.length:Int)))),((aj r3 (some (Z0,(r3.length:Int)))),()))))))]).length:Int)-Z1)));(nxT (LP17_0 tables guards plan) m K (s17_0 tables guards plan (wrap64 (i0+Z1)) ((v0.1++[((nS plan i0).1,((nS plan i0).2.1,((nI v0.2 (nS plan i0).2.2.1),((nS plan i0).2.2.2.1,((aj r2 (some (Z0,(r2.length:Int)))),((aj r3 (some (Z0,(r3.length:Int)))),()))))))]),y1))))))) (((v0.1.length+[((nS plan i0).1,((nS plan i0).2.1,((nS plan i0).2.2.1,((nS plan i0).2.2.2.1,((aj r2 (some (Z0,(r2.length:Int)))),((aj r3 (some (Z0,(r3.length:Int)))),()))))))].length) * 80<=lim)/\(Sm TGS guards)/\(LD (M.guardOf guards (nS plan i0).2.2.2.1) fun r4=>cond (r4.2==true) (cond (decide ((nS plan i0).1=Z1)) ((((v0.1++[((nS plan i0).1,((nS plan i0).2.1,((nS plan i0).2.2.1,((nS plan i0).2.2.2.1,((aj r2 (some (Z0,(r2.length:Int)))),((aj r3 (some (Z0,(r3.length:Int)))),()))))))]).length+([(Z2,(wrap64 (((v0.1++[((nS plan i0).1,((nS plan i0).2.1,((nS plan i0).2.2.1,((nS plan i0).2.2.2.1,((aj r2 (some (Z0,(r2.length:Int)))),((aj r3 (some (Z0,(r3.length:Int)))),()))))))]).length:Int)-Z1),(Z0,(Z0,(r4.1,([],()))))))]:List ah.D).length) * 80<=lim)/\(0<=i0)/\(i0<(v0.2.length:Int))/\(let y1:LI:=(v0.2.set i0.toNat (wrap64 ((((v0.1++[((nS plan i0).1,((nS plan i0).2.1,((nS plan i0).2.2.1,((nS plan i0).2.2.2.1,((aj r2 (some (Z0,(r2.length:Int)))),((aj r3 (some (Z0,(r3.length:Int)))),()))))))])++[(Z2,(wrap64 (((v0.1++[((nS plan i0).1,((nS plan i0).2.1,((nS plan i0).2.2.1,((nS plan i0).2.2.2.1,((aj r2 (some (Z0,(r2.length:Int)))),((aj r3 (some (Z0,(r3.length:Int)))),()))))))]).length:Int)-Z1),(Z0,(Z0,(r4.1,([],()))))))]).length:Int)-Z1)));(nxT (LP17_0 tables guards plan) m K (s17_0 tables guards plan (wrap64 (i0+Z1)) (((v0.1++[((nS plan i0).1,((nS plan i0).2.1,((nS plan i0).2.2.1,((nS plan i0).2.2.2.1,((aj r2 (some (Z0,(r2.length:Int)))),((aj r3 (some (Z0,(r3.length:Int)))),()))))))])++[(Z2,(wrap64 (((v0.1++[((nS plan i0).1,((nS plan i0).2.1,((nS plan i0).2.2.1,((nS plan i0).2.2.2.1,((aj r2 (some (Z0,(r2.length:Int)))),((aj r3 (some (Z0,(r3.length:Int)))),()))))))]).length:Int)-Z1),(Z0,(Z0,(r4.1,([],()))))))]),y1))))) ((0<=i0)/\(i0<(v0.2.length:Int))/\(let y1:LI:=(v0.2.set i0.toNat (wrap64 (((v0.1++[((nS plan i0).1,((nS plan i0).2.1,((nS plan i0).2.2.1,((nS plan i0).2.2.2.1,((aj r2 (some (Z0,(r2.length:Int)))),((aj r3 (some (Z0,(r3.length:Int)))),()))))))]).length:Int)-Z1)));(nxT (LP17_0 tables guards plan) m K (s17_0 tables guards plan (wrap64 (i0+Z1)) ((v0.1++[((nS plan i0).1,((nS plan i0).2.1,((nS plan i0).2.2.1,((nS plan i0).2.2.2.1,((aj r2 (some (Z0,(r2.length:Int)))),((aj r3 (some (Z0,(r3.length:Int)))),()))))))]),y1)))))) ((0<=i0)/\(i0<(v0.2.length:Int))/\(let y1:LI:=(v0.2.set i0.toNat (wrap64 (((v0.1++[((nS plan i0).1,((nS plan i0).2.1,((nS plan i0).2.2.1,((nS plan i0).2.2.2.1,((aj r2 (some (Z0,(r2.length:Int)))),((aj r3 (some (Z0,(r3.length:Int)))),()))))))]).length:Int)-Z1)));(nxT (LP17_0 tables guards plan) m K (s17_0 tables guards plan (wrap64 (i0+Z1)) ((v0.1++[((nS plan i0).1,((nS plan i0).2.1,((nS plan i0).2.2.1,((nS plan i0).2.2.2.1,((aj r2 (some (Z0,(r2.length:Int)))),((aj r3 (some (Z0,(r3.length:Int)))),()))))))]),y1))))))))))) (K (.exit 0) (⟨[(9,.own 9 none)],[(9,.arr false ah v0.1)]⟩:St))):=by kernel_rfl
theorem con17_ok:bg P 17 c17:=bq C17 func17 (kC con10_ok (kC con49_ok (kC con52_ok (kC con53_ok (kI inlOk50 (kI inlOk51 kN)))))) fun args hp K h0=>by
 obtain⟨tables,guards,plan,rfl,rfl,h_tables,h_guards,h_plan,hK⟩:=g3e h0
 have h:ok (F.jX tables guards plan) (fun r=>K (.tup [.clp 0 (r.1.length:Int),dB r.2]) [(0,.arr true ah r.1)]):=az (F.sS tables guards plan h_tables h_guards h_plan) (hK _ rfl)
 refine⟨rfl,ann17,(L17 tables guards plan),.raw,(bA (i0:=0) (by kernel_rfl) ?_),?_⟩
 ·rintro _ _ K ⟨hc0,i0,v0,rfl,hl0,rfl,hv0,h⟩
  exact cast (lvc17_0 _ _ _ _ _ _ _).symm (cj h (fun ht0 h=>⟨hl0,⟨ht0,⟨(aH h_plan i0).2.2.2.2.1,(oL h fun _ _ h=>⟨(aH h_plan i0).2.2.2.2.2.1,(oL h fun _ _ h=>(oC h (fun b_120083 h=>(oG h fun _ h=>(oG h fun _ h=>(oC h (fun _ h=>(oG h fun _ h=>(oG h fun _ h=>(oG h fun _ h=>⟨h_guards,(oL h fun _ _ h=>(oC h (fun _ h=>(cY (bnt b_120083) ⟨hl0,(oG h fun _ h=>(have h:=cB h _ rfl;(aT (fun _ hm=>⟨hc0,hm⟩) _ rfl hl0 fS ht0 (aZ h_plan) trivial h)))⟩)) fun _ h=>⟨hl0,(oG h fun _ h=>(have h:=cB h _ rfl;(aT (fun _ hm=>⟨hc0,hm⟩) _ rfl hl0 fS ht0 (aZ h_plan) trivial h)))⟩))⟩)))) fun _ h=>(oG h fun _ h=>⟨h_guards,(oL h fun _ _ h=>(oC h (fun _ h=>(cY (bnt b_120083) ⟨hl0,(oG h fun _ h=>(have h:=cB h _ rfl;(aT (fun _ hm=>⟨hc0,hm⟩) _ rfl hl0 fS ht0 (aZ h_plan) trivial h)))⟩)) fun _ h=>⟨hl0,(oG h fun _ h=>(have h:=cB h _ rfl;(aT (fun _ hm=>⟨hc0,hm⟩) _ rfl hl0 fS ht0 (aZ h_plan) trivial h)))⟩))⟩))))) fun b_120083 h=>(oC h (fun _ h=>(oG h fun _ h=>(oG h fun _ h=>(oG h fun _ h=>⟨h_guards,(oL h fun _ _ h=>(oC h (fun _ h=>(bL (bnf b_120083) (oG h fun _ h=>⟨hl0,(oG h fun _ h=>(have h:=cB h _ rfl;(aT (fun _ hm=>⟨hc0,hm⟩) _ rfl hl0 fS ht0 (aZ h_plan) trivial h)))⟩))) fun _ h=>⟨hl0,(oG h fun _ h=>(have h:=cB h _ rfl;(aT (fun _ hm=>⟨hc0,hm⟩) _ rfl hl0 fS ht0 (aZ h_plan) trivial h)))⟩))⟩)))) fun _ h=>(oG h fun _ h=>⟨h_guards,(oL h fun _ _ h=>(oC h (fun _ h=>(bL (bnf b_120083) (oG h fun _ h=>⟨hl0,(oG h fun _ h=>(have h:=cB h _ rfl;(aT (fun _ hm=>⟨hc0,hm⟩) _ rfl hl0 fS ht0 (aZ h_plan) trivial h)))⟩))) fun _ h=>⟨hl0,(oG h fun _ h=>(have h:=cB h _ rfl;(aT (fun _ hm=>⟨hc0,hm⟩) _ rfl hl0 fS ht0 (aZ h_plan) trivial h)))⟩))⟩))))⟩)⟩⟩⟩) fun h=>(h trivial))
 ·rw[vc17]
  exact⟨h_tables,⟨h_guards,(oC h (fun _ h=>⟨h_tables,⟨h_plan,(oC h (fun _ h=>h) fun _ h=>⟨rfl,⟨(Int.natCast_nonneg _),⟨(FJ h_plan rfl),(bN (fun m hm=>⟨trivial,hm⟩) Z0 _ rfl (Int.natCast_nonneg 0) trivial (aU h (fun v0 h hv0=>(oC h (fun _ h=>h) fun _ h=>(oG h fun _ h=>(oL h fun _ _ h=>h)))) (fun _ h=>h.elim)))⟩⟩⟩)⟩⟩) fun _ h=>h)⟩⟩
def c24:Con:=⟨[.dat TTb,.dat TGS,.dat TSS],fun args hp K=>g3 (pD TTb) (pD TGS) (pD TSS) (fun tables guards plan=>(Sm TTb tables)/\(Sm TGS guards)/\(Sm TSS plan)/\(LD (M.cX tables guards plan) fun r=>K (.tup [.clp 0 (r.1.length:Int),dB r.2]) [(0,.arr true TVS r.1)])) args hp,.bor,false⟩
abbrev C24:Ctx:=cx [(14,c14),(17,c17)] 22 [] 0 true
def ann24:=an [[kp 7],[kp 769],[kp 262401],[.clip 6,kp 192],[kp 192]] []
theorem vc24 (tables:LTb) (guards:LG) (plan:LS) (K:KA):vcT C24 aA ann24 f24 [.data TTb tables,.data TGS guards,.data TSS plan] [] .raw K =
 ((Sm TTb tables)/\(Sm TGS guards)/\(Sm TSS plan)/\(LD (M.bn tables guards plan) fun r1=>cond (!r1.2) (K (.tup [.clp 0 (([]:List TVS.D).length:Int),dB false]) [(0,.arr true TVS ([]:List TVS.D))]) ((Sm TTb tables)/\(Sm TSS (aj r1.1 (some (Z0,(r1.1.length:Int)))))/\(LD (M.cO tables (aj r1.1 (some (Z0,(r1.1.length:Int))))) fun r2=>K (.tup [.clp 0 ((r2.take (r2.length:Int).toNat).length:Int),dB true]) [(0,.arr true TVS (r2.take (r2.length:Int).toNat))])))):=by kernel_rfl
theorem con24_ok:bg P 24 c24:=bq C24 func24 (kC con14_ok (kC con17_ok kN)) fun args hp K h0=>by
 obtain⟨tables,guards,plan,rfl,rfl,h_tables,h_guards,h_plan,hK⟩:=g3e h0
 have h:ok (F.ot tables guards plan) (fun r=>K (.tup [.clp 0 (r.1.length:Int),dB r.2]) [(0,.arr true TVS r.1)]):=az (F.wO tables guards plan h_tables h_guards h_plan) (hK _ rfl)
 refine⟨rfl,ann24,aA,.raw,(aG (by kernel_rfl)),?_⟩
 ·rw[vc24]
  exact⟨h_tables,⟨h_guards,⟨h_plan,(oL h fun _ _ h=>(oC h (fun _ h=>h) fun _ h=>⟨h_tables,(oG h fun _ h=>(oL h fun _ _ h=>h))⟩))⟩⟩⟩
abbrev C32:Ctx:=cx [] 11 [] 200000 false
def T32:Inl:=sO C32 (fun _=>[]) (dr f32) f32.results.toList
theorem inlOk32:uj P 32 T32:=yz C32 func32 kN
def c76:Con:=⟨[.any,.dat aE],fun args hp K=>hpR (fun b p=>args2 (fun a0 a1=>mV a0 (eV aE a1 fun n=>(Sm TBy b)/\(M.ay b)/\(0<=p)/\(p<=1000000000000000)/\(LD (M.pick b p n) fun r=>K (dI r.1) [(1000000,.box [.data TBy b,dI r.2])]))) args []) hp,.plain,true⟩
abbrev C76:Ctx:=cx [] 99 [] 0 false
def ann76:=an [[kp 3],[kp 3],[kp 16777219],[kp 16],[kp 35],[kp 68719476771],[kp 16],[kp 66],[kp 66],[kp 16]] []
abbrev S76_0 (b:LI) (p:Int) (n:Int) (K:KA):Prop:=K (dI Z0) [(1000000,.box [.data TBy b,dI (wrap64 (p+Z1))])]
abbrev S76_1 (b:LI) (p:Int) (n:Int) (K:KA):Prop:=((64:Int)≠0)/\(n≠0)/\K (dI ((nE .xor .i64 (wrap64 (wrap64 (wrap64 (wrap64 ((wrap64 (nth (t:=(Ty.int .u8)) b ((wrap64 (wrap64 (p+Z1)-Z1)).tmod (b.length:Int)))) * (131:Int))+wrap64 ((wrap64 (nth (t:=(Ty.int .u8)) b ((wrap64 (wrap64 ((wrap64 (wrap64 (p+Z1)-Z1)) * (7:Int))+Z3)).tmod (b.length:Int)))) * (1117:Int)))+wrap64 ((wrap64 (wrap64 (p+Z1)-Z1)) * (29:Int)))+wrap64 ((wrap64 ((wrap64 (wrap64 (p+Z1)-Z1)).tdiv (b.length:Int))) * (53:Int)))) (wrap64 ((wrap64 (wrap64 (wrap64 (wrap64 ((wrap64 (nth (t:=(Ty.int .u8)) b ((wrap64 (wrap64 (p+Z1)-Z1)).tmod (b.length:Int)))) * (131:Int))+wrap64 ((wrap64 (nth (t:=(Ty.int .u8)) b ((wrap64 (wrap64 ((wrap64 (wrap64 (p+Z1)-Z1)) * (7:Int))+Z3)).tmod (b.length:Int)))) * (1117:Int)))+wrap64 ((wrap64 (wrap64 (p+Z1)-Z1)) * (29:Int)))+wrap64 ((wrap64 ((wrap64 (wrap64 (p+Z1)-Z1)).tdiv (b.length:Int))) * (53:Int)))).tdiv (64:Int)))).tmod n)) [(1000000,.box [.data TBy b,dI (wrap64 (p+Z1))])]
abbrev S76_2 (b:LI) (p:Int) (n:Int) (K:KA):Prop:=(S76_1 b p n K)
theorem vc76 (b:LI) (p:Int) (n:Int) (K:KA):vcT C76 aA ann76 f76 [.ptr 1000000 0,dI n] [(1000000,.box [.data TBy b,dI p])] (.dat aE) K =
 (cond ((decide (n<Z1))==false) (cond (decide ((b.length:Int)=Z0)) (S76_0 b p n K) (cond (decide (wrap64 (wrap64 (p+Z1)-Z1)<(b.length:Int))) ((0<=wrap64 (wrap64 (p+Z1)-Z1))/\(wrap64 (wrap64 (p+Z1)-Z1)<(b.length:Int))/\(n≠0)/\K (dI ((wrap64 (nth (t:=(Ty.int .u8)) b (wrap64 (wrap64 (p+Z1)-Z1)))).tmod n)) [(1000000,.box [.data TBy b,dI (wrap64 (p+Z1))])]) (((b.length:Int)≠0)/\(0<=((wrap64 (wrap64 (p+Z1)-Z1)).tmod (b.length:Int)))/\(((wrap64 (wrap64 (p+Z1)-Z1)).tmod (b.length:Int))<(b.length:Int))/\((b.length:Int)≠0)/\(0<=((wrap64 (wrap64 ((wrap64 (wrap64 (p+Z1)-Z1)) * (7:Int))+Z3)).tmod (b.length:Int)))/\(((wrap64 (wrap64 ((wrap64 (wrap64 (p+Z1)-Z1)) * (7:Int))+Z3)).tmod (b.length:Int))<(b.length:Int))/\((b.length:Int)≠0)/\Q0 (S76_2 b p n K)))) (S76_0 b p n K)):=by kernel_rfl
theorem con76_ok:bg P 76 c76:=bq C76 func76 kN fun args hp K h0=>by
 unfold c76 at h0
 dsimp only at h0
 obtain⟨b,p,rfl,h00⟩:=fk h0
 obtain⟨a0,a1,rfl,_,h1⟩:=ck h00
 obtain⟨rfl,h2⟩:=cW h1
 obtain⟨n,rfl,h3⟩:=bw h2
 obtain⟨h_b,p0,p1,p2,hK⟩:=h3
 have h:ok (F.pe b p n) (fun r=>K (dI r.1) [(1000000,.box [.data TBy b,dI r.2])]):=az (F.CN b p n h_b p0 p1 p2) (hK _ rfl)
 refine⟨rfl,ann76,aA,(.dat aE),(aG (by kernel_rfl)),?_⟩
 ·rw[vc76]
  exact(oC h (fun _ h=>(oC h (fun _ h=>h) fun _ h=>(oC h (fun _ h=>(oG h fun _ h=>(oG h fun _ h=>(oG h fun _ h=>h)))) fun _ h=>(oG h fun g1 h=>(oG h fun _ h=>(oG h fun _ h=>⟨g1,(oG h fun _ h=>(oG h fun _ h=>⟨g1,(q0 (⟨(by decide),(oG h fun _ h=>h)⟩))⟩))⟩)))))) fun _ h=>h)
def c92:Con:=⟨[.any,.dat aE],fun args hp K=>hpR (fun b p=>args2 (fun a0 a1=>mV a0 (eV aE a1 fun n=>(Sm TBy b)/\(M.ay b)/\(0<=p)/\(p<=999000000000000)/\(LD (M.odd b p n) fun r=>K (dB r.1) [(1000000,.box [.data TBy b,dI r.2])]))) args []) hp,.plain,true⟩
abbrev C92:Ctx:=cx [(76,c76)] 15 [] 0 false
def ann92:=an [[kp 3],[kp 16]] []
theorem vc92 (b:LI) (p:Int) (n:Int) (K:KA):vcT C92 aA ann92 f92 [.ptr 1000000 0,dI n] [(1000000,.box [.data TBy b,dI p])] (.dat Ty.bool) K =
 (cond ((decide (Z0<n))==true) ((Sm TBy b)/\(M.ay b)/\(0<=p)/\(p<=1000000000000000)/\(LD (M.pick b p n) fun r1=>K (dB (decide (r1.1=wrap64 (n-Z1)))) [(1000000,.box [.data TBy b,dI r1.2])])) (K (dB false) [(1000000,.box [.data TBy b,dI p])])):=by kernel_rfl
theorem con92_ok:bg P 92 c92:=bq C92 func92 (kC con76_ok kN) fun args hp K h0=>by
 unfold c92 at h0
 dsimp only at h0
 obtain⟨b,p,rfl,h00⟩:=fk h0
 obtain⟨a0,a1,rfl,_,h1⟩:=ck h00
 obtain⟨rfl,h2⟩:=cW h1
 obtain⟨n,rfl,h3⟩:=bw h2
 obtain⟨h_b,p0,p1,p2,hK⟩:=h3
 have h:ok (F.rq b p n) (fun r=>K (dB r.1) [(1000000,.box [.data TBy b,dI r.2])]):=az (F.DO b p n h_b p0 p1 p2) (hK _ rfl)
 refine⟨rfl,ann92,aA,(.dat Ty.bool),(aG (by kernel_rfl)),?_⟩
 ·rw[vc92]
  exact(oC h (fun _ h=>⟨h_b,⟨p0,⟨p1,(oG h fun _ h=>(oL h fun _ _ h=>h))⟩⟩⟩) fun _ h=>h)
def c122:Con:=⟨[.any,.dat aE],fun args hp K=>hpR (fun b p=>args2 (fun a0 a1=>mV a0 (eV aE a1 fun n=>(Sm TBy b)/\(M.ay b)/\(0<=p)/\(p<=998000000000000)/\(LD (M.gb b p n) fun r=>K (.own 0 none) [(0,.arr false ag r.1),(1000000,.box [.data TBy b,dI r.2])]))) args []) hp,.plain,true⟩
abbrev C122:Ctx:=cx [(76,c76),(92,c92)] 40 [] 0 false
def ann122:=an [[kp 3],[kp 35],[kp 99],[kp 4195],[kp 99],[kp 99],[kp 536870945],[kp 32],[kp 16]] [[kp 35]]
abbrev s122_0 (b:LI) (p:Int) (n:Int) (v0:Int×Int×LC):St:=⟨[(0,.ptr 1000000 0),(1,dI n),(5,.own 7 none),(6,dI v0.1)],[(1000000,.box [.data TBy b,dI v0.2.1]),(7,.arr false ag v0.2.2)]⟩
abbrev LP122_0 (b:LI) (p:Int) (n:Int) (m:Nat) (st_:St) (K:KX):Prop:=True/\di (s122_0 b p n) (F.fZ b p n) (fun v0:Int×Int×LC=>True) (fun e0:Int×LC=>True->K (.exit 0) (⟨[(0,.ptr 1000000 0),(1,dI n),(5,.own 7 none)],[(1000000,.box [.data TBy b,dI e0.1]),(7,.arr false ag e0.2)]⟩:St)) m st_
def L122 (b:LI) (p:Int) (n:Int):bE:=lp1 0 (LP122_0 b p n)
theorem vc122 (b:LI) (p:Int) (n:Int) (K:KA):vcT C122 (L122 b p n) ann122 f122 [.ptr 1000000 0,dI n] [(1000000,.box [.data TBy b,dI p])] .raw K =
 ((Sm TBy b)/\(M.ay b)/\(0<=p)/\(p<=1000000000000000)/\(LD (M.pick b p Z3) fun r1=>(∃m_,True/\di (s122_0 b p n) (F.fZ b p n) (fun v0:Int×Int×LC=>True) (fun e0:Int×LC=>True->(Sm TBy b)/\(M.ay b)/\(0<=e0.1)/\(e0.1<=999000000000000)/\(LD (M.odd b e0.1 n) fun r2=>cond r2.1 ((Sm TBy b)/\(M.ay b)/\(0<=r2.2)/\(r2.2<=1000000000000000)/\(LD (M.pick b r2.2 Z6) fun r3=>((e0.2.length+[(wrap64 (r3.1-Z1),(false,())),(Z1,(false,())),(Z1,(false,()))].length) * 16<=lim)/\K (.own 0 none) [(0,.arr false ag (e0.2++[(wrap64 (r3.1-Z1),(false,())),(Z1,(false,())),(Z1,(false,()))])),(1000000,.box [.data TBy b,dI r3.2])])) (K (.own 0 none) [(0,.arr false ag e0.2),(1000000,.box [.data TBy b,dI r2.2])]))) m_ (s122_0 b p n (wrap64 (Z1+r1.1),r1.2,[]))))):=by kernel_rfl
theorem lvc122_0 (b:LI) (p:Int) (n:Int)  (v0:Int×Int×LC) (m:Nat) (K:KX):lvT C122 (L122 b p n) ann122 f122 0 0 (s122_0 b p n v0) m K =
 (cond (decide (Z0<v0.1)) (((Sm TBy b)/\(M.ay b)/\(0<=v0.2.1)/\(v0.2.1<=1000000000000000)/\(LD (M.pick b v0.2.1 Z4) fun r4=>(0<=r4.1)/\(r4.1<([Z1,Z1,Z2,Z3].length:Int))/\Q0 ((Sm TBy b)/\(M.ay b)/\(0<=r4.2)/\(r4.2<=1000000000000000)/\(LD (M.pick b r4.2 Z3) fun r5=>((v0.2.2.length+[((nI [Z1,Z1,Z2,Z3] r4.1),((decide (Z0<r5.1)),()))].length) * 16<=lim)/\(nxT (LP122_0 b p n) m K (s122_0 b p n (wrap64 (v0.1-Z1),r5.2,(v0.2.2++[((nI [Z1,Z1,Z2,Z3] r4.1),((decide (Z0<r5.1)),()))]))))))))/\((Sm TBy b)/\(M.ay b)/\(0<=v0.2.1)/\(v0.2.1<=1000000000000000)/\(LD (M.pick b v0.2.1 Z4) fun r4=>((0<=r4.1)/\(r4.1<([Z1,Z1,Z2,Z3].length:Int))/\Q0 ((Sm TBy b)/\(M.ay b)/\(0<=r4.2)/\(r4.2<=1000000000000000)/\(LD (M.pick b r4.2 Z3) fun r5=>((v0.2.2.length+[((nI [Z1,Z1,Z2,Z3] r4.1),((decide (Z0<r5.1)),()))].length) * 16<=lim)/\(nxT (LP122_0 b p n) m K (s122_0 b p n (wrap64 (v0.1-Z1),r5.2,(v0.2.2++[((nI [Z1,Z1,Z2,Z3] r4.1),((decide (Z0<r5.1)),()))])))))))/\((Sm TBy b)/\(M.ay b)/\(0<=r4.2)/\(r4.2<=1000000000000000)/\(LD (M.pick b r4.2 Z3) fun r5=>(0<=r4.1)/\(r4.1<([Z1,Z1,Z2,Z3].length:Int))/\((v0.2.2.length+[((nI [Z1,Z1,Z2,Z3] r4.1),((decide (Z0<r5.1)),()))].length) * 16<=lim)/\(nxT (LP122_0 b p n) m K (s122_0 b p n (wrap64 (v0.1-Z1),r5.2,(v0.2.2++[((nI [Z1,Z1,Z2,Z3] r4.1),((decide (Z0<r5.1)),()))]))))))))) (K (.exit 0) (⟨[(0,.ptr 1000000 0),(1,dI n),(5,.own 7 none)],[(1000000,.box [.data TBy b,dI v0.2.1]),(7,.arr false ag v0.2.2)]⟩:St))):=by kernel_rfl
theorem con122_ok:bg P 122 c122:=bq C122 func122 (kC con76_ok (kC con92_ok kN)) fun args hp K h0=>by
 unfold c122 at h0
 dsimp only at h0
 obtain⟨b,p,rfl,h00⟩:=fk h0
 obtain⟨a0,a1,rfl,_,h1⟩:=ck h00
 obtain⟨rfl,h2⟩:=cW h1
 obtain⟨n,rfl,h3⟩:=bw h2
 obtain⟨h_b,p0,p1,p2,hK⟩:=h3
 have h:ok (F.gk b p n) (fun r=>K (.own 0 none) [(0,.arr false ag r.1),(1000000,.box [.data TBy b,dI r.2])]):=az (F.tA b p n h_b p0 p1 p2) (hK _ rfl)
 refine⟨rfl,ann122,(L122 b p n),.raw,(bA (i0:=0) (by kernel_rfl) ?_),?_⟩
 ·rintro _ _ K ⟨hc0,v0,rfl,hv0,h⟩
  exact cast (lvc122_0 _ _ _ _ _ _).symm (cC h (fun m1 hm0 h=>(oC h (fun _ h=>((fun(g1_0:M.ay b)=>(fun(g1_1:0<=v0.2.1)=>(fun(g1_2:v0.2.1<=1000000000000000)=>(fun(g1_3:0<=(M.pick b v0.2.1 Z4).1)=>(fun(g1_4:(M.pick b v0.2.1 Z4).1<([Z1,Z1,Z2,Z3].length:Int))=>(fun(g1_5:0<=(M.pick b v0.2.1 Z4).2)=>(fun(g1_6:(M.pick b v0.2.1 Z4).2<=1000000000000000)=>(fun(g1_7:(v0.2.2.length+[((nI [Z1,Z1,Z2,Z3] (M.pick b v0.2.1 Z4).1),((decide (Z0<(M.pick b (M.pick b v0.2.1 Z4).2 Z3).1)),()))].length) * 16<=lim)=>⟨⟨h_b,⟨g1_0,have g1:=g1_0;⟨g1_1,have g2:=g1_1;⟨g1_2,have g3:=g1_2;(fun r4 er4=>(have g4:0<=r4.1:=(by rw[er4];exact g1_3);⟨g4,(have g5:r4.1<([Z1,Z1,Z2,Z3].length:Int):=(by rw[er4];exact g1_4);⟨g5,(q0 (⟨h_b,⟨g1,(have g6:0<=r4.2:=(by rw[er4];exact g1_5);⟨g6,(have g7:r4.2<=1000000000000000:=(by rw[er4];exact g1_6);⟨g7,(fun r5 er5=>(have g8:(v0.2.2.length+[((nI [Z1,Z1,Z2,Z3] r4.1),((decide (Z0<r5.1)),()))].length) * 16<=lim:=(by rw[er5,er4];exact g1_7);⟨g8,(have h:=(aF (cB (aF (aF (aF (aF (cB (aF (aF (aF h).2).2).2 r4 er4)).2).2).2).2 r5 er5)).2;(bD (fun _ hm=>⟨hc0,hm⟩) hm0 _ rfl trivial h))⟩))⟩)⟩)⟩⟩))⟩)⟩))⟩⟩⟩⟩,⟨h_b,⟨g1_0,have g9:=g1_0;⟨g1_1,have g10:=g1_1;⟨g1_2,have g11:=g1_2;(fun r4 er4=>⟨(have g12:0<=r4.1:=(by rw[er4];exact g1_3);⟨g12,(have g13:r4.1<([Z1,Z1,Z2,Z3].length:Int):=(by rw[er4];exact g1_4);⟨g13,(q0 (⟨h_b,⟨g9,(have g14:0<=r4.2:=(by rw[er4];exact g1_5);⟨g14,(have g15:r4.2<=1000000000000000:=(by rw[er4];exact g1_6);⟨g15,(fun r5 er5=>(have g16:(v0.2.2.length+[((nI [Z1,Z1,Z2,Z3] r4.1),((decide (Z0<r5.1)),()))].length) * 16<=lim:=(by rw[er5,er4];exact g1_7);⟨g16,(have h:=(aF (cB (aF (aF (aF (aF (cB (aF (aF (aF h).2).2).2 r4 er4)).2).2).2).2 r5 er5)).2;(bD (fun _ hm=>⟨hc0,hm⟩) hm0 _ rfl trivial h))⟩))⟩)⟩)⟩⟩))⟩)⟩),⟨h_b,⟨g9,(have g17:0<=r4.2:=(by rw[er4];exact g1_5);⟨g17,(have g18:r4.2<=1000000000000000:=(by rw[er4];exact g1_6);⟨g18,(fun r5 er5=>(have g19:0<=r4.1:=(by rw[er4];exact g1_3);⟨g19,(have g20:r4.1<([Z1,Z1,Z2,Z3].length:Int):=(by rw[er4];exact g1_4);⟨g20,(have g21:(v0.2.2.length+[((nI [Z1,Z1,Z2,Z3] r4.1),((decide (Z0<r5.1)),()))].length) * 16<=lim:=(by rw[er5,er4];exact g1_7);⟨g21,(have h:=(aF (cB (aF (aF (aF (aF (cB (aF (aF (aF h).2).2).2 r4 er4)).2).2).2).2 r5 er5)).2;(bD (fun _ hm=>⟨hc0,hm⟩) hm0 _ rfl trivial h))⟩)⟩)⟩))⟩)⟩)⟩⟩⟩)⟩⟩⟩⟩⟩) (aF (cB (aF (aF (aF (aF (cB (aF (aF (aF h).2).2).2 _ rfl)).2).2).2).2 _ rfl)).1) (aF (aF (aF (aF (cB (aF (aF (aF h).2).2).2 _ rfl)).2).2).2).1) (aF (aF (aF (cB (aF (aF (aF h).2).2).2 _ rfl)).2).2).1) (aF (aF (cB (aF (aF (aF h).2).2).2 _ rfl)).2).1) (aF (cB (aF (aF (aF h).2).2).2 _ rfl)).1) (aF (aF (aF h).2).2).1) (aF (aF h).2).1) (aF h).1)) fun _ h=>((cw h :) trivial))))
 ·rw[vc122]
  exact⟨h_b,⟨p0,⟨p1,(oG h fun _ h=>(oL h fun _ _ h=>(bV (fun m hm=>⟨trivial,hm⟩) _ rfl trivial (fy h (fun e0 h hv0=>⟨h_b,⟨p0,(oG h fun _ h=>(oG h fun _ h=>(oL h fun _ _ h=>(oC h (fun _ h=>⟨h_b,⟨p0,(oG h fun _ h=>(oG h fun _ h=>(oL h fun _ _ h=>(oG h fun _ h=>h))))⟩⟩) fun _ h=>h))))⟩⟩)))))⟩⟩⟩
def c124:Con:=⟨[.any,.dat ag],fun args hp K=>hpR (fun b p=>args2 (fun a0 a1=>mV a0 (eV ag a1 fun c=>(Sm TBy b)/\(M.ay b)/\(0<=p)/\(p<=998000000000000)/\(LD (M.kq b p c) fun r=>K (.data aa r.1) [(1000000,.box [.data TBy b,dI r.2])]))) args []) hp,.plain,true⟩
abbrev C124:Ctx:=cx [(76,c76)] 31 [] 0 false
def ann124:=an [[.fixRow 3 ag,kp 25],[kp 2073],[kp 16],[kp 16401],[kp 49169],[kp 16],[kp 1048593],[kp 16],[kp 16]] []
theorem vc124 (b:LI) (p:Int) (c:ag.D) (K:KA):vcT C124 aA ann124 f124 [.ptr 1000000 0,.data ag c] [(1000000,.box [.data TBy b,dI p])] (.dat aa) K =
 (cond (c.2.1==true) ((Sm TBy b)/\(M.ay b)/\(0<=p)/\(p<=1000000000000000)/\(LD (M.pick b p Z5) fun r1=>cond (decide (r1.1=Z0)) (K (.data aa (Z0,(Z0,((⟨#[]⟩:ByteArray),())))) [(1000000,.box [.data TBy b,dI r1.2])]) (cond (decide (c.1=Z1)) ((Sm TBy b)/\(M.ay b)/\(0<=r1.2)/\(r1.2<=1000000000000000)/\(LD (M.pick b r1.2 Z4) fun r2=>K (.data aa (Z1,(r2.1,((⟨#[]⟩:ByteArray),())))) [(1000000,.box [.data TBy b,dI r2.2])])) (cond (decide (c.1=Z2)) ((Sm TBy b)/\(M.ay b)/\(0<=r1.2)/\(r1.2<=1000000000000000)/\(LD (M.pick b r1.2 Z4) fun r3=>(0<=r3.1)/\(r3.1<([(⟨#[]⟩:ByteArray),(⟨#[97]⟩:ByteArray),(⟨#[98]⟩:ByteArray),(⟨#[97,98]⟩:ByteArray)].length:Int))/\K (.data aa (Z2,(Z0,((nth (t:=Ty.str) [(⟨#[]⟩:ByteArray),(⟨#[97]⟩:ByteArray),(⟨#[98]⟩:ByteArray),(⟨#[97,98]⟩:ByteArray)] r3.1),())))) [(1000000,.box [.data TBy b,dI r3.2])])) ((Sm TBy b)/\(M.ay b)/\(0<=r1.2)/\(r1.2<=1000000000000000)/\(LD (M.pick b r1.2 Z2) fun r4=>K (.data aa (Z3,(r4.1,((⟨#[]⟩:ByteArray),())))) [(1000000,.box [.data TBy b,dI r4.2])])))))) (cond (decide (c.1=Z1)) ((Sm TBy b)/\(M.ay b)/\(0<=p)/\(p<=1000000000000000)/\(LD (M.pick b p Z4) fun r2=>K (.data aa (Z1,(r2.1,((⟨#[]⟩:ByteArray),())))) [(1000000,.box [.data TBy b,dI r2.2])])) (cond (decide (c.1=Z2)) ((Sm TBy b)/\(M.ay b)/\(0<=p)/\(p<=1000000000000000)/\(LD (M.pick b p Z4) fun r3=>(0<=r3.1)/\(r3.1<([(⟨#[]⟩:ByteArray),(⟨#[97]⟩:ByteArray),(⟨#[98]⟩:ByteArray),(⟨#[97,98]⟩:ByteArray)].length:Int))/\K (.data aa (Z2,(Z0,((nth (t:=Ty.str) [(⟨#[]⟩:ByteArray),(⟨#[97]⟩:ByteArray),(⟨#[98]⟩:ByteArray),(⟨#[97,98]⟩:ByteArray)] r3.1),())))) [(1000000,.box [.data TBy b,dI r3.2])])) ((Sm TBy b)/\(M.ay b)/\(0<=p)/\(p<=1000000000000000)/\(LD (M.pick b p Z2) fun r4=>K (.data aa (Z3,(r4.1,((⟨#[]⟩:ByteArray),())))) [(1000000,.box [.data TBy b,dI r4.2])]))))):=by kernel_rfl
theorem con124_ok:bg P 124 c124:=bq C124 func124 (kC con76_ok kN) fun args hp K h0=>by
 unfold c124 at h0
 dsimp only at h0
 obtain⟨b,p,rfl,h00⟩:=fk h0
 obtain⟨a0,a1,rfl,_,h1⟩:=ck h00
 obtain⟨rfl,h2⟩:=cW h1
 obtain⟨c,rfl,h3⟩:=bw h2
 obtain⟨h_b,p0,p1,p2,hK⟩:=h3
 have h:ok (F.jz b p c) (fun r=>K (.data aa r.1) [(1000000,.box [.data TBy b,dI r.2])]):=az (F.yM b p c h_b p0 p1 p2) (hK _ rfl)
 refine⟨rfl,ann124,aA,(.dat aa),(aG (by kernel_rfl)),?_⟩
 ·rw[vc124]
  exact(oC h (fun _ h=>⟨h_b,⟨p0,⟨p1,(oG h fun _ h=>(oL h fun _ _ h=>(oC h (fun _ h=>h) fun _ h=>(oC h (fun _ h=>⟨h_b,⟨p0,(oG h fun _ h=>(oG h fun _ h=>(oL h fun _ _ h=>h)))⟩⟩) fun _ h=>(oC h (fun _ h=>⟨h_b,⟨p0,(oG h fun _ h=>(oG h fun _ h=>(oL h fun _ _ h=>(oG h fun _ h=>(oG h fun _ h=>h)))))⟩⟩) fun _ h=>⟨h_b,⟨p0,(oG h fun _ h=>(oG h fun _ h=>(oL h fun _ _ h=>h)))⟩⟩)))))⟩⟩⟩) fun _ h=>(oC h (fun _ h=>⟨h_b,⟨p0,⟨p1,(oG h fun _ h=>(oL h fun _ _ h=>h))⟩⟩⟩) fun _ h=>(oC h (fun _ h=>⟨h_b,⟨p0,⟨p1,(oG h fun _ h=>(oL h fun _ _ h=>(oG h fun _ h=>(oG h fun _ h=>h))))⟩⟩⟩) fun _ h=>⟨h_b,⟨p0,⟨p1,(oG h fun _ h=>(oL h fun _ _ h=>h))⟩⟩⟩)))
def c144:Con:=⟨[.any,.dat aE],fun args hp K=>hpR (fun b p=>args2 (fun a0 a1=>mV a0 (eV aE a1 fun n=>(Sm TBy b)/\(M.ay b)/\(0<=p)/\(p<=998000000000000)/\(LD (M.fo b p n) fun r=>K (.data aa r.1) [(1000000,.box [.data TBy b,dI r.2])]))) args []) hp,.plain,true⟩
abbrev C144:Ctx:=cx [(76,c76),(92,c92)] 77 [] 0 false
def ann144:=an [[kp 19],[kp 51],[kp 563],[kp 51],[kp 8755],[kp 33331],[kp 33331],[kp 33331],[kp 51],[kp 33554483],[kp 51],[kp 4294967859],[kp 4294967347],[kp 51],[kp 115],[kp 549755814003],[kp 115],[kp 115],[.keep [0,4,5,54]],[.keep [0,4,5,56]],[kp 48],[kp 2377900603251621937],[kp 48],[kp 18518801667747479601],[kp 48],[.keep [0,4,5,70]],[kp 48],[kp 16]] [[kp 51],[kp 51]]
abbrev s144_0 (b:LI) (p:Int) (n:Int) (c0_0:Int) (c0_1:Int) (v0:Unit):St:=⟨[(0,.ptr 1000000 0),(1,dI n),(4,.ptr 4 0),(5,.ptr 5 0),(9,dI c0_0)],[(1000000,.box [.data TBy b,dI c0_1]),(4,.box [dI Z0,dI Z0,.data Ty.str (⟨#[]⟩:ByteArray)]),(5,.box [dI Z0,dI Z0,.data Ty.str (⟨#[]⟩:ByteArray)])]⟩
abbrev LP144_0 (b:LI) (p:Int) (n:Int) (m:Nat) (st_:St) (K:KX):Prop:=∃c0_0:Int,∃c0_1:Int,True/\di (s144_0 b p n c0_0 c0_1) (F.iG b p n c0_0 c0_1) (fun v0:Unit=>True) (fun e0:Int×Int×Int×ByteArray=>True->K (.exit 0) (⟨[(0,.ptr 1000000 0),(1,dI n),(4,.ptr 4 0),(5,.ptr 5 0)],[(1000000,.box [.data TBy b,dI e0.1]),(4,.box [dI Z0,dI Z0,.data Ty.str (⟨#[]⟩:ByteArray)]),(5,.box [dI e0.2.1,dI e0.2.2.1,.data Ty.str e0.2.2.2])]⟩:St)) m st_
abbrev s144_1 (b:LI) (p:Int) (n:Int) (v1:Int×Int×ByteArray):St:=⟨[(0,.ptr 1000000 0),(1,dI n),(4,.ptr 4 0),(5,.ptr 5 0),(6,dI v1.1)],[(1000000,.box [.data TBy b,dI v1.2.1]),(4,.box [dI Z0,dI Z0,.data Ty.str (⟨#[]⟩:ByteArray)]),(5,.box [dI Z2,dI Z0,.data Ty.str v1.2.2])]⟩
abbrev LP144_1 (b:LI) (p:Int) (n:Int) (m:Nat) (st_:St) (K:KX):Prop:=True/\di (s144_1 b p n) (F.eF b p n) (fun v1:Int×Int×ByteArray=>True) (fun e1:Int×ByteArray=>True->K (.exit 1) (⟨[(0,.ptr 1000000 0),(1,dI n),(4,.ptr 4 0),(5,.ptr 5 0)],[(1000000,.box [.data TBy b,dI e1.1]),(4,.box [dI Z0,dI Z0,.data Ty.str (⟨#[]⟩:ByteArray)]),(5,.box [dI Z2,dI Z0,.data Ty.str e1.2])]⟩:St)) m st_
def L144 (b:LI) (p:Int) (n:Int):bE:=lp2 0 (LP144_0 b p n) 1 (LP144_1 b p n)
theorem vc144 (b:LI) (p:Int) (n:Int) (K:KA):vcT C144 (L144 b p n) ann144 (si [(1000000,true)] f144) [.ptr 1000000 0,dI n] [(1000000,.box [.data TBy b,dI p])] (.dat aa) K =
 ((Sm TBy b)/\(M.ay b)/\(0<=p)/\(p<=1000000000000000)/\(LD (M.pick b p (7:Int)) fun r1=>(∃m_,∃c0_0:Int,∃c0_1:Int,True/\di (s144_0 b p n c0_0 c0_1) (F.iG b p n c0_0 c0_1) (fun v0:Unit=>True) (fun e0:Int×Int×Int×ByteArray=>True->(Sm TBy b)/\(M.ay b)/\(0<=e0.1)/\(e0.1<=999000000000000)/\(LD (M.odd b e0.1 n) fun r2=>cond r2.1 ((Sm TBy b)/\(M.ay b)/\(0<=r2.2)/\(r2.2<=1000000000000000)/\(LD (M.pick b r2.2 Z4) fun r3=>cond (decide (r3.1=Z0)) (K (.data aa (e0.2.1,((10000:Int),(e0.2.2.2,())))) [(1000000,.box [.data TBy b,dI r3.2])]) (cond (decide (r3.1=Z1)) ((e0.2.2.2.size+(⟨#[97,98,99,100,101,102,103]⟩:ByteArray).size<=9223372036854775807)/\K (.data aa (e0.2.1,(e0.2.2.1,((e0.2.2.2++(⟨#[97,98,99,100,101,102,103]⟩:ByteArray)),())))) [(1000000,.box [.data TBy b,dI r3.2])]) (cond (decide (r3.1=Z2)) ((Sm TBy b)/\(M.ay b)/\(0<=r3.2)/\(r3.2<=1000000000000000)/\(LD (M.pick b r3.2 (7:Int)) fun r4=>K (.data aa (wrap64 (r4.1-Z1),(e0.2.2.1,(e0.2.2.2,())))) [(1000000,.box [.data TBy b,dI r4.2])])) ((e0.2.2.2.size+(⟨#[65]⟩:ByteArray).size<=9223372036854775807)/\K (.data aa (e0.2.1,(e0.2.2.1,((e0.2.2.2++(⟨#[65]⟩:ByteArray)),())))) [(1000000,.box [.data TBy b,dI r3.2])]))))) (K (.data aa (e0.2.1,(e0.2.2.1,(e0.2.2.2,())))) [(1000000,.box [.data TBy b,dI r2.2])]))) m_ (s144_0 b p n r1.1 r1.2 ())))):=by kernel_rfl
abbrev S144l0_0 (b:LI) (p:Int) (n:Int) (c0_0:Int) (c0_1:Int) (v0:Unit) (m:Nat) (K:KX):Prop:=(Sm TBy b)/\(M.ay b)/\(0<=c0_1)/\(c0_1<=1000000000000000)/\(LD (M.pick b c0_1 (7:Int)) fun r5=>(Sm TBy b)/\(M.ay b)/\(0<=r5.2)/\(r5.2<=1000000000000000)/\(LD (M.pick b r5.2 (8:Int)) fun r6=>cond (decide (r6.1=Z0)) ((Sm TBy b)/\(M.ay b)/\(0<=r6.2)/\(r6.2<=1000000000000000)/\(LD (M.pick b r6.2 Z5) fun r7=>(0<=r7.1)/\(r7.1<([(9999:Int),(-9999:Int),(255:Int),(256:Int),(-256:Int)].length:Int))/\K (.exit 0) (⟨[(0,.ptr 1000000 0),(1,dI n),(4,.ptr 4 0),(5,.ptr 5 0)],[(1000000,.box [.data TBy b,dI r7.2]),(4,.box [dI Z0,dI Z0,.data Ty.str (⟨#[]⟩:ByteArray)]),(5,.box [dI Z1,dI (nI [(9999:Int),(-9999:Int),(255:Int),(256:Int),(-256:Int)] r7.1),.data Ty.str (⟨#[]⟩:ByteArray)])]⟩:St))) (K (.exit 0) (⟨[(0,.ptr 1000000 0),(1,dI n),(4,.ptr 4 0),(5,.ptr 5 0)],[(1000000,.box [.data TBy b,dI r6.2]),(4,.box [dI Z0,dI Z0,.data Ty.str (⟨#[]⟩:ByteArray)]),(5,.box [dI Z1,dI (wrap64 (r5.1-Z3)),.data Ty.str (⟨#[]⟩:ByteArray)])]⟩:St))))
abbrev S144l0_1 (b:LI) (p:Int) (n:Int) (c0_0:Int) (c0_1:Int) (v0:Unit) (m:Nat) (K:KX):Prop:=(Sm TBy b)/\(M.ay b)/\(0<=c0_1)/\(c0_1<=1000000000000000)/\(LD (M.pick b c0_1 Z4) fun r8=>(∃m_,True/\di (s144_1 b p n) (F.eF b p n) (fun v1:Int×Int×ByteArray=>True) (fun e1:Int×ByteArray=>True->K (.exit 0) (⟨[(0,.ptr 1000000 0),(1,dI n),(4,.ptr 4 0),(5,.ptr 5 0)],[(1000000,.box [.data TBy b,dI e1.1]),(4,.box [dI Z0,dI Z0,.data Ty.str (⟨#[]⟩:ByteArray)]),(5,.box [dI Z2,dI Z0,.data Ty.str e1.2])]⟩:St)) m_ (s144_1 b p n (r8.1,r8.2,(⟨#[]⟩:ByteArray)))))
abbrev S144l0_2 (b:LI) (p:Int) (n:Int) (c0_0:Int) (c0_1:Int) (v0:Unit) (m:Nat) (K:KX):Prop:=(Sm TBy b)/\(M.ay b)/\(0<=c0_1)/\(c0_1<=1000000000000000)/\(LD (M.pick b c0_1 Z2) fun r9=>K (.exit 0) (⟨[(0,.ptr 1000000 0),(1,dI n),(4,.ptr 4 0),(5,.ptr 5 0)],[(1000000,.box [.data TBy b,dI r9.2]),(4,.box [dI Z0,dI Z0,.data Ty.str (⟨#[]⟩:ByteArray)]),(5,.box [dI Z3,dI r9.1,.data Ty.str (⟨#[]⟩:ByteArray)])]⟩:St))
abbrev S144l0_3 (b:LI) (p:Int) (n:Int) (c0_0:Int) (c0_1:Int) (v0:Unit) (m:Nat) (K:KX):Prop:=cond (decide (c0_0=Z4)) (cond (decide (c0_0=Z4)) (S144l0_1  b p n c0_0 c0_1 v0 m K) (S144l0_2  b p n c0_0 c0_1 v0 m K)) (cond (decide (c0_0=Z5)) (S144l0_1  b p n c0_0 c0_1 v0 m K) (S144l0_2  b p n c0_0 c0_1 v0 m K))
theorem lvc144_0 (b:LI) (p:Int) (n:Int) (c0_0:Int) (c0_1:Int) (v0:Unit) (m:Nat) (K:KX):lvT C144 (L144 b p n) ann144 (si [(1000000,true)] f144) 0 0 (s144_0 b p n c0_0 c0_1 v0) m K =
 (cond (decide (c0_0=Z0)) (K (.exit 0) (⟨[(0,.ptr 1000000 0),(1,dI n),(4,.ptr 4 0),(5,.ptr 5 0)],[(1000000,.box [.data TBy b,dI c0_1]),(4,.box [dI Z0,dI Z0,.data Ty.str (⟨#[]⟩:ByteArray)]),(5,.box [dI Z0,dI Z0,.data Ty.str (⟨#[]⟩:ByteArray)])]⟩:St)) (cond (decide (c0_0=Z1)) (cond (decide (c0_0=Z1)) (S144l0_0  b p n c0_0 c0_1 v0 m K) (S144l0_3  b p n c0_0 c0_1 v0 m K)) (cond (decide (c0_0=Z2)) (cond (decide (c0_0=Z2)) (S144l0_0  b p n c0_0 c0_1 v0 m K) (S144l0_3  b p n c0_0 c0_1 v0 m K)) (cond (decide (c0_0=Z3)) (S144l0_0  b p n c0_0 c0_1 v0 m K) (S144l0_3  b p n c0_0 c0_1 v0 m K))))):=by kernel_rfl
theorem lvc144_1 (b:LI) (p:Int) (n:Int)  (v1:Int×Int×ByteArray) (m:Nat) (K:KX):lvT C144 (L144 b p n) ann144 (si [(1000000,true)] f144) 1 1 (s144_1 b p n v1) m K =
 (cond (decide (Z0<v1.1)) (((Sm TBy b)/\(M.ay b)/\(0<=v1.2.1)/\(v1.2.1<=1000000000000000)/\(LD (M.pick b v1.2.1 Z3) fun r10=>(v1.2.2.size+(strOf [((wrap64 ((97:Int)+r10.1)) % 256)]).size<=9223372036854775807)/\(nxT (LP144_1 b p n) m K (s144_1 b p n (wrap64 (v1.1-Z1),r10.2,(v1.2.2++(strOf [((wrap64 ((97:Int)+r10.1)) % 256)])))))))/\((Sm TBy b)/\(M.ay b)/\(0<=v1.2.1)/\(v1.2.1<=1000000000000000)/\(LD (M.pick b v1.2.1 Z3) fun r10=>Q4 ((v1.2.2.size+(strOf [((wrap64 ((97:Int)+r10.1)) % 256)]).size<=9223372036854775807)/\(nxT (LP144_1 b p n) m K (s144_1 b p n (wrap64 (v1.1-Z1),r10.2,(v1.2.2++(strOf [((wrap64 ((97:Int)+r10.1)) % 256)]))))))))) (K (.exit 1) (⟨[(0,.ptr 1000000 0),(1,dI n),(4,.ptr 4 0),(5,.ptr 5 0)],[(1000000,.box [.data TBy b,dI v1.2.1]),(4,.box [dI Z0,dI Z0,.data Ty.str (⟨#[]⟩:ByteArray)]),(5,.box [dI Z2,dI Z0,.data Ty.str v1.2.2])]⟩:St))):=by kernel_rfl
theorem con144_ok:bg P 144 c144:=HH [(1000000,true)] C144 func144 (kC con76_ok (kC con92_ok kN)) fun args hp K h0=>by
 unfold c144 at h0
 dsimp only at h0
 obtain⟨b,p,rfl,h00⟩:=fk h0
 obtain⟨a0,a1,rfl,_,h1⟩:=ck h00
 obtain⟨rfl,h2⟩:=cW h1
 obtain⟨n,rfl,h3⟩:=bw h2
 obtain⟨h_b,p0,p1,p2,hK⟩:=h3
 have h:ok (F.iR b p n) (fun r=>K (.data aa r.1) [(1000000,.box [.data TBy b,dI r.2])]):=az (F.wC b p n h_b p0 p1 p2) (hK _ rfl)
 refine⟨rfl,ann144,(L144 b p n),(.dat aa),(sw (i0:=0) (i1:=1) (by kernel_rfl) ?_ ?_),?_⟩
 ·rintro _ _ K ⟨c0_0,c0_1,hc0,v0,rfl,hv0,h⟩
  exact cast (lvc144_0 _ _ _ _ _ _ _ _).symm (cC h (fun m1 hm0 h=>(oC h (fun _ h=>((cw h :) trivial)) fun _ h=>(oC h (fun b_3 h=>(bL b_3 ⟨h_b,(oG h fun g1 h=>(oG h fun _ h=>(oG h fun _ h=>(oL h fun _ _ h=>⟨h_b,⟨g1,(oG h fun _ h=>(oG h fun _ h=>(oL h fun _ _ h=>(oC h (fun _ h=>⟨h_b,⟨g1,(oG h fun _ h=>(oG h fun _ h=>(oL h fun _ _ h=>(oG h fun _ h=>(oG h fun _ h=>((cw h :) trivial))))))⟩⟩) fun _ h=>((cw h :) trivial)))))⟩⟩))))⟩)) fun _ h=>(oC h (fun b_51 h=>(bL b_51 ⟨h_b,(oG h fun g2 h=>(oG h fun _ h=>(oG h fun _ h=>(oL h fun _ _ h=>⟨h_b,⟨g2,(oG h fun _ h=>(oG h fun _ h=>(oL h fun _ _ h=>(oC h (fun _ h=>⟨h_b,⟨g2,(oG h fun _ h=>(oG h fun _ h=>(oL h fun _ _ h=>(oG h fun _ h=>(oG h fun _ h=>((cw h :) trivial))))))⟩⟩) fun _ h=>((cw h :) trivial)))))⟩⟩))))⟩)) fun _ h=>(oC h (fun _ h=>⟨h_b,(oG h fun g3 h=>(oG h fun _ h=>(oG h fun _ h=>(oL h fun _ _ h=>⟨h_b,⟨g3,(oG h fun _ h=>(oG h fun _ h=>(oL h fun _ _ h=>(oC h (fun _ h=>⟨h_b,⟨g3,(oG h fun _ h=>(oG h fun _ h=>(oL h fun _ _ h=>(oG h fun _ h=>(oG h fun _ h=>((cw h :) trivial))))))⟩⟩) fun _ h=>((cw h :) trivial)))))⟩⟩))))⟩) fun _ h=>(oC h (fun b_74 h=>(bL b_74 ⟨h_b,(oG h fun _ h=>(oG h fun _ h=>(oG h fun _ h=>(oL h fun _ _ h=>(bV (fun m hm=>⟨trivial,hm⟩) _ rfl trivial (fy h (fun e1 h hv1=>((cw h :) trivial))))))))⟩)) fun _ h=>(oC h (fun _ h=>⟨h_b,(oG h fun _ h=>(oG h fun _ h=>(oG h fun _ h=>(oL h fun _ _ h=>(bV (fun m hm=>⟨trivial,hm⟩) _ rfl trivial (fy h (fun e1 h hv1=>((cw h :) trivial))))))))⟩) fun _ h=>⟨h_b,(oG h fun _ h=>(oG h fun _ h=>(oG h fun _ h=>(oL h fun _ _ h=>((cw h :) trivial)))))⟩))))))))
 ·rintro _ _ K ⟨hc1,v1,rfl,hv1,h⟩
  exact cast (lvc144_1 _ _ _ _ _ _).symm (cC h (fun m1 hm1 h=>(oC h (fun _ h=>((fun(g2_0:M.ay b)=>(fun(g2_1:0<=v1.2.1)=>(fun(g2_2:v1.2.1<=1000000000000000)=>(fun(g2_3:v1.2.2.size+(strOf [((wrap64 ((97:Int)+(M.pick b v1.2.1 Z3).1)) % 256)]).size<=9223372036854775807)=>⟨⟨h_b,⟨g2_0,have g4:=g2_0;⟨g2_1,have g5:=g2_1;⟨g2_2,have g6:=g2_2;(fun r10 er10=>(have g7:v1.2.2.size+(strOf [((wrap64 ((97:Int)+r10.1)) % 256)]).size<=9223372036854775807:=(by rw[er10];exact g2_3);⟨g7,(have h:=(aF (cB (aF (aF (aF h).2).2).2 r10 er10)).2;(bD (fun _ hm=>⟨hc1,hm⟩) hm1 _ rfl trivial h))⟩))⟩⟩⟩⟩,⟨h_b,⟨g2_0,have g8:=g2_0;⟨g2_1,have g9:=g2_1;⟨g2_2,have g10:=g2_2;(fun r10 er10=>(q4 (have g11:v1.2.2.size+(strOf [((wrap64 ((97:Int)+r10.1)) % 256)]).size<=9223372036854775807:=(by rw[er10];exact g2_3);⟨g11,(have h:=(aF (cB (aF (aF (aF h).2).2).2 r10 er10)).2;(bD (fun _ hm=>⟨hc1,hm⟩) hm1 _ rfl trivial h))⟩)))⟩⟩⟩⟩⟩) (aF (cB (aF (aF (aF h).2).2).2 _ rfl)).1) (aF (aF (aF h).2).2).1) (aF (aF h).2).1) (aF h).1)) fun _ h=>((cw h :) trivial))))
 ·rw[vc144]
  exact⟨h_b,⟨p0,⟨p1,(oG h fun _ h=>(oL h fun r1 _ h=>(bV (fun m hm=>⟨r1.1,r1.2,trivial,hm⟩) _ rfl trivial (fy h (fun e0 h hv0=>⟨h_b,⟨p0,(oG h fun _ h=>(oG h fun _ h=>(oL h fun _ _ h=>(oC h (fun _ h=>⟨h_b,⟨p0,(oG h fun _ h=>(oG h fun _ h=>(oL h fun _ _ h=>(oC h (fun _ h=>h) fun _ h=>(oC h (fun _ h=>(oG h fun _ h=>h)) fun _ h=>(oC h (fun _ h=>⟨h_b,⟨p0,(oG h fun _ h=>(oG h fun _ h=>(oL h fun _ _ h=>h)))⟩⟩) fun _ h=>(oG h fun _ h=>h)))))))⟩⟩) fun _ h=>h))))⟩⟩)))))⟩⟩⟩
def c93:Con:=⟨[.any,.dat TCS,.dat aE],fun args hp K=>hpR (fun b p=>uM (fun a0 a1 a2=>mV a0 (eV TCS a1 fun columns=>eV aE a2 fun n=>(Sm TBy b)/\(Sm TCS columns)/\(M.ay b)/\(0<=p)/\(p<=997000000000000)/\(LD (M.mD b p columns n) fun r=>K (.own 0 none) [(0,.arr false aa r.1),(1000000,.box [.data TBy b,dI r.2])]))) args []) hp,.plain,true⟩
abbrev C93:Ctx:=cx [(76,c76),(92,c92),(124,c124),(144,c144)] 59 [] 0 false
def ann93:=an [[kp 7],[kp 135],[kp 391],[kp 8583],[kp 391],[kp 391],[kp 134217857],[kp 536871041],[kp 128],[kp 550292684929],[kp 128],[.keep [0,7,45]],[.keep [0,7,49]],[kp 128],[kp 64]] [[kp 133]]
abbrev s93_0 (b:LI) (p:Int) (columns:LC) (n:Int) (i0:Int) (v0:Int×LV):St:=⟨[(0,.ptr 1000000 0),(1,.data TCS columns),(2,dI n),(7,.own 9 none),(8,dI i0)],[(1000000,.box [.data TBy b,dI v0.1]),(9,.arr false aa v0.2)]⟩
abbrev LP93_0 (b:LI) (p:Int) (columns:LC) (n:Int) (m:Nat) (st_:St) (K:KX):Prop:=True/\bF (t:=ag) (s93_0 b p columns n) columns (F.jy b p columns n) (fun v0:Int×LV=>True) (br (fun v0:Int×LV=>True->K (.exit 0) (⟨[(0,.ptr 1000000 0),(2,dI n),(7,.own 9 none)],[(1000000,.box [.data TBy b,dI v0.1]),(9,.arr false aa v0.2)]⟩:St)) (fun _=>False)) m st_
def L93 (b:LI) (p:Int) (columns:LC) (n:Int):bE:=lp1 0 (LP93_0 b p columns n)
theorem vc93 (b:LI) (p:Int) (columns:LC) (n:Int) (K:KA):vcT C93 (L93 b p columns n) ann93 f93 [.ptr 1000000 0,.data TCS columns,dI n] [(1000000,.box [.data TBy b,dI p])] .raw K =
 (∃m_,True/\bF (t:=ag) (s93_0 b p columns n) columns (F.jy b p columns n) (fun v0:Int×LV=>True) (br (fun v0:Int×LV=>True->(Sm TBy b)/\(M.ay b)/\(0<=v0.1)/\(v0.1<=999000000000000)/\(LD (M.odd b v0.1 n) fun r1=>cond r1.1 ((Sm TBy b)/\(M.ay b)/\(0<=r1.2)/\(r1.2<=1000000000000000)/\(LD (M.pick b r1.2 Z3) fun r2=>cond (decide (r2.1=Z0)) (((v0.2.length+([(Z0,(Z0,((⟨#[]⟩:ByteArray),())))]:List aa.D).length) * 32<=lim)/\K (.own 0 none) [(0,.arr false aa (v0.2++[(Z0,(Z0,((⟨#[]⟩:ByteArray),())))])),(1000000,.box [.data TBy b,dI r2.2])]) (cond (decide (r2.1=Z1)) (cond (decide (Z0<(v0.2.length:Int))) ((Sm TBy b)/\(M.ay b)/\(0<=r2.2)/\(r2.2<=1000000000000000)/\(LD (M.pick b r2.2 (v0.2.length:Int)) fun r3=>(Sm TBy b)/\(M.ay b)/\(0<=r3.2)/\(r3.2<=998000000000000)/\(LD (M.fo b r3.2 Z3) fun r4=>(0<=r3.1)/\(r3.1<(v0.2.length:Int))/\K (.own 0 none) [(0,.arr false aa (v0.2.set r3.1.toNat r4.1)),(1000000,.box [.data TBy b,dI r4.2])]))) (K (.own 0 none) [(0,.arr false aa v0.2),(1000000,.box [.data TBy b,dI r2.2])])) ((Sm TBy b)/\(M.ay b)/\(0<=r2.2)/\(r2.2<=998000000000000)/\(LD (M.fo b r2.2 Z0) fun r5=>(Sm TBy b)/\(M.ay b)/\(0<=r5.2)/\(r5.2<=998000000000000)/\(LD (M.fo b r5.2 Z0) fun r6=>(Sm TBy b)/\(M.ay b)/\(0<=r6.2)/\(r6.2<=998000000000000)/\(LD (M.fo b r6.2 Z0) fun r7=>((v0.2.length+[r5.1,r6.1,r7.1].length) * 32<=lim)/\K (.own 0 none) [(0,.arr false aa (v0.2++[r5.1,r6.1,r7.1])),(1000000,.box [.data TBy b,dI r7.2])]))))))) (K (.own 0 none) [(0,.arr false aa v0.2),(1000000,.box [.data TBy b,dI r1.2])]))) (fun _=>False)) m_ (s93_0 b p columns n Z0 (p,[]))):=by kernel_rfl
theorem lvc93_0 (b:LI) (p:Int) (columns:LC) (n:Int)  (i0:Int) (v0:Int×LV) (m:Nat) (K:KX):lvT C93 (L93 b p columns n) ann93 f93 0 0 (s93_0 b p columns n i0 v0) m K =
 (cond (decide (i0<(columns.length:Int))) ((0<=i0)/\(i0<(columns.length:Int))/\(Sm TBy b)/\(M.ay b)/\(0<=v0.1)/\(v0.1<=998000000000000)/\(LD (M.kq b v0.1 (nC columns i0)) fun r8=>((v0.2.length+[r8.1].length) * 32<=lim)/\(nxT (LP93_0 b p columns n) m K (s93_0 b p columns n (wrap64 (i0+Z1)) (r8.2,(v0.2++[r8.1])))))) (K (.exit 0) (⟨[(0,.ptr 1000000 0),(2,dI n),(7,.own 9 none)],[(1000000,.box [.data TBy b,dI v0.1]),(9,.arr false aa v0.2)]⟩:St))):=by kernel_rfl
theorem con93_ok:bg P 93 c93:=bq C93 func93 (kC con76_ok (kC con92_ok (kC con124_ok (kC con144_ok kN)))) fun args hp K h0=>by
 unfold c93 at h0
 dsimp only at h0
 obtain⟨b,p,rfl,h00⟩:=fk h0
 obtain⟨a0,a1,a2,rfl,_,h1⟩:=jk h00
 obtain⟨rfl,h2⟩:=cW h1
 obtain⟨columns,rfl,h3⟩:=bw h2
 obtain⟨n,rfl,h4⟩:=bw h3
 obtain⟨h_b,h_columns,p0,p1,p2,hK⟩:=h4
 have h:ok (F.kX b p columns n) (fun r=>K (.own 0 none) [(0,.arr false aa r.1),(1000000,.box [.data TBy b,dI r.2])]):=az (F.zw b p columns n h_b h_columns p0 p1 p2) (hK _ rfl)
 refine⟨rfl,ann93,(L93 b p columns n),.raw,(bA (i0:=0) (by kernel_rfl) ?_),?_⟩
 ·rintro _ _ K ⟨hc0,i0,v0,rfl,hl0,rfl,hv0,h⟩
  exact cast (lvc93_0 _ _ _ _ _ _ _ _).symm (bf (t:=ag) hl0 h (fun ht0 h=>⟨hl0,⟨ht0,⟨h_b,(oG h fun _ h=>(oG h fun _ h=>(oG h fun _ h=>(oL h fun _ _ h=>(oG h fun _ h=>(aQ (t:=ag) (fun _ hm=>⟨hc0,hm⟩) _ rfl hl0 ht0 (aZ h_columns) trivial h))))))⟩⟩⟩) fun h=>(h trivial))
 ·rw[vc93]
  exact(aR (t:=ag) (fun m hm=>⟨trivial,hm⟩) _ rfl trivial (aU h (fun v0 h hv0=>⟨h_b,⟨p0,(oG h fun _ h=>(oG h fun _ h=>(oL h fun _ _ h=>(oC h (fun _ h=>⟨h_b,⟨p0,(oG h fun _ h=>(oG h fun _ h=>(oL h fun _ _ h=>(oC h (fun _ h=>(oG h fun _ h=>h)) fun _ h=>(oC h (fun _ h=>(oC h (fun _ h=>⟨h_b,⟨p0,(oG h fun _ h=>(oG h fun _ h=>(oL h fun _ _ h=>⟨h_b,⟨p0,(oG h fun _ h=>(oG h fun _ h=>(oL h fun _ _ h=>(oG h fun _ h=>(oG h fun _ h=>h)))))⟩⟩)))⟩⟩) fun _ h=>h)) fun _ h=>⟨h_b,⟨p0,(oG h fun _ h=>(oG h fun _ h=>(oL h fun _ _ h=>⟨h_b,⟨p0,(oG h fun _ h=>(oG h fun _ h=>(oL h fun _ _ h=>⟨h_b,⟨p0,(oG h fun _ h=>(oG h fun _ h=>(oL h fun _ _ h=>(oG h fun _ h=>h))))⟩⟩)))⟩⟩)))⟩⟩)))))⟩⟩) fun _ h=>h))))⟩⟩) (fun _ h=>h.elim)))
def c94:Con:=⟨[.dat TVS],fun args hp K=>g1 (pD TVS) (fun row=>(Sm TVS row)/\(LD row fun r=>K (.own 0 none) [(0,.arr false aa r)])) args hp,.plain,false⟩
abbrev C94:Ctx:=cx [] 6 [] 0 false
def ann94:=an [[kp 1],[kp 4]] []
theorem vc94 (row:LV) (K:KA):vcT C94 aA ann94 f94 [.data TVS row] [] .raw K =
 (((([]:List aa.D).length+row.length) * 32<=lim)/\K (.own 0 none) [(0,.arr false aa ([]++row))]):=by kernel_rfl
theorem con94_ok:bg P 94 c94:=bq C94 func94 kN fun args hp K h0=>by
 obtain⟨row,rfl,rfl,h_row,hK⟩:=g1e h0
 have h:ok (F.AH row) (fun r=>K (.own 0 none) [(0,.arr false aa r)]):=az (F.Bo row h_row) (hK _ rfl)
 refine⟨rfl,ann94,aA,.raw,(aG (by kernel_rfl)),?_⟩
 ·rw[vc94]
  exact⟨(kG (fY aa) h_row rfl),h⟩
def c123:Con:=⟨[.any,.dat TCS,.dat aE],fun args hp K=>hpR (fun b p=>uM (fun a0 a1 a2=>mV a0 (eV TCS a1 fun c=>eV aE a2 fun n=>(Sm TBy b)/\(Sm TCS c)/\(M.ay b)/\(0<=p)/\(p<=996000000000000)/\(c.length<=6)/\(LD (M.qv b p c n) fun r=>K (.own 0 none) [(0,.arr false TVS r.1),(1000000,.box [.data TBy b,dI r.2])]))) args []) hp,.plain,true⟩
abbrev C123:Ctx:=cx [(76,c76),(93,c93),(94,c94)] 43 [] 0 false
def ann123:=an [[kp 7],[kp 135],[kp 391],[kp 8583],[kp 391],[kp 8388999],[kp 391],[kp 391],[kp 64]] [[kp 128]]
abbrev s123_0 (b:LI) (p:Int) (c:LC) (n:Int) (v0:Int×Int×(List LV)):St:=⟨[(0,.ptr 1000000 0),(1,.data TCS c),(2,dI n),(7,.own 9 none),(8,dI v0.1)],[(1000000,.box [.data TBy b,dI v0.2.1]),(9,.arr false TVS v0.2.2)]⟩
abbrev LP123_0 (b:LI) (p:Int) (c:LC) (n:Int) (m:Nat) (st_:St) (K:KX):Prop:=True/\di (s123_0 b p c n) (F.jD b p c n) (fun v0:Int×Int×(List LV)=>True) (fun e0:Int×(List LV)=>True->K (.exit 0) (⟨[(7,.own 9 none)],[(1000000,.box [.data TBy b,dI e0.1]),(9,.arr false TVS e0.2)]⟩:St)) m st_
def L123 (b:LI) (p:Int) (c:LC) (n:Int):bE:=lp1 0 (LP123_0 b p c n)
theorem vc123 (b:LI) (p:Int) (c:LC) (n:Int) (K:KA):vcT C123 (L123 b p c n) ann123 f123 [.ptr 1000000 0,.data TCS c,dI n] [(1000000,.box [.data TBy b,dI p])] .raw K =
 ((Sm TBy b)/\(M.ay b)/\(0<=p)/\(p<=1000000000000000)/\(LD (M.pick b p (7:Int)) fun r1=>(∃m_,True/\di (s123_0 b p c n) (F.jD b p c n) (fun v0:Int×Int×(List LV)=>True) (fun e0:Int×(List LV)=>True->K (.own 0 none) [(0,.arr false TVS e0.2),(1000000,.box [.data TBy b,dI e0.1])]) m_ (s123_0 b p c n (r1.1,r1.2,[]))))):=by kernel_rfl
theorem lvc123_0 (b:LI) (p:Int) (c:LC) (n:Int)  (v0:Int×Int×(List LV)) (m:Nat) (K:KX):lvT C123 (L123 b p c n) ann123 f123 0 0 (s123_0 b p c n v0) m K =
 (cond (decide (Z0<v0.1)) (cond ((decide (Z0<(v0.2.2.length:Int)))==true) ((Sm TBy b)/\(M.ay b)/\(0<=v0.2.1)/\(v0.2.1<=1000000000000000)/\(LD (M.pick b v0.2.1 Z3) fun r2=>cond (decide (r2.1=Z0)) ((Sm TBy b)/\(M.ay b)/\(0<=r2.2)/\(r2.2<=1000000000000000)/\(LD (M.pick b r2.2 (v0.2.2.length:Int)) fun r3=>(0<=r3.1)/\(r3.1<(v0.2.2.length:Int))/\(Sm TVS (nth (t:=TVS) v0.2.2 r3.1))/\(LD (nth (t:=TVS) v0.2.2 r3.1) fun r4=>((v0.2.2.length+[r4].length) * 24<=lim)/\(nxT (LP123_0 b p c n) m K (s123_0 b p c n (wrap64 (v0.1-Z1),r3.2,(v0.2.2++[r4]))))))) ((Sm TBy b)/\(Sm TCS c)/\(M.ay b)/\(0<=r2.2)/\(r2.2<=997000000000000)/\(LD (M.mD b r2.2 c n) fun r5=>((v0.2.2.length+[r5.1].length) * 24<=lim)/\(nxT (LP123_0 b p c n) m K (s123_0 b p c n (wrap64 (v0.1-Z1),r5.2,(v0.2.2++[r5.1])))))))) ((Sm TBy b)/\(Sm TCS c)/\(M.ay b)/\(0<=v0.2.1)/\(v0.2.1<=997000000000000)/\(LD (M.mD b v0.2.1 c n) fun r5=>((v0.2.2.length+[r5.1].length) * 24<=lim)/\(nxT (LP123_0 b p c n) m K (s123_0 b p c n (wrap64 (v0.1-Z1),r5.2,(v0.2.2++[r5.1]))))))) (K (.exit 0) (⟨[(7,.own 9 none)],[(1000000,.box [.data TBy b,dI v0.2.1]),(9,.arr false TVS v0.2.2)]⟩:St))):=by kernel_rfl
theorem con123_ok:bg P 123 c123:=bq C123 func123 (kC con76_ok (kC con93_ok (kC con94_ok kN))) fun args hp K h0=>by
 unfold c123 at h0
 dsimp only at h0
 obtain⟨b,p,rfl,h00⟩:=fk h0
 obtain⟨a0,a1,a2,rfl,_,h1⟩:=jk h00
 obtain⟨rfl,h2⟩:=cW h1
 obtain⟨c,rfl,h3⟩:=bw h2
 obtain⟨n,rfl,h4⟩:=bw h3
 obtain⟨h_b,h_c,p0,p1,p2,p3,hK⟩:=h4
 have h:ok (F.lg b p c n) (fun r=>K (.own 0 none) [(0,.arr false TVS r.1),(1000000,.box [.data TBy b,dI r.2])]):=az (F.Az b p c n h_b h_c p0 p1 p2 p3) (hK _ rfl)
 refine⟨rfl,ann123,(L123 b p c n),.raw,(bA (i0:=0) (by kernel_rfl) ?_),?_⟩
 ·rintro _ _ K ⟨hc0,v0,rfl,hv0,h⟩
  exact cast (lvc123_0 _ _ _ _ _ _ _).symm (cC h (fun m1 hm0 h=>(oC h (fun _ h=>(oC h (fun _ h=>⟨h_b,(oG h fun g1 h=>(oG h fun _ h=>(oG h fun _ h=>(oL h fun _ _ h=>(oC h (fun _ h=>⟨h_b,⟨g1,(oG h fun _ h=>(oG h fun _ h=>(oL h fun _ _ h=>(oG h fun _ h=>(oG h fun _ h=>(oG h fun _ h=>(oL h fun _ _ h=>(oG h fun _ h=>(bD (fun _ hm=>⟨hc0,hm⟩) hm0 _ rfl trivial h)))))))))⟩⟩) fun _ h=>⟨h_b,⟨h_c,⟨g1,(oG h fun _ h=>(oG h fun _ h=>(oL h fun _ _ h=>(oG h fun _ h=>(bD (fun _ hm=>⟨hc0,hm⟩) hm0 _ rfl trivial h)))))⟩⟩⟩)))))⟩) fun _ h=>⟨h_b,⟨h_c,(oG h fun _ h=>(oG h fun _ h=>(oG h fun _ h=>(oL h fun _ _ h=>(oG h fun _ h=>(bD (fun _ hm=>⟨hc0,hm⟩) hm0 _ rfl trivial h))))))⟩⟩)) fun _ h=>((cw h :) trivial))))
 ·rw[vc123]
  exact⟨h_b,⟨p0,⟨p1,(oG h fun _ h=>(oL h fun _ _ h=>(bV (fun m hm=>⟨trivial,hm⟩) _ rfl trivial (fy h (fun e0 h hv0=>h)))))⟩⟩⟩
def c74:Con:=⟨[.any,.dat aE],fun args hp K=>hpR (fun b p=>args2 (fun a0 a1=>mV a0 (eV aE a1 fun n=>(Sm TBy b)/\(M.ay b)/\(0<=p)/\(p<=995000000000000)/\(n=0)/\(LD (M.gy b p n) fun r=>K (.own 0 none) [(0,.arr false aq r.1),(1000000,.box [.data TBy b,dI r.2])]))) args []) hp,.plain,true⟩
abbrev C74:Ctx:=cx [(76,c76),(92,c92),(122,c122),(123,c123)] 73 [] 0 false
def ann74:=an [[kp 3],[kp 35],[kp 99],[kp 16483],[kp 99],[kp 227],[kp 227],[.fixRow 8 aq,kp 355],[kp 99],[.keep [5,38]],[],[],[],[],[],[],[kp 16]] [[kp 35]]
abbrev s74_0 (b:LI) (p:Int) (n:Int) (v0:Int×Int×LTb):St:=⟨[(0,.ptr 1000000 0),(1,dI n),(5,.own 9 none),(6,dI v0.1)],[(1000000,.box [.data TBy b,dI v0.2.1]),(9,.arr false aq v0.2.2)]⟩
abbrev LP74_0 (b:LI) (p:Int) (n:Int) (m:Nat) (st_:St) (K:KX):Prop:=True/\di (s74_0 b p n) (F.gI b p n) (fun v0:Int×Int×LTb=>True) (fun e0:Int×LTb=>True->K (.exit 0) (⟨[(0,.ptr 1000000 0),(1,dI n),(5,.own 9 none)],[(1000000,.box [.data TBy b,dI e0.1]),(9,.arr false aq e0.2)]⟩:St)) m st_
def L74 (b:LI) (p:Int) (n:Int):bE:=lp1 0 (LP74_0 b p n)
theorem vc74 (b:LI) (p:Int) (n:Int) (K:KA):vcT C74 (L74 b p n) ann74 (si [(38,true)] f74) [.ptr 1000000 0,dI n] [(1000000,.box [.data TBy b,dI p])] .raw K =
 ((Sm TBy b)/\(M.ay b)/\(0<=p)/\(p<=1000000000000000)/\(LD (M.pick b p Z3) fun r1=>(∃m_,True/\di (s74_0 b p n) (F.gI b p n) (fun v0:Int×Int×LTb=>True) (fun e0:Int×LTb=>True->(Sm TBy b)/\(M.ay b)/\(0<=e0.1)/\(e0.1<=999000000000000)/\(LD (M.odd b e0.1 n) fun r2=>cond r2.1 False (K (.own 0 none) [(0,.arr false aq e0.2),(1000000,.box [.data TBy b,dI r2.2])]))) m_ (s74_0 b p n (wrap64 (Z1+r1.1),r1.2,[]))))):=by kernel_rfl
theorem lvc74_0 (b:LI) (p:Int) (n:Int)  (v0:Int×Int×LTb) (m:Nat) (K:KX):lvT C74 (L74 b p n) ann74 (si [(38,true)] f74) 0 0 (s74_0 b p n v0) m K =
 (cond (decide (Z0<v0.1)) ((Sm TBy b)/\(M.ay b)/\(0<=v0.2.1)/\(v0.2.1<=998000000000000)/\(LD (M.gb b v0.2.1 Z0) fun r3=>(Sm TBy b)/\(M.ay b)/\(0<=r3.2)/\(r3.2<=1000000000000000)/\(LD (M.pick b r3.2 Z2) fun r4=>((r3.1.length:Int)≠0)/\(0<=Z0)/\(Z0<=wrap64 (Z1+(r4.1.tmod (r3.1.length:Int))))/\(wrap64 (Z1+(r4.1.tmod (r3.1.length:Int)))<=(r3.1.length:Int))/\(wrap64 (Z1+(r4.1.tmod (r3.1.length:Int)))=wrap64 (Z1+(r4.1.tmod (r3.1.length:Int))))/\(Sm TBy b)/\(Sm TCS (aj r3.1 (some (Z0,wrap64 (Z1+(r4.1.tmod (r3.1.length:Int)))))))/\(M.ay b)/\(0<=r4.2)/\(r4.2<=996000000000000)/\((aj r3.1 (some (Z0,wrap64 (Z1+(r4.1.tmod (r3.1.length:Int)))))).length<=6)/\(LD (M.qv b r4.2 (aj r3.1 (some (Z0,wrap64 (Z1+(r4.1.tmod (r3.1.length:Int)))))) Z0) fun r5=>((v0.2.2.length+[((aj r3.1 (some (Z0,wrap64 (Z1+(r4.1.tmod (r3.1.length:Int)))))),(r5.1,()))].length) * 48<=lim)/\(nxT (LP74_0 b p n) m K (s74_0 b p n (wrap64 (v0.1-Z1),r5.2,(v0.2.2++[((aj r3.1 (some (Z0,wrap64 (Z1+(r4.1.tmod (r3.1.length:Int)))))),(r5.1,()))])))))))) (K (.exit 0) (⟨[(0,.ptr 1000000 0),(1,dI n),(5,.own 9 none)],[(1000000,.box [.data TBy b,dI v0.2.1]),(9,.arr false aq v0.2.2)]⟩:St))):=by kernel_rfl
theorem con74_ok:bg P 74 c74:=HH [(38,true)] C74 func74 (kC con76_ok (kC con92_ok (kC con122_ok (kC con123_ok kN)))) fun args hp K h0=>by
 unfold c74 at h0
 dsimp only at h0
 obtain⟨b,p,rfl,h00⟩:=fk h0
 obtain⟨a0,a1,rfl,_,h1⟩:=ck h00
 obtain⟨rfl,h2⟩:=cW h1
 obtain⟨n,rfl,h3⟩:=bw h2
 obtain⟨h_b,p0,p1,p2,p3,hK⟩:=h3
 have h:ok (F.gT b p n) (fun r=>K (.own 0 none) [(0,.arr false aq r.1),(1000000,.box [.data TBy b,dI r.2])]):=az (F.uO b p n h_b p0 p1 p2 p3) (hK _ rfl)
 refine⟨rfl,ann74,(L74 b p n),.raw,(bA (i0:=0) (by kernel_rfl) ?_),?_⟩
 ·rintro _ _ K ⟨hc0,v0,rfl,hv0,h⟩
  exact cast (lvc74_0 _ _ _ _ _ _).symm (cC h (fun m1 hm0 h=>(oC h (fun _ h=>⟨h_b,(oG h fun g1 h=>(oG h fun _ h=>(oG h fun _ h=>(oL h fun _ _ h=>⟨h_b,⟨g1,(oG h fun _ h=>(oG h fun _ h=>(oL h fun _ _ h=>(oG h fun _ h=>⟨(Int.natCast_nonneg 0),(oG h fun _ h=>(oG h fun _ h=>⟨rfl,⟨h_b,(oG h fun _ h=>⟨g1,(oG h fun _ h=>(oG h fun _ h=>(oG h fun _ h=>(oL h fun _ _ h=>(oG h fun _ h=>(bD (fun _ hm=>⟨hc0,hm⟩) hm0 _ rfl trivial h))))))⟩)⟩⟩))⟩))))⟩⟩))))⟩) fun _ h=>((cw h :) trivial))))
 ·rw[vc74]
  exact⟨h_b,⟨p0,⟨p1,(oG h fun _ h=>(oL h fun _ _ h=>(bV (fun m hm=>⟨trivial,hm⟩) _ rfl trivial (fy h (fun e0 h hv0=>⟨h_b,⟨p0,(oG h fun _ h=>(oG h fun _ h=>(oL h fun _ _ h=>(oC h (fun _ h=>h) fun _ h=>h))))⟩⟩)))))⟩⟩⟩
def c77:Con:=⟨[.any,.dat TCS,.dat aE],fun args hp K=>hpR (fun b p=>uM (fun a0 a1 a2=>mV a0 (eV TCS a1 fun columns=>eV aE a2 fun kind=>(Sm TBy b)/\(Sm TCS columns)/\(M.ay b)/\(0<=p)/\(p<=997000000000000)/\(LD (M.dL b p columns kind) fun r=>K (.data aC r.1) [(1000000,.box [.data TBy b,dI r.2])]))) args []) hp,.plain,true⟩
abbrev C77:Ctx:=cx [(76,c76),(124,c124)] 41 [] 0 false
def ann77:=an [[kp 71],[kp 199],[kp 32967],[kp 199],[kp 455],[kp 8589935047],[kp 64],[kp 64]] [[kp 69]]
abbrev s77_0 (b:LI) (p:Int) (columns:LC) (kind:Int) (v0:Int×Int):St:=⟨[(0,.ptr 1000000 0),(1,.data TCS columns),(2,dI kind),(6,.ptr 6 0),(7,dI v0.1)],[(1000000,.box [.data TBy b,dI v0.2]),(6,.box [dI Z0,dI Z0,dI Z0,dI Z0,.data Ty.str (⟨#[]⟩:ByteArray)])]⟩
abbrev LP77_0 (b:LI) (p:Int) (columns:LC) (kind:Int) (m:Nat) (st_:St) (K:KX):Prop:=True/\di (s77_0 b p columns kind) (F.jg b p columns kind) (fun v0:Int×Int=>True) (br (fun e0:Int=>True->K (.exit 0) (⟨[(0,.ptr 1000000 0),(2,dI kind),(6,.ptr 6 0)],[(1000000,.box [.data TBy b,dI e0]),(6,.box [dI Z0,dI Z0,dI Z0,dI Z0,.data Ty.str (⟨#[]⟩:ByteArray)])]⟩:St)) (fun q0:Int×Int=>K .ret (⟨[(6,.ptr 6 0)],[(1000000,.box [.data TBy b,dI q0.1]),(6,.box [dI Z2,dI q0.2,dI Z0,dI Z0,.data Ty.str (⟨#[]⟩:ByteArray)])]⟩:St))) m st_
def L77 (b:LI) (p:Int) (columns:LC) (kind:Int):bE:=lp1 0 (LP77_0 b p columns kind)
theorem vc77 (b:LI) (p:Int) (columns:LC) (kind:Int) (K:KA):vcT C77 (L77 b p columns kind) ann77 f77 [.ptr 1000000 0,.data TCS columns,dI kind] [(1000000,.box [.data TBy b,dI p])] (.dat aC) K =
 (∃m_,True/\di (s77_0 b p columns kind) (F.jg b p columns kind) (fun v0:Int×Int=>True) (br (fun e0:Int=>True->(Sm TBy b)/\(M.ay b)/\(0<=e0)/\(e0<=998000000000000)/\(LD (M.kq b e0 (kind,(false,()))) fun r1=>K (.data aC (Z1,(Z0,(r1.1,())))) [(1000000,.box [.data TBy b,dI r1.2])])) (fun q0:Int×Int=>K (.data aC (Z2,(q0.2,((Z0,(Z0,((⟨#[]⟩:ByteArray),()))),())))) [(1000000,.box [.data TBy b,dI q0.1])])) m_ (s77_0 b p columns kind (Z0,p))):=by kernel_rfl
abbrev S77l0_0 (b:LI) (p:Int) (columns:LC) (kind:Int)  (v0:Int×Int) (m:Nat) (K:KX):Prop:=K (.exit 0) (⟨[(0,.ptr 1000000 0),(2,dI kind),(6,.ptr 6 0)],[(1000000,.box [.data TBy b,dI v0.2]),(6,.box [dI Z0,dI Z0,dI Z0,dI Z0,.data Ty.str (⟨#[]⟩:ByteArray)])]⟩:St)
theorem lvc77_0 (b:LI) (p:Int) (columns:LC) (kind:Int)  (v0:Int×Int) (m:Nat) (K:KX):lvT C77 (L77 b p columns kind) ann77 f77 0 0 (s77_0 b p columns kind v0) m K =
 (cond ((decide (v0.1<Z4))==true) (cond (decide (Z0<(columns.length:Int))) ((Sm TBy b)/\(M.ay b)/\(0<=v0.2)/\(v0.2<=1000000000000000)/\(LD (M.pick b v0.2 (columns.length:Int)) fun r2=>(0<=r2.1)/\(r2.1<(columns.length:Int))/\cond ((decide ((nC columns r2.1).1=kind))==true) ((Sm TBy b)/\(M.ay b)/\(0<=r2.2)/\(r2.2<=1000000000000000)/\(LD (M.pick b r2.2 Z3) fun r3=>cond (decide (Z0<r3.1)) (K .ret (⟨[(6,.ptr 6 0)],[(1000000,.box [.data TBy b,dI r3.2]),(6,.box [dI Z2,dI r2.1,dI Z0,dI Z0,.data Ty.str (⟨#[]⟩:ByteArray)])]⟩:St)) (nxT (LP77_0 b p columns kind) m K (s77_0 b p columns kind (wrap64 (v0.1+Z1),r3.2))))) (nxT (LP77_0 b p columns kind) m K (s77_0 b p columns kind (wrap64 (v0.1+Z1),r2.2))))) (S77l0_0  b p columns kind v0 m K)) (S77l0_0  b p columns kind v0 m K)):=by kernel_rfl
theorem con77_ok:bg P 77 c77:=bq C77 func77 (kC con76_ok (kC con124_ok kN)) fun args hp K h0=>by
 unfold c77 at h0
 dsimp only at h0
 obtain⟨b,p,rfl,h00⟩:=fk h0
 obtain⟨a0,a1,a2,rfl,_,h1⟩:=jk h00
 obtain⟨rfl,h2⟩:=cW h1
 obtain⟨columns,rfl,h3⟩:=bw h2
 obtain⟨kind,rfl,h4⟩:=bw h3
 obtain⟨h_b,h_columns,p0,p1,p2,hK⟩:=h4
 have h:ok (F.jx b p columns kind) (fun r=>K (.data aC r.1) [(1000000,.box [.data TBy b,dI r.2])]):=az (F.yK b p columns kind h_b h_columns p0 p1 p2) (hK _ rfl)
 refine⟨rfl,ann77,(L77 b p columns kind),(.dat aC),(bA (i0:=0) (by kernel_rfl) ?_),?_⟩
 ·rintro _ _ K ⟨hc0,v0,rfl,hv0,h⟩
  exact cast (lvc77_0 _ _ _ _ _ _ _).symm (cC h (fun m1 hm0 h=>(oC h (fun _ h=>(oC h (fun _ h=>⟨h_b,(oG h fun g1 h=>(oG h fun _ h=>(oG h fun _ h=>(oL h fun _ _ h=>(oG h fun _ h=>(oG h fun _ h=>(oC h (fun _ h=>⟨h_b,⟨g1,(oG h fun _ h=>(oG h fun _ h=>(oL h fun _ _ h=>(oC h (fun _ h=>h) fun _ h=>(bD (fun _ hm=>⟨hc0,hm⟩) hm0 _ rfl trivial h)))))⟩⟩) fun _ h=>(bD (fun _ hm=>⟨hc0,hm⟩) hm0 _ rfl trivial h))))))))⟩) fun _ h=>((cw h :) trivial))) fun _ h=>((cw h :) trivial))))
 ·rw[vc77]
  exact(bV (fun m hm=>⟨trivial,hm⟩) _ rfl trivial (aU h (fun e0 h hv0=>⟨h_b,⟨p0,(oG h fun _ h=>(oG h fun _ h=>(oL h fun _ _ h=>h)))⟩⟩) (fun q0 h=>h)))
def c35r (n_:Nat):Con:=⟨[.any,.dat TCS,.dat aE,.dat aE],fun args hp K=>hpR (fun b p=>FT (fun a0 a1 a2 a3=>mV a0 (eV TCS a1 fun columns=>eV aE a2 fun kind=>eV aE a3 fun deep=>(Sm TBy b)/\(Sm TCS columns)/\(M.ay b)/\(0<=p)/\(p+40 * (M.eB deep:Int)<=996000000000000)/\(deep<=3)/\(deep.toNat<n_)/\(LD (M.bG n_ b p columns kind deep) fun r=>K (.own 0 none) [(0,.arr false aC r.1),(1000000,.box [.data TBy b,dI r.2])]))) args []) hp,.plain,true⟩
abbrev C35 (n_:Nat):Ctx:=cx [(76,c76),(77,c77),(35,c35r n_)] 111 [] 0 false
def ann35:=an [[kp 15],[kp 65551],[kp 256],[kp 8388623],[kp 256],[kp 1099511627791],[kp 256],[kp 140737488355339],[kp 422212465065995],[kp 256],[.keep [0,1,3,47,67]],[kp 256],[.keep [0,1,3,77]],[kp 256],[kp 523],[kp 256]] []
theorem vc35 (n_:Nat) (b:LI) (p:Int) (columns:LC) (kind:Int) (deep:Int) (K:KA):vcT (C35 n_) aA ann35 f35 [.ptr 1000000 0,.data TCS columns,dI kind,dI deep] [(1000000,.box [.data TBy b,dI p])] .raw K =
 (cond ((decide (deep<Z1))==false) ((Sm TBy b)/\(M.ay b)/\(0<=p)/\(p<=1000000000000000)/\(LD (M.pick b p Z4) fun r1=>cond (decide (r1.1=Z0)) ((Sm TBy b)/\(Sm TCS columns)/\(M.ay b)/\(0<=r1.2)/\(r1.2<=997000000000000)/\(LD (M.dL b r1.2 columns kind) fun r2=>K (.own 0 none) [(0,.arr false aC [r2.1]),(1000000,.box [.data TBy b,dI r2.2])])) (cond (decide (kind=Z1)) ((Sm TBy b)/\(Sm TCS columns)/\(M.ay b)/\(0<=r1.2)/\(r1.2+40 * (M.eB (wrap64 (deep-Z1)):Int)<=996000000000000)/\((wrap64 (deep-Z1))<=3)/\((wrap64 (deep-Z1)).toNat<n_)/\(LD (M.bG n_ b r1.2 columns kind (wrap64 (deep-Z1))) fun r3=>(Sm TBy b)/\(Sm TCS columns)/\(M.ay b)/\(0<=r3.2)/\(r3.2<=997000000000000)/\(LD (M.dL b r3.2 columns kind) fun r4=>((r3.1.length+[r4.1].length) * 48<=lim)/\(((r3.1++[r4.1]).length+([(Z3,(Z0,((Z0,(Z0,((⟨#[]⟩:ByteArray),()))),())))]:List aC.D).length) * 48<=lim)/\K (.own 0 none) [(0,.arr false aC ((r3.1++[r4.1])++[(Z3,(Z0,((Z0,(Z0,((⟨#[]⟩:ByteArray),()))),())))])),(1000000,.box [.data TBy b,dI r4.2])]))) (cond (decide (kind=Z2)) ((Sm TBy b)/\(Sm TCS columns)/\(M.ay b)/\(0<=r1.2)/\(r1.2<=997000000000000)/\(LD (M.dL b r1.2 columns kind) fun r5=>K (.own 0 none) [(0,.arr false aC [r5.1]),(1000000,.box [.data TBy b,dI r5.2])])) ((Sm TBy b)/\(M.ay b)/\(0<=r1.2)/\(r1.2<=1000000000000000)/\(LD (M.pick b r1.2 Z6) fun r6=>cond (decide (r6.1=Z0)) ((Sm TBy b)/\(Sm TCS columns)/\(M.ay b)/\(0<=r6.2)/\(r6.2+40 * (M.eB (wrap64 (deep-Z1)):Int)<=996000000000000)/\((wrap64 (deep-Z1))<=3)/\((wrap64 (deep-Z1)).toNat<n_)/\(LD (M.bG n_ b r6.2 columns Z3 (wrap64 (deep-Z1))) fun r7=>(Sm TBy b)/\(Sm TCS columns)/\(M.ay b)/\(0<=r7.2)/\(r7.2+40 * (M.eB (wrap64 (deep-Z2)):Int)<=996000000000000)/\((wrap64 (deep-Z2))<=3)/\((wrap64 (deep-Z2)).toNat<n_)/\(LD (M.bG n_ b r7.2 columns Z3 (wrap64 (deep-Z2))) fun r8=>((r7.1.length+r8.1.length) * 48<=lim)/\(Sm TBy b)/\(M.ay b)/\(0<=r8.2)/\(r8.2<=1000000000000000)/\(LD (M.pick b r8.2 Z2) fun r9=>(((r7.1++r8.1).length+([(wrap64 (Z5+r9.1),(Z0,((Z0,(Z0,((⟨#[]⟩:ByteArray),()))),())))]:List aC.D).length) * 48<=lim)/\K (.own 0 none) [(0,.arr false aC ((r7.1++r8.1)++[(wrap64 (Z5+r9.1),(Z0,((Z0,(Z0,((⟨#[]⟩:ByteArray),()))),())))])),(1000000,.box [.data TBy b,dI r9.2])])))) (cond (decide (r6.1=Z1)) ((Sm TBy b)/\(Sm TCS columns)/\(M.ay b)/\(0<=r6.2)/\(r6.2+40 * (M.eB (wrap64 (deep-Z1)):Int)<=996000000000000)/\((wrap64 (deep-Z1))<=3)/\((wrap64 (deep-Z1)).toNat<n_)/\(LD (M.bG n_ b r6.2 columns Z3 (wrap64 (deep-Z1))) fun r10=>((r10.1.length+([((7:Int),(Z0,((Z0,(Z0,((⟨#[]⟩:ByteArray),()))),())))]:List aC.D).length) * 48<=lim)/\K (.own 0 none) [(0,.arr false aC (r10.1++[((7:Int),(Z0,((Z0,(Z0,((⟨#[]⟩:ByteArray),()))),())))])),(1000000,.box [.data TBy b,dI r10.2])])) (cond (decide (r6.1=Z2)) ((Sm TBy b)/\(M.ay b)/\(0<=r6.2)/\(r6.2<=1000000000000000)/\(LD (M.pick b r6.2 Z3) fun r11=>(Sm TBy b)/\(Sm TCS columns)/\(M.ay b)/\(0<=r11.2)/\(r11.2+40 * (M.eB (wrap64 (deep-Z1)):Int)<=996000000000000)/\((wrap64 (deep-Z1))<=3)/\((wrap64 (deep-Z1)).toNat<n_)/\(LD (M.bG n_ b r11.2 columns (wrap64 (Z1+r11.1)) (wrap64 (deep-Z1))) fun r12=>((r12.1.length+([((8:Int),(Z0,((Z0,(Z0,((⟨#[]⟩:ByteArray),()))),())))]:List aC.D).length) * 48<=lim)/\K (.own 0 none) [(0,.arr false aC (r12.1++[((8:Int),(Z0,((Z0,(Z0,((⟨#[]⟩:ByteArray),()))),())))])),(1000000,.box [.data TBy b,dI r12.2])]))) ((Sm TBy b)/\(M.ay b)/\(0<=r6.2)/\(r6.2<=1000000000000000)/\(LD (M.pick b r6.2 Z3) fun r13=>(Sm TBy b)/\(Sm TCS columns)/\(M.ay b)/\(0<=r13.2)/\(r13.2+40 * (M.eB (wrap64 (deep-Z1)):Int)<=996000000000000)/\((wrap64 (deep-Z1))<=3)/\((wrap64 (deep-Z1)).toNat<n_)/\(LD (M.bG n_ b r13.2 columns (wrap64 (Z1+r13.1)) (wrap64 (deep-Z1))) fun r14=>(Sm TBy b)/\(Sm TCS columns)/\(M.ay b)/\(0<=r14.2)/\(r14.2<=997000000000000)/\(LD (M.dL b r14.2 columns (wrap64 (Z1+r13.1))) fun r15=>((r14.1.length+[r15.1].length) * 48<=lim)/\(Sm TBy b)/\(M.ay b)/\(0<=r15.2)/\(r15.2<=1000000000000000)/\(LD (M.pick b r15.2 Z4) fun r16=>(((r14.1++[r15.1]).length+([(Z4,(wrap64 (Z1+r16.1),((Z0,(Z0,((⟨#[]⟩:ByteArray),()))),())))]:List aC.D).length) * 48<=lim)/\K (.own 0 none) [(0,.arr false aC ((r14.1++[r15.1])++[(Z4,(wrap64 (Z1+r16.1),((Z0,(Z0,((⟨#[]⟩:ByteArray),()))),())))])),(1000000,.box [.data TBy b,dI r16.2])]))))))))))))) ((Sm TBy b)/\(Sm TCS columns)/\(M.ay b)/\(0<=p)/\(p<=997000000000000)/\(LD (M.dL b p columns kind) fun r2=>K (.own 0 none) [(0,.arr false aC [r2.1]),(1000000,.box [.data TBy b,dI r2.2])]))):=by kernel_rfl
theorem con35r_ok:∀n_,bg P 35 (c35r n_)
 | 0=>bq (cx [] 111 [] 0 false) func35 kN fun args hp K h0=>by
  unfold c35r at h0
  dsimp only at h0
  obtain⟨b,p,rfl,h00⟩:=fk h0
  obtain⟨a0,a1,a2,a3,rfl,_,h1⟩:=Aa h00
  obtain⟨rfl,h2⟩:=cW h1
  obtain⟨columns,rfl,h3⟩:=bw h2
  obtain⟨kind,rfl,h4⟩:=bw h3
  obtain⟨deep,rfl,h5⟩:=bw h4
  obtain⟨h_b,h_columns,p0,p1,p2,p3,p4,_⟩:=h5
  exact absurd p4 (Nat.not_lt_zero _)
 | n_+1=>(fun ih=>bq (C35 n_) func35 (kC con76_ok (kC con77_ok (kC ih kN))) fun args hp K h0=>by
  unfold c35r at h0
  dsimp only at h0
  obtain⟨b,p,rfl,h00⟩:=fk h0
  obtain⟨a0,a1,a2,a3,rfl,_,h1⟩:=Aa h00
  obtain⟨rfl,h2⟩:=cW h1
  obtain⟨columns,rfl,h3⟩:=bw h2
  obtain⟨kind,rfl,h4⟩:=bw h3
  obtain⟨deep,rfl,h5⟩:=bw h4
  obtain⟨h_b,h_columns,p0,p1,p2,p3,p4,hK⟩:=h5
  have h:ok (F.me n_ b p columns kind deep) (fun r=>K (.own 0 none) [(0,.arr false aC r.1),(1000000,.box [.data TBy b,dI r.2])]):=az (F.yP n_ b p columns kind deep h_b h_columns p0 p1 p2 p3 p4) (hK _ rfl)
  refine⟨rfl,ann35,aA,.raw,(aG (by kernel_rfl)),?_⟩
  ·rw[vc35]
   exact(oC h (fun _ h=>⟨h_b,⟨p0,⟨p1,(oG h fun _ h=>(oL h fun _ _ h=>(oC h (fun _ h=>⟨h_b,⟨h_columns,⟨p0,(oG h fun _ h=>(oG h fun _ h=>(oL h fun _ _ h=>h)))⟩⟩⟩) fun _ h=>(oC h (fun _ h=>⟨h_b,⟨h_columns,⟨p0,(oG h fun _ h=>(oG h fun _ h=>(oG h fun _ h=>(oG h fun _ h=>(oL h fun _ _ h=>⟨h_b,⟨h_columns,⟨p0,(oG h fun _ h=>(oG h fun _ h=>(oL h fun _ _ h=>(oG h fun _ h=>(oG h fun _ h=>h)))))⟩⟩⟩)))))⟩⟩⟩) fun _ h=>(oC h (fun _ h=>⟨h_b,⟨h_columns,⟨p0,(oG h fun _ h=>(oG h fun _ h=>(oL h fun _ _ h=>h)))⟩⟩⟩) fun _ h=>⟨h_b,⟨p0,(oG h fun _ h=>(oG h fun _ h=>(oL h fun _ _ h=>(oC h (fun _ h=>⟨h_b,⟨h_columns,⟨p0,(oG h fun _ h=>(oG h fun _ h=>(oG h fun _ h=>(oG h fun _ h=>(oL h fun _ _ h=>⟨h_b,⟨h_columns,⟨p0,(oG h fun _ h=>(oG h fun _ h=>(oG h fun _ h=>(oG h fun _ h=>(oL h fun _ _ h=>(oG h fun _ h=>⟨h_b,⟨p0,(oG h fun _ h=>(oG h fun _ h=>(oL h fun _ _ h=>(oG h fun _ h=>h))))⟩⟩))))))⟩⟩⟩)))))⟩⟩⟩) fun _ h=>(oC h (fun _ h=>⟨h_b,⟨h_columns,⟨p0,(oG h fun _ h=>(oG h fun _ h=>(oG h fun _ h=>(oG h fun _ h=>(oL h fun _ _ h=>(oG h fun _ h=>h))))))⟩⟩⟩) fun _ h=>(oC h (fun _ h=>⟨h_b,⟨p0,(oG h fun _ h=>(oG h fun _ h=>(oL h fun _ _ h=>⟨h_b,⟨h_columns,⟨p0,(oG h fun _ h=>(oG h fun _ h=>(oG h fun _ h=>(oG h fun _ h=>(oL h fun _ _ h=>(oG h fun _ h=>h))))))⟩⟩⟩)))⟩⟩) fun _ h=>⟨h_b,⟨p0,(oG h fun _ h=>(oG h fun _ h=>(oL h fun _ _ h=>⟨h_b,⟨h_columns,⟨p0,(oG h fun _ h=>(oG h fun _ h=>(oG h fun _ h=>(oG h fun _ h=>(oL h fun _ _ h=>⟨h_b,⟨h_columns,⟨p0,(oG h fun _ h=>(oG h fun _ h=>(oL h fun _ _ h=>(oG h fun _ h=>⟨h_b,⟨p0,(oG h fun _ h=>(oG h fun _ h=>(oL h fun _ _ h=>(oG h fun _ h=>h))))⟩⟩))))⟩⟩⟩)))))⟩⟩⟩)))⟩⟩))))))⟩⟩)))))⟩⟩⟩) fun _ h=>⟨h_b,⟨h_columns,⟨p0,⟨p1,(oG h fun _ h=>(oL h fun _ _ h=>h))⟩⟩⟩⟩)) (con35r_ok n_)
def c35:Con:=c35r 64
theorem con35_ok:bg P 35 c35:=con35r_ok 64
def c39:Con:=⟨[.dat aE,.dat aE,.dat aE],fun args hp K=>g3 (pD aE) (pD aE) (pD aE) (fun n low high=>K (dB (M.inR n low high)) []) args hp,.plain,false⟩
abbrev C39:Ctx:=cx [] 15 [] 0 false
def ann39:=an [[kp 7],[kp 64]] []
theorem vc39 (n:Int) (low:Int) (high:Int) (K:KA):vcT C39 aA ann39 f39 [dI n,dI low,dI high] [] (.dat Ty.bool) K =
 (cond ((decide (low<=n))==true) (K (dB (decide (n<=high))) []) (K (dB false) [])):=by kernel_rfl
theorem con39_ok:bg P 39 c39:=bq C39 func39 kN fun args hp K h0=>by
 obtain⟨n,low,high,rfl,rfl,hK⟩:=g3e h0
 have h:ok (F.xo n low high) (fun r=>K (dB r) []):=az (F.CZ n low high) hK
 refine⟨rfl,ann39,aA,(.dat Ty.bool),(aG (by kernel_rfl)),?_⟩
 ·rw[vc39]
  exact(oC h (fun _ h=>h) fun _ h=>h)
def c131:Con:=⟨[.dat ah],fun args hp K=>g1 (pD ah) (fun s=>(Sm ah s)/\K (dB (M.bM s)) []) args hp,.plain,false⟩
abbrev C131:Ctx:=cx [] 68 [] 0 false
def ann131:=an [[.fixRow 1 ah,kp 2],[kp 10],[kp 26],[kp 58],[kp 4]] []
abbrev S131_0 (s:ah.D) (K:KA):Prop:=cond ((decide (s.1=Z3))==false) (K (dB (decide ((s.2.2.2.2.2.1.length:Int)=Z0))) []) (K (dB true) [])
abbrev S131_1 (s:ah.D) (K:KA):Prop:=cond ((decide (s.1=Z4))==false) (cond ((decide ((s.2.2.2.2.1.length:Int)=Z0))==true) (S131_0 s K) (K (dB false) [])) (S131_0 s K)
abbrev S131_2 (s:ah.D) (K:KA):Prop:=cond ((decide (s.1=Z1))==false) (cond ((decide (s.2.2.2.1=Z0))==true) (S131_1 s K) (K (dB false) [])) (S131_1 s K)
abbrev S131_3 (s:ah.D) (K:KA):Prop:=cond ((decide (s.1=Z5))==false) (cond ((decide (s.2.2.1=Z0))==true) (S131_2 s K) (K (dB false) [])) (S131_2 s K)
abbrev S131_4 (s:ah.D) (K:KA):Prop:=cond ((decide (s.1=Z1))==false) (cond ((decide (s.2.2.2.1=Z0))==true) (S131_0 s K) (K (dB false) [])) (S131_0 s K)
abbrev S131_5 (s:ah.D) (K:KA):Prop:=cond ((decide (s.1=Z5))==false) (cond ((decide (s.2.2.1=Z0))==true) (S131_4 s K) (K (dB false) [])) (S131_4 s K)
theorem vc131 (s:ah.D) (K:KA):vcT C131 aA ann131 f131 [.data ah s] [] (.dat Ty.bool) K =
 (cond ((decide (s.1=Z4))==false) (cond ((decide (s.1=Z2))==false) (cond ((!(decide (s.1=Z1)))==false) (cond ((decide (s.2.1=Z0))==true) (S131_3 s K) (K (dB false) [])) (S131_3 s K)) (cond ((!(decide (s.1=Z1)))==false) (cond ((decide (s.2.1=Z0))==true) (S131_5 s K) (K (dB false) [])) (S131_5 s K))) (cond ((decide (s.1=Z2))==false) (cond ((!(decide (s.1=Z1)))==false) (cond ((decide (s.2.1=Z0))==true) (S131_2 s K) (K (dB false) [])) (S131_2 s K)) (cond ((!(decide (s.1=Z1)))==false) (cond ((decide (s.2.1=Z0))==true) (S131_4 s K) (K (dB false) [])) (S131_4 s K)))):=by kernel_rfl
theorem con131_ok:bg P 131 c131:=bq C131 func131 kN fun args hp K h0=>by
 obtain⟨s,rfl,rfl,h_s,hK⟩:=g1e h0
 have h:ok (F.om s) (fun r=>K (dB r) []):=az (F.vX s h_s) hK
 refine⟨rfl,ann131,aA,(.dat Ty.bool),(aG (by kernel_rfl)),?_⟩
 ·rw[vc131]
  exact(oC h (fun b_1 h=>(oC h (fun _ h=>(oC h (fun b_3 h=>(oC h (fun _ h=>(bL (ugt (cM (bnf (bgt b_3)) (by decide))) (oC h (fun _ h=>(cY (ugf (bnf (bgt b_3))) (bL (ugt (bgt b_1)) (oC h (fun _ h=>(bL (ugt (cM (bnf (bgt b_3)) (by decide))) h)) fun _ h=>h)))) fun _ h=>h))) fun _ h=>h)) fun b_3 h=>(oC h (fun _ h=>(oC h (fun _ h=>(bL (ugt (bnt (bgf b_3))) (oC h (fun _ h=>(bL (ugt (bgt b_1)) (oC h (fun _ h=>(oC h (fun _ h=>h) fun _ h=>h)) fun _ h=>h))) fun _ h=>h))) fun _ h=>h)) fun b_27 h=>(bL (ugt (bnt (bgf b_3))) (oC h (fun _ h=>(bL (ugt (bgt b_1)) (oC h (fun _ h=>(bL (ugt (cM (bgf b_27) (by decide))) h)) fun _ h=>h))) fun _ h=>h))))) fun b_2 h=>(cY (ugf (unt (cM (bgf b_2) (by decide)))) (bL (ugt (cM (bgf b_2) (by decide))) (oC h (fun _ h=>(bL (ugt (cM (bgf b_2) (by decide))) (oC h (fun _ h=>(bL (ugt (cM (bgf b_2) (by decide))) h)) fun _ h=>h))) fun _ h=>h))))) fun b_1 h=>(bL (ugt (cM (bgf b_1) (by decide))) (cY (ugf (unt (cM (bgf b_1) (by decide)))) (bL (ugt (cM (bgf b_1) (by decide))) (oC h (fun _ h=>(cY (ugf (bgf b_1)) (bL (ugt (cM (bgf b_1) (by decide))) h))) fun _ h=>h)))))
def c134:Con:=⟨[.dat TCS],fun args hp K=>g1 (pD TCS) (fun columns=>(Sm TCS columns)/\K (dB (M.bJ columns)) []) args hp,.plain,false⟩
abbrev C134:Ctx:=cx [(39,c39)] 20 [] 0 false
def ann134:=an [[kp 1],[kp 9],[kp 137],[kp 9],[kp 65545],[kp 4],[kp 4]] [[kp 1]]
abbrev s134_0 (columns:LC) (i0:Int) (v0:Unit):St:=⟨[(0,.data TCS columns),(3,dI i0)],[]⟩
abbrev LP134_0 (columns:LC) (m:Nat) (st_:St) (K:KX):Prop:=True/\bF (t:=ag) (s134_0 columns) columns (F.gD columns) (fun v0:Unit=>True) (br (fun v0:Unit=>True->K (.exit 0) (⟨[(0,.data TCS columns)],[]⟩:St)) (fun q0:Unit=>K .ret (⟨[(2,dB false)],[]⟩:St))) m st_
def L134 (columns:LC):bE:=lp1 0 (LP134_0 columns)
theorem vc134 (columns:LC) (K:KA):vcT C134 (L134 columns) ann134 f134 [.data TCS columns] [] (.dat Ty.bool) K =
 (∃m_,True/\bF (t:=ag) (s134_0 columns) columns (F.gD columns) (fun v0:Unit=>True) (br (fun v0:Unit=>True->K (dB (decide ((columns.length:Int)<=Z4))) []) (fun q0:Unit=>K (dB false) [])) m_ (s134_0 columns Z0 ())):=by kernel_rfl
theorem lvc134_0 (columns:LC)  (i0:Int) (v0:Unit) (m:Nat) (K:KX):lvT C134 (L134 columns) ann134 f134 0 0 (s134_0 columns i0 v0) m K =
 (cond (decide (i0<(columns.length:Int))) ((0<=i0)/\(i0<(columns.length:Int))/\cond (!(M.inR (nC columns i0).1 Z1 Z3)) (K .ret (⟨[(2,dB false)],[]⟩:St)) (nxT (LP134_0 columns) m K (s134_0 columns (wrap64 (i0+Z1)) ()))) (K (.exit 0) (⟨[(0,.data TCS columns)],[]⟩:St))):=by kernel_rfl
theorem con134_ok:bg P 134 c134:=bq C134 func134 (kC con39_ok kN) fun args hp K h0=>by
 obtain⟨columns,rfl,rfl,h_columns,hK⟩:=g1e h0
 have h:ok (F.mM columns) (fun r=>K (dB r) []):=az (F.vC columns h_columns) hK
 refine⟨rfl,ann134,(L134 columns),(.dat Ty.bool),(bA (i0:=0) (by kernel_rfl) ?_),?_⟩
 ·rintro _ _ K ⟨hc0,i0,v0,rfl,hl0,rfl,hv0,h⟩
  exact cast (lvc134_0 _ _ _ _ _).symm (bf (t:=ag) hl0 h (fun ht0 h=>⟨hl0,⟨ht0,(oC h (fun _ h=>h) fun _ h=>(aQ (t:=ag) (fun _ hm=>⟨hc0,hm⟩) _ rfl hl0 ht0 (aZ h_columns) trivial h))⟩⟩) fun h=>(h trivial))
 ·rw[vc134]
  exact(aR (t:=ag) (fun m hm=>⟨trivial,hm⟩) _ rfl trivial (aU h (fun v0 h hv0=>h) (fun q0 h=>h)))
def c210:Con:=⟨[.dat Ty.str],fun args hp K=>g1 (pD Ty.str) (fun s=>(Sm Ty.str s)/\K (dB (M.text s)) []) args hp,.plain,false⟩
abbrev C210:Ctx:=cx [] 23 [] 0 false
def ann210:=an [[kp 1],[kp 9],[kp 137],[kp 9],[kp 524297],[kp 4],[kp 4]] [[kp 1]]
abbrev s210_0 (s:ByteArray) (i0:Int) (v0:Unit):St:=⟨[(0,.data Ty.str s),(3,dI i0)],[]⟩
abbrev LP210_0 (s:ByteArray) (m:Nat) (st_:St) (K:KX):Prop:=True/\cI (s210_0 s) Z0 (s.size:Int) (F.jA s) (fun v0:Unit=>True) (br (fun v0:Unit=>True->K (.exit 0) (⟨[(0,.data Ty.str s)],[]⟩:St)) (fun q0:Unit=>K .ret (⟨[(2,dB false)],[]⟩:St))) m st_
def L210 (s:ByteArray):bE:=lp1 0 (LP210_0 s)
theorem vc210 (s:ByteArray) (K:KA):vcT C210 (L210 s) ann210 f210 [.data Ty.str s] [] (.dat Ty.bool) K =
 (∃m_,True/\cI (s210_0 s) Z0 (s.size:Int) (F.jA s) (fun v0:Unit=>True) (br (fun v0:Unit=>True->K (dB (decide ((s.size:Int)<=Z6))) []) (fun q0:Unit=>K (dB false) [])) m_ (s210_0 s Z0 ())):=by kernel_rfl
theorem lvc210_0 (s:ByteArray)  (i0:Int) (v0:Unit) (m:Nat) (K:KX):lvT C210 (L210 s) ann210 f210 0 0 (s210_0 s i0 v0) m K =
 (cond (decide (i0<(s.size:Int))) ((0<=i0)/\(i0<(s.size:Int))/\cond ((decide (((s.get! i0.toNat).toNat:Int)<(97:Int)))==false) ((0<=i0)/\(i0<(s.size:Int))/\cond (decide ((122:Int)<((s.get! i0.toNat).toNat:Int))) (K .ret (⟨[(2,dB false)],[]⟩:St)) (nxT (LP210_0 s) m K (s210_0 s (wrap64 (i0+Z1)) ()))) (K .ret (⟨[(2,dB false)],[]⟩:St))) (K (.exit 0) (⟨[(0,.data Ty.str s)],[]⟩:St))):=by kernel_rfl
theorem con210_ok:bg P 210 c210:=bq C210 func210 kN fun args hp K h0=>by
 obtain⟨s,rfl,rfl,h_s,hK⟩:=g1e h0
 have h:ok (F.rU s) (fun r=>K (dB r) []):=az (F.zg s h_s) hK
 refine⟨rfl,ann210,(L210 s),(.dat Ty.bool),(bA (i0:=0) (by kernel_rfl) ?_),?_⟩
 ·rintro _ _ K ⟨hc0,i0,v0,rfl,hl0,rfl,hv0,h⟩
  exact cast (lvc210_0 _ _ _ _ _).symm (cj h (fun ht0 h=>⟨hl0,⟨ht0,(oC h (fun _ h=>⟨hl0,⟨ht0,(oC h (fun _ h=>h) fun _ h=>(aT (fun _ hm=>⟨hc0,hm⟩) _ rfl hl0 fS ht0 (IG h_s) trivial h))⟩⟩) fun _ h=>h)⟩⟩) fun h=>(h trivial))
 ·rw[vc210]
  exact(bN (fun m hm=>⟨trivial,hm⟩) Z0 _ rfl (Int.natCast_nonneg 0) trivial (aU h (fun v0 h hv0=>h) (fun q0 h=>h)))
def c201:Con:=⟨[.dat aa],fun args hp K=>g1 (pD aa) (fun v=>(Sm aa v)/\K (dB (M.aM v)) []) args hp,.plain,false⟩
abbrev C201:Ctx:=cx [(39,c39),(210,c210)] 45 [] 0 false
def ann201:=an [[.fixRow 1 aa,kp 2],[kp 18],[kp 50],[kp 4],[kp 32786],[kp 4],[kp 33554450],[kp 4],[.keep [1,35]],[kp 4],[kp 4]] []
theorem vc201 (v:aa.D) (K:KA):vcT C201 aA ann201 f201 [.data aa v] [] (.dat Ty.bool) K =
 (cond (decide (v.1=Z0)) (cond ((decide (v.2.1=Z0))==true) (K (dB (decide (v.2.2.1=(⟨#[]⟩:ByteArray)))) []) (K (dB false) [])) (cond (decide (v.1=Z1)) (cond ((M.inR v.2.1 (-9999:Int) (9999:Int))==true) (K (dB (decide (v.2.2.1=(⟨#[]⟩:ByteArray)))) []) (K (dB false) [])) (cond (decide (v.1=Z2)) (cond ((decide (v.2.1=Z0))==true) ((Sm Ty.str v.2.2.1)/\K (dB (M.text v.2.2.1)) []) (K (dB false) [])) (cond (decide (v.1=Z3)) (cond ((M.inR v.2.1 Z0 Z1)==true) (K (dB (decide (v.2.2.1=(⟨#[]⟩:ByteArray)))) []) (K (dB false) [])) (K (dB false) []))))):=by kernel_rfl
theorem con201_ok:bg P 201 c201:=bq C201 func201 (kC con39_ok (kC con210_ok kN)) fun args hp K h0=>by
 obtain⟨v,rfl,rfl,h_v,hK⟩:=g1e h0
 have h:ok (F.pX v) (fun r=>K (dB r) []):=az (F.yl v h_v) hK
 refine⟨rfl,ann201,aA,(.dat Ty.bool),(aG (by kernel_rfl)),?_⟩
 ·rw[vc201]
  exact(oC h (fun _ h=>(oC h (fun _ h=>h) fun _ h=>h)) fun _ h=>(oC h (fun _ h=>(oC h (fun _ h=>h) fun _ h=>h)) fun _ h=>(oC h (fun _ h=>(oC h (fun _ h=>⟨h_v.2.2.1,h⟩) fun _ h=>h)) fun _ h=>(oC h (fun _ h=>(oC h (fun _ h=>h) fun _ h=>h)) fun _ h=>h))))
def c175:Con:=⟨[.dat TCS,.mv,.dat aC],fun args hp K=>hpN 0 false aE (fun kinds=>uM (fun a0 a1 a2=>eV TCS a0 fun columns=>FP 0 a1 (eV aC a2 fun p=>(Sm TCS columns)/\(Sm (Ty.sl aE) kinds)/\(Sm aC p)/\(kinds.length<=1000)/\(LD (M.wV columns kinds p) fun r=>K (.tup [.own 0 none,dB r.2]) [(0,.arr false aE r.1)]))) args []) hp,.mv,false⟩
abbrev C175:Ctx:=cx [(39,c39),(201,c201)] 191 [] 0 true
def ann175:=an [[.fixRow 5 aC,kp 35],[kp 291],[kp 137438953763],[kp 192],[kp 1099511628067],[kp 3298534883619],[.keep [1,5,52]],[kp 192],[kp 192],[kp 1152922604118475043],[.keep [0,1,5,68]],[kp 192],[kp 192],[.keep [1,5,8,40,79]],[kp 770],[kp 192],[.keep [1,5,8,40,107]],[kp 1282],[kp 192],[.keep [1,8,40,137]],[.keep [1,8,40,137]],[kp 2306],[kp 192],[.keep [1,8,40,166]],[kp 192],[.keep [1,8,179]],[kp 192],[kp 192]] []
abbrev S175_0 (columns:LC) (kinds:LI) (p:aC.D) (K:KA):Prop:=(0<=Z0)/\(Z0<=(bI (wrap64 ((kinds.length:Int)-Z2)) Z0))/\((bI (wrap64 ((kinds.length:Int)-Z2)) Z0)<=(kinds.length:Int))/\((bI (wrap64 ((kinds.length:Int)-Z2)) Z0)=(bI (wrap64 ((kinds.length:Int)-Z2)) Z0))/\(Z0=0)/\(((bI (wrap64 ((kinds.length:Int)-Z2)) Z0).toNat+[Z1].length) * 8<=lim)/\K (.tup [.own 0 none,dB false]) [(0,.arr false aE (kinds.take (bI (wrap64 ((kinds.length:Int)-Z2)) Z0).toNat++[Z1]))]
abbrev S175_1 (columns:LC) (kinds:LI) (p:aC.D) (K:KA):Prop:=(0<=Z0)/\(Z0<=(bI (wrap64 ((kinds.length:Int)-Z2)) Z0))/\((bI (wrap64 ((kinds.length:Int)-Z2)) Z0)<=(kinds.length:Int))/\((bI (wrap64 ((kinds.length:Int)-Z2)) Z0)=(bI (wrap64 ((kinds.length:Int)-Z2)) Z0))/\(Z0=0)/\(((bI (wrap64 ((kinds.length:Int)-Z2)) Z0).toNat+[Z3].length) * 8<=lim)/\K (.tup [.own 0 none,dB false]) [(0,.arr false aE (kinds.take (bI (wrap64 ((kinds.length:Int)-Z2)) Z0).toNat++[Z3]))]
abbrev S175_2 (columns:LC) (kinds:LI) (p:aC.D) (K:KA):Prop:=(S175_1 columns kinds p K)
abbrev S175_3 (columns:LC) (kinds:LI) (p:aC.D) (K:KA):Prop:=cond ((decide (Z1<(kinds.length:Int)))==true) ((0<=wrap64 ((kinds.length:Int)-Z1))/\(wrap64 ((kinds.length:Int)-Z1)<(kinds.length:Int))/\cond ((decide ((nI kinds (wrap64 ((kinds.length:Int)-Z1)))=Z3))==true) ((0<=wrap64 ((kinds.length:Int)-Z2))/\(wrap64 ((kinds.length:Int)-Z2)<(kinds.length:Int))/\(0<=Z0)/\(Z0<=(bI (wrap64 ((kinds.length:Int)-Z2)) Z0))/\((bI (wrap64 ((kinds.length:Int)-Z2)) Z0)<=(kinds.length:Int))/\((bI (wrap64 ((kinds.length:Int)-Z2)) Z0)=(bI (wrap64 ((kinds.length:Int)-Z2)) Z0))/\(Z0=0)/\(((bI (wrap64 ((kinds.length:Int)-Z2)) Z0).toNat+[Z3].length) * 8<=lim)/\K (.tup [.own 0 none,dB (decide ((nI kinds (wrap64 ((kinds.length:Int)-Z2)))=Z3))]) [(0,.arr false aE (kinds.take (bI (wrap64 ((kinds.length:Int)-Z2)) Z0).toNat++[Z3]))]) (S175_2 columns kinds p K)) (S175_2 columns kinds p K)
abbrev S175_4 (columns:LC) (kinds:LI) (p:aC.D) (K:KA):Prop:=cond (decide (p.1=(7:Int))) (cond ((decide (Z0<(kinds.length:Int)))==true) ((0<=wrap64 ((kinds.length:Int)-Z1))/\(wrap64 ((kinds.length:Int)-Z1)<(kinds.length:Int))/\K (.tup [.own 0 none,dB (decide ((nI kinds (wrap64 ((kinds.length:Int)-Z1)))=Z3))]) [(0,.arr false aE kinds)]) (K (.tup [.own 0 none,dB false]) [(0,.arr false aE kinds)])) (cond (decide (p.1=(8:Int))) ((0<=Z0)/\(Z0<=(bI (wrap64 ((kinds.length:Int)-Z1)) Z0))/\((bI (wrap64 ((kinds.length:Int)-Z1)) Z0)<=(kinds.length:Int))/\((bI (wrap64 ((kinds.length:Int)-Z1)) Z0)=(bI (wrap64 ((kinds.length:Int)-Z1)) Z0))/\(Z0=0)/\(((bI (wrap64 ((kinds.length:Int)-Z1)) Z0).toNat+[Z3].length) * 8<=lim)/\K (.tup [.own 0 none,dB (decide (Z0<(kinds.length:Int)))]) [(0,.arr false aE (kinds.take (bI (wrap64 ((kinds.length:Int)-Z1)) Z0).toNat++[Z3]))]) (K (.tup [.own 0 none,dB false]) [(0,.arr false aE kinds)]))
abbrev S175_5 (columns:LC) (kinds:LI) (p:aC.D) (K:KA):Prop:=cond (decide (p.1=Z1)) ((Sm aa p.2.2.1)/\cond ((!(M.aM p.2.2.1))==false) (cond (decide (p.2.2.1.1=Z0)) (K (.tup [.own 0 none,dB false]) [(0,.arr false aE kinds)]) (((kinds.length+[p.2.2.1.1].length) * 8<=lim)/\K (.tup [.own 0 none,dB true]) [(0,.arr false aE (kinds++[p.2.2.1.1]))])) (K (.tup [.own 0 none,dB false]) [(0,.arr false aE kinds)])) (cond (decide (p.1=Z2)) (cond (!(M.inR p.2.1 Z0 (wrap64 ((columns.length:Int)-Z1)))) (K (.tup [.own 0 none,dB false]) [(0,.arr false aE kinds)]) ((0<=p.2.1)/\(p.2.1<(columns.length:Int))/\((kinds.length+[(nC columns p.2.1).1].length) * 8<=lim)/\K (.tup [.own 0 none,dB true]) [(0,.arr false aE (kinds++[(nC columns p.2.1).1]))])) (cond (decide (p.1=Z3)) (cond ((decide (Z1<(kinds.length:Int)))==true) ((0<=wrap64 ((kinds.length:Int)-Z1))/\(wrap64 ((kinds.length:Int)-Z1)<(kinds.length:Int))/\cond ((decide ((nI kinds (wrap64 ((kinds.length:Int)-Z1)))=Z1))==true) ((0<=wrap64 ((kinds.length:Int)-Z2))/\(wrap64 ((kinds.length:Int)-Z2)<(kinds.length:Int))/\(0<=Z0)/\(Z0<=(bI (wrap64 ((kinds.length:Int)-Z2)) Z0))/\((bI (wrap64 ((kinds.length:Int)-Z2)) Z0)<=(kinds.length:Int))/\((bI (wrap64 ((kinds.length:Int)-Z2)) Z0)=(bI (wrap64 ((kinds.length:Int)-Z2)) Z0))/\(Z0=0)/\(((bI (wrap64 ((kinds.length:Int)-Z2)) Z0).toNat+[Z1].length) * 8<=lim)/\K (.tup [.own 0 none,dB (decide ((nI kinds (wrap64 ((kinds.length:Int)-Z2)))=Z1))]) [(0,.arr false aE (kinds.take (bI (wrap64 ((kinds.length:Int)-Z2)) Z0).toNat++[Z1]))]) (S175_0 columns kinds p K)) (S175_0 columns kinds p K)) (cond (decide (p.1=Z4)) (cond ((decide (Z1<(kinds.length:Int)))==true) ((0<=wrap64 ((kinds.length:Int)-Z1))/\(wrap64 ((kinds.length:Int)-Z1)<(kinds.length:Int))/\(0<=wrap64 ((kinds.length:Int)-Z2))/\(wrap64 ((kinds.length:Int)-Z2)<(kinds.length:Int))/\cond ((decide ((nI kinds (wrap64 ((kinds.length:Int)-Z1)))=(nI kinds (wrap64 ((kinds.length:Int)-Z2)))))==true) ((0<=Z0)/\(Z0<=(bI (wrap64 ((kinds.length:Int)-Z2)) Z0))/\((bI (wrap64 ((kinds.length:Int)-Z2)) Z0)<=(kinds.length:Int))/\((bI (wrap64 ((kinds.length:Int)-Z2)) Z0)=(bI (wrap64 ((kinds.length:Int)-Z2)) Z0))/\(Z0=0)/\(((bI (wrap64 ((kinds.length:Int)-Z2)) Z0).toNat+[Z3].length) * 8<=lim)/\K (.tup [.own 0 none,dB (M.inR p.2.1 Z1 Z4)]) [(0,.arr false aE (kinds.take (bI (wrap64 ((kinds.length:Int)-Z2)) Z0).toNat++[Z3]))]) (S175_2 columns kinds p K)) (S175_2 columns kinds p K)) (cond (decide (p.1=Z5)) (cond (decide (p.1=Z5)) (S175_3 columns kinds p K) (S175_4 columns kinds p K)) (cond (decide (p.1=Z6)) (S175_3 columns kinds p K) (S175_4 columns kinds p K))))))
abbrev S175_6 (columns:LC) (kinds:LI) (p:aC.D) (K:KA):Prop:=cond ((!decide (p.1=Z2))==true) (cond ((!decide (p.1=Z4))==true) (cond (!decide (p.2.1=Z0)) (K (.tup [.own 0 none,dB false]) [(0,.arr false aE kinds)]) (S175_5 columns kinds p K)) (S175_5 columns kinds p K)) (S175_5 columns kinds p K)
theorem vc175 (columns:LC) (kinds:LI) (p:aC.D) (K:KA):vcT C175 aA ann175 f175 [.data TCS columns,.own 0 none,.data aC p] [(0,.arr false aE kinds)] .raw K =
 (cond ((!decide (p.1=Z1))==true) (cond ((!(Ty.beq aa p.2.2.1 (Z0,(Z0,((⟨#[]⟩:ByteArray),())))))==false) (S175_6 columns kinds p K) (K (.tup [.own 0 none,dB false]) [(0,.arr false aE kinds)])) (S175_6 columns kinds p K)):=by kernel_rfl
theorem con175_ok:bg P 175 c175:=bq C175 func175 (kC con39_ok (kC con201_ok kN)) fun args hp K h0=>by
 unfold c175 at h0
 dsimp only at h0
 obtain⟨kinds,rfl,h00⟩:=DS (n:=0) (d:=false) (t:=aE) h0
 obtain⟨a0,a1,a2,rfl,_,h1⟩:=jk h00
 obtain⟨columns,rfl,h2⟩:=bw h1
 obtain⟨rfl,h3⟩:=Ad h2
 obtain⟨p,rfl,h4⟩:=bw h3
 obtain⟨h_columns,h_kinds,h_p,p0,hK⟩:=h4
 have h:ok (F.kP columns kinds p) (fun r=>K (.tup [.own 0 none,dB r.2]) [(0,.arr false aE r.1)]):=az (F.AA columns kinds p h_columns h_kinds h_p p0) (hK _ rfl)
 refine⟨rfl,ann175,aA,.raw,(aG (by kernel_rfl)),?_⟩
 ·rw[vc175]
  exact(oC h (fun b_1 h=>(oC h (fun _ h=>(oC h (fun b_3 h=>(oC h (fun b_4 h=>(oC h (fun _ h=>h) fun _ h=>(cY (bnt (bet b_1)) (cY (bnt (bet b_3)) (oC h (fun _ h=>(oC h (fun _ h=>(oG h fun _ h=>(oG h fun _ h=>(oC h (fun _ h=>(oG h fun _ h=>(oG h fun _ h=>⟨(Int.natCast_nonneg 0),(oG h fun _ h=>(oG h fun _ h=>⟨rfl,⟨rfl,(oG h fun _ h=>h)⟩⟩))⟩))) fun _ h=>⟨(Int.natCast_nonneg 0),(oG h fun _ h=>(oG h fun _ h=>⟨rfl,⟨rfl,(oG h fun _ h=>h)⟩⟩))⟩)))) fun _ h=>⟨(Int.natCast_nonneg 0),(oG h fun _ h=>(oG h fun _ h=>⟨rfl,⟨rfl,(oG h fun _ h=>h)⟩⟩))⟩)) fun _ h=>(cY (bnt (bet b_4)) (oC h (fun b_25 h=>(bL b_25 (oC h (fun _ h=>(oG h fun _ h=>(oG h fun _ h=>(oC h (fun _ h=>(oG h fun _ h=>(oG h fun _ h=>⟨(Int.natCast_nonneg 0),(oG h fun _ h=>(oG h fun _ h=>⟨rfl,⟨rfl,(oG h fun _ h=>h)⟩⟩))⟩))) fun _ h=>⟨(Int.natCast_nonneg 0),(oG h fun _ h=>(oG h fun _ h=>⟨rfl,⟨rfl,(oG h fun _ h=>h)⟩⟩))⟩)))) fun _ h=>⟨(Int.natCast_nonneg 0),(oG h fun _ h=>(oG h fun _ h=>⟨rfl,⟨rfl,(oG h fun _ h=>h)⟩⟩))⟩))) fun _ h=>(oC h (fun _ h=>(oC h (fun _ h=>(oG h fun _ h=>(oG h fun _ h=>(oC h (fun _ h=>(oG h fun _ h=>(oG h fun _ h=>⟨(Int.natCast_nonneg 0),(oG h fun _ h=>(oG h fun _ h=>⟨rfl,⟨rfl,(oG h fun _ h=>h)⟩⟩))⟩))) fun _ h=>⟨(Int.natCast_nonneg 0),(oG h fun _ h=>(oG h fun _ h=>⟨rfl,⟨rfl,(oG h fun _ h=>h)⟩⟩))⟩)))) fun _ h=>⟨(Int.natCast_nonneg 0),(oG h fun _ h=>(oG h fun _ h=>⟨rfl,⟨rfl,(oG h fun _ h=>h)⟩⟩))⟩)) fun _ h=>(oC h (fun _ h=>(oC h (fun _ h=>(oG h fun _ h=>(oG h fun _ h=>h))) fun _ h=>h)) fun _ h=>(oC h (fun _ h=>⟨(Int.natCast_nonneg 0),(oG h fun _ h=>(oG h fun _ h=>⟨rfl,⟨rfl,(oG h fun _ h=>h)⟩⟩))⟩) fun _ h=>h)))))))))) fun b_4 h=>(cY (bnt (bet b_1)) (cY (bnt (bet b_3)) (cY (cM (bnf (bef b_4)) (by decide)) (bL (bnf (bef b_4)) (oC h (fun _ h=>(oG h fun _ h=>(oG h fun _ h=>(oG h fun _ h=>(oG h fun _ h=>(oC h (fun _ h=>⟨(Int.natCast_nonneg 0),(oG h fun _ h=>(oG h fun _ h=>⟨rfl,⟨rfl,(oG h fun _ h=>h)⟩⟩))⟩) fun _ h=>⟨(Int.natCast_nonneg 0),(oG h fun _ h=>(oG h fun _ h=>⟨rfl,⟨rfl,(oG h fun _ h=>h)⟩⟩))⟩)))))) fun _ h=>⟨(Int.natCast_nonneg 0),(oG h fun _ h=>(oG h fun _ h=>⟨rfl,⟨rfl,(oG h fun _ h=>h)⟩⟩))⟩))))))) fun b_3 h=>(cY (bnt (bet b_1)) (bL (bnf (bef b_3)) (oC h (fun _ h=>h) fun b_110 h=>⟨(eC (bnf b_110)),⟨(jT (bnf b_110)),⟨(kG h_kinds (CG trivial) rfl),h⟩⟩⟩))))) fun _ h=>h)) fun b_1 h=>(bL (uet (unt (cM (bnf (bef b_1)) (by decide)))) (bL (uet (unt (cM (bnf (bef b_1)) (by decide)))) (oC h (fun _ h=>h) fun _ h=>(bL (bnf (bef b_1)) ⟨h_p.2.2.1,(oC h (fun _ h=>(oC h (fun _ h=>h) fun _ h=>⟨(kG h_kinds (CG trivial) rfl),h⟩)) fun _ h=>h)⟩)))))
def c132:Con:=⟨[.dat TCS,.dat TPS],fun args hp K=>g2 (pD TCS) (pD TPS) (fun columns e=>(Sm TCS columns)/\(Sm TPS e)/\K (dI (M.bZ columns e)) []) args hp,.plain,false⟩
abbrev C132:Ctx:=cx [(134,c134),(175,c175)] 46 [] 0 false
def ann132:=an [[kp 3],[kp 32771],[kp 16],[kp 35],[kp 99],[kp 227],[kp 8388835],[kp 227],[kp 227],[.keep [5,42]],[kp 16],[kp 16]] [[kp 96]]
abbrev s132_0 (columns:LC) (e:LPt) (v0:Bool×Int×LI):St:=⟨[(0,.data TCS columns),(1,.data TPS e),(5,.own 16 none),(6,dB v0.1),(7,dI v0.2.1)],[(16,.arr false aE v0.2.2)]⟩
abbrev LP132_0 (columns:LC) (e:LPt) (m:Nat) (st_:St) (K:KX):Prop:=True/\di (s132_0 columns e) (F.cU columns e) (fun v0:Bool×Int×LI=>True) (fun e0:Bool×LI=>True->K (.exit 0) (⟨[(5,.own 16 none),(6,dB e0.1)],[(16,.arr false aE e0.2)]⟩:St)) m st_
def L132 (columns:LC) (e:LPt):bE:=lp1 0 (LP132_0 columns e)
theorem vc132 (columns:LC) (e:LPt) (K:KA):vcT C132 (L132 columns e) ann132 f132 [.data TCS columns,.data TPS e] [] (.dat aE) K =
 ((Sm TCS columns)/\cond ((!(M.bJ columns))==false) (cond (decide ((12:Int)<(e.length:Int))) (K (dI (-1:Int)) []) (∃m_,True/\di (s132_0 columns e) (F.cU columns e) (fun v0:Bool×Int×LI=>True) (fun e0:Bool×LI=>True->cond ((!e0.1)==false) (cond (!decide ((e0.2.length:Int)=Z1)) (K (dI (-1:Int)) []) ((0<=Z0)/\(Z0<(e0.2.length:Int))/\K (dI (nI e0.2 Z0)) [])) (K (dI (-1:Int)) [])) m_ (s132_0 columns e (true,Z0,[])))) (K (dI (-1:Int)) [])):=by kernel_rfl
theorem lvc132_0 (columns:LC) (e:LPt)  (v0:Bool×Int×LI) (m:Nat) (K:KX):lvT C132 (L132 columns e) ann132 f132 0 0 (s132_0 columns e v0) m K =
 (cond ((decide (v0.2.1<(e.length:Int)))==true) (cond v0.1 ((0<=v0.2.1)/\(v0.2.1<(e.length:Int))/\(Sm TCS columns)/\(Sm (Ty.sl aE) v0.2.2)/\(Sm aC (nP e v0.2.1))/\(v0.2.2.length<=1000)/\(LD (M.wV columns v0.2.2 (nP e v0.2.1)) fun r1=>(nxT (LP132_0 columns e) m K (s132_0 columns e (r1.2,wrap64 (v0.2.1+Z1),r1.1))))) (K (.exit 0) (⟨[(5,.own 16 none),(6,dB v0.1)],[(16,.arr false aE v0.2.2)]⟩:St))) (K (.exit 0) (⟨[(5,.own 16 none),(6,dB v0.1)],[(16,.arr false aE v0.2.2)]⟩:St))):=by kernel_rfl
theorem con132_ok:bg P 132 c132:=bq C132 func132 (kC con134_ok (kC con175_ok kN)) fun args hp K h0=>by
 obtain⟨columns,e,rfl,rfl,h_columns,h_e,hK⟩:=g2e h0
 have h:ok (F.oF columns e) (fun r=>K (dI r) []):=az (F.wZ columns e h_columns h_e) hK
 refine⟨rfl,ann132,(L132 columns e),(.dat aE),(bA (i0:=0) (by kernel_rfl) ?_),?_⟩
 ·rintro _ _ K ⟨hc0,v0,rfl,hv0,h⟩
  exact cast (lvc132_0 _ _ _ _ _).symm (cC h (fun m1 hm0 h=>(oC h (fun _ h=>(oC h (fun _ h=>(oG h fun _ h=>(oG h fun _ h=>⟨h_columns,(oG h fun _ h=>⟨(aH h_e v0.2.1),(oG h fun _ h=>(oL h fun _ _ h=>(bD (fun _ hm=>⟨hc0,hm⟩) hm0 _ rfl trivial h)))⟩)⟩))) fun _ h=>((cw h :) trivial))) fun _ h=>((cw h :) trivial))))
 ·rw[vc132]
  exact⟨h_columns,(oC h (fun _ h=>(oC h (fun _ h=>h) fun _ h=>(bV (fun m hm=>⟨trivial,hm⟩) _ rfl trivial (fy h (fun e0 h hv0=>(oC h (fun _ h=>(oC h (fun _ h=>h) fun _ h=>⟨(Int.natCast_nonneg 0),(oG h fun _ h=>h)⟩)) fun _ h=>h)))))) fun _ h=>h)⟩
def c80:Con:=⟨[.dat TTb,.lent TCS,.dat ah],fun args hp K=>g3 (pD TTb) (pB TCS) (pD ah) (fun tables ahead s=>(Sm TTb tables)/\(Sm (Ty.sl TCS) ahead)/\(Sm ah s)/\(LD (M.fI tables ahead s) fun r=>K (.tup [.data TCS r.1,dB r.2]) [])) args hp,.plain,false⟩
abbrev C80:Ctx:=cx [(39,c39),(131,c131),(132,c132)] 185 [] 0 false
def ann80:=an [[.fixRow 5 ah,kp 35],[kp 32803],[kp 192],[kp 524323],[kp 67108897],[kp 192],[kp 192],[.keep [1,5,51]],[kp 192],[kp 290],[.keep [1,5,8,61]],[kp 6917529027641082146],[kp 192],[.keep [1,5,8,61,70]],[kp 800],[kp 1824],[.keep [5,8,9,10,77]],[kp 1824],[.keep [5,8,9,10,89]],[kp 192],[kp 1824],[kp 192],[.keep [1,5,8,61,106]],[kp 2080],[kp 192],[.keep [1,5,8,61,126]],[.keep [1,5,8,136]],[kp 192],[kp 4386],[.keep [1,5,8,12,141]],[kp 4386],[.keep [1,5,8,12,158]],[kp 192],[kp 4386],[kp 192],[.keep [8,181]],[kp 192],[kp 192]] [[],[kp 512],[],[kp 256]]
abbrev s80_1 (tables:LTb) (ahead:(List LC)) (s:ah.D) (i1:Int) (v1:LC):St:=⟨[(5,.adr ah s),(8,.own 53 none),(9,.own 72 none),(10,dI i1)],[(53,.arr false ag ([]++(nth (t:=TCS) ahead s.2.1))),(72,.arr false ag v1)]⟩
abbrev LP80_1 (tables:LTb) (ahead:(List LC)) (s:ah.D) (m:Nat) (st_:St) (K:KX):Prop:=True/\bF (t:=aE) (s80_1 tables ahead s) s.2.2.2.2.2.1 (F.gK tables ahead s) (fun v1:LC=>True) (br (fun v1:LC=>True->K (.exit 1) (⟨[(9,.own 72 none)],[(72,.arr false ag v1)]⟩:St)) (fun q1:Unit=>K .ret (⟨[(6,.own 90 none),(7,dB false)],[(90,.arr false ag [])]⟩:St))) m st_
abbrev s80_3 (tables:LTb) (ahead:(List LC)) (s:ah.D) (v3:Int×LC):St:=⟨[(1,.brw TCS ahead),(5,.adr ah s),(8,.own 53 none),(12,dI v3.1)],[(53,.arr false ag v3.2)]⟩
abbrev LP80_3 (tables:LTb) (ahead:(List LC)) (s:ah.D) (m:Nat) (st_:St) (K:KX):Prop:=True/\di (s80_3 tables ahead s) (F.dU tables ahead s) (fun v3:Int×LC=>True) (br (fun e3:LC=>True->K (.exit 3) (⟨[(8,.own 53 none)],[(53,.arr false ag e3)]⟩:St)) (fun q3:Unit=>K .ret (⟨[(6,.own 159 none),(7,dB false)],[(159,.arr false ag [])]⟩:St))) m st_
def L80 (tables:LTb) (ahead:(List LC)) (s:ah.D):bE:=lp2 1 (LP80_1 tables ahead s) 3 (LP80_3 tables ahead s)
theorem vc80 (tables:LTb) (ahead:(List LC)) (s:ah.D) (K:KA):vcT C80 (L80 tables ahead s) ann80 f80 [.data TTb tables,.brw TCS ahead,.data ah s] [] (.tup [TCS,Ty.bool]) K =
 ((Sm ah s)/\cond (!(M.bM s)) (K (.tup [.data TCS [],dB false]) []) (cond (decide (s.1=Z1)) (cond (!(M.inR s.2.2.2.1 Z0 (wrap64 ((tables.length:Int)-Z1)))) (K (.tup [.data TCS [],dB false]) []) ((0<=s.2.2.2.1)/\(s.2.2.2.1<(tables.length:Int))/\((([]:List ag.D).length+(nT tables s.2.2.2.1).1.length) * 16<=lim)/\K (.tup [.data TCS ([]++(nT tables s.2.2.2.1).1),dB true]) [])) (cond ((!(M.inR s.2.1 Z0 (wrap64 ((ahead.length:Int)-Z1))))==false) (cond (!(M.inR s.2.2.1 Z0 (wrap64 ((ahead.length:Int)-Z1)))) (K (.tup [.data TCS [],dB false]) []) ((0<=s.2.1)/\(s.2.1<(ahead.length:Int))/\((([]:List ag.D).length+(nth (t:=TCS) ahead s.2.1).length) * 16<=lim)/\cond (decide (s.1=Z2)) ((Sm TCS ([]++(nth (t:=TCS) ahead s.2.1)))/\(Sm TPS s.2.2.2.2.1)/\K (.tup [.data TCS ([]++(nth (t:=TCS) ahead s.2.1)),dB (decide ((M.bZ ([]++(nth (t:=TCS) ahead s.2.1)) s.2.2.2.2.1)=Z3))]) []) (cond (decide (s.1=Z3)) (∃m_,True/\bF (t:=aE) (s80_1 tables ahead s) s.2.2.2.2.2.1 (F.gK tables ahead s) (fun v1:LC=>True) (br (fun v1:LC=>True->K (.tup [.data TCS v1,dB (decide ((v1.length:Int)<=Z4))]) []) (fun q1:Unit=>K (.tup [.data TCS [],dB false]) [])) m_ (s80_1 tables ahead s Z0 [])) (cond (decide (s.1=Z4)) ((0<=s.2.2.1)/\(s.2.2.1<(ahead.length:Int))/\((([]++(nth (t:=TCS) ahead s.2.1)).length+(nth (t:=TCS) ahead s.2.2.1).length) * 16<=lim)/\cond ((decide (((([]++(nth (t:=TCS) ahead s.2.1))++(nth (t:=TCS) ahead s.2.2.1)).length:Int)<=Z4))==true) ((Sm TCS (([]++(nth (t:=TCS) ahead s.2.1))++(nth (t:=TCS) ahead s.2.2.1)))/\(Sm TPS s.2.2.2.2.1)/\K (.tup [.data TCS (([]++(nth (t:=TCS) ahead s.2.1))++(nth (t:=TCS) ahead s.2.2.1)),dB (decide ((M.bZ (([]++(nth (t:=TCS) ahead s.2.1))++(nth (t:=TCS) ahead s.2.2.1)) s.2.2.2.2.1)=Z3))]) []) (K (.tup [.data TCS (([]++(nth (t:=TCS) ahead s.2.1))++(nth (t:=TCS) ahead s.2.2.1)),dB false]) [])) (cond (decide (s.1=Z5)) ((0<=s.2.2.1)/\(s.2.2.1<(ahead.length:Int))/\cond (!decide ((([]++(nth (t:=TCS) ahead s.2.1)).length:Int)=((nth (t:=TCS) ahead s.2.2.1).length:Int))) (K (.tup [.data TCS [],dB false]) []) (∃m_,True/\di (s80_3 tables ahead s) (F.dU tables ahead s) (fun v3:Int×LC=>True) (br (fun e3:LC=>True->K (.tup [.data TCS e3,dB true]) []) (fun q3:Unit=>K (.tup [.data TCS [],dB false]) [])) m_ (s80_3 tables ahead s (Z0,([]++(nth (t:=TCS) ahead s.2.1)))))) (cond (decide (s.1=Z6)) (K (.tup [.data TCS ([]++(nth (t:=TCS) ahead s.2.1)),dB true]) []) (K (.tup [.data TCS [],dB false]) []))))))) (K (.tup [.data TCS [],dB false]) [])))):=by kernel_rfl
theorem lvc80_0 (tables:LTb) (ahead:(List LC)) (s:ah.D)  (i1:Int) (v1:LC) (m:Nat) (K:KX):lvT C80 (L80 tables ahead s) ann80 f80 0 1 (s80_1 tables ahead s i1 v1) m K =
 (cond (decide (i1<(s.2.2.2.2.2.1.length:Int))) ((0<=i1)/\(i1<(s.2.2.2.2.2.1.length:Int))/\cond (!(M.inR (nI s.2.2.2.2.2.1 i1) Z0 (wrap64 ((([]++(nth (t:=TCS) ahead s.2.1)).length:Int)-Z1)))) (K .ret (⟨[(6,.own 90 none),(7,dB false)],[(90,.arr false ag [])]⟩:St)) ((0<=i1)/\(i1<(s.2.2.2.2.2.1.length:Int))/\(0<=(nI s.2.2.2.2.2.1 i1))/\((nI s.2.2.2.2.2.1 i1)<(([]++(nth (t:=TCS) ahead s.2.1)).length:Int))/\((v1.length+([(nC ([]++(nth (t:=TCS) ahead s.2.1)) (nI s.2.2.2.2.2.1 i1))]:List ag.D).length) * 16<=lim)/\(nxT (LP80_1 tables ahead s) m K (s80_1 tables ahead s (wrap64 (i1+Z1)) (v1++[(nC ([]++(nth (t:=TCS) ahead s.2.1)) (nI s.2.2.2.2.2.1 i1))]))))) (K (.exit 1) (⟨[(9,.own 72 none)],[(72,.arr false ag v1)]⟩:St))):=by kernel_rfl
theorem lvc80_1 (tables:LTb) (ahead:(List LC)) (s:ah.D)  (v3:Int×LC) (m:Nat) (K:KX):lvT C80 (L80 tables ahead s) ann80 f80 1 3 (s80_3 tables ahead s v3) m K =
 (cond (decide (v3.1<(v3.2.length:Int))) ((0<=v3.1)/\(v3.1<(v3.2.length:Int))/\(0<=s.2.2.1)/\(s.2.2.1<(ahead.length:Int))/\(0<=v3.1)/\(v3.1<((nth (t:=TCS) ahead s.2.2.1).length:Int))/\cond (!decide ((nC v3.2 v3.1).1=(nC (nth (t:=TCS) ahead s.2.2.1) v3.1).1)) (K .ret (⟨[(6,.own 159 none),(7,dB false)],[(159,.arr false ag [])]⟩:St)) ((0<=v3.1)/\(v3.1<(v3.2.length:Int))/\cond ((nC v3.2 v3.1).2.1==false) ((0<=s.2.2.1)/\(s.2.2.1<(ahead.length:Int))/\(0<=v3.1)/\(v3.1<((nth (t:=TCS) ahead s.2.2.1).length:Int))/\(0<=v3.1)/\(v3.1<(v3.2.length:Int))/\(let y1:LC:=(v3.2.set v3.1.toNat ((nC v3.2 v3.1).1,(nC (nth (t:=TCS) ahead s.2.2.1) v3.1).2));(nxT (LP80_3 tables ahead s) m K (s80_3 tables ahead s (wrap64 (v3.1+Z1),y1))))) ((0<=v3.1)/\(v3.1<(v3.2.length:Int))/\(nxT (LP80_3 tables ahead s) m K (s80_3 tables ahead s (wrap64 (v3.1+Z1),(v3.2.set v3.1.toNat ((nC v3.2 v3.1).1,(true,()))))))))) (K (.exit 3) (⟨[(8,.own 53 none)],[(53,.arr false ag v3.2)]⟩:St))):=by kernel_rfl
theorem con80_ok:bg P 80 c80:=bq C80 func80 (kC con39_ok (kC con131_ok (kC con132_ok kN))) fun args hp K h0=>by
 obtain⟨tables,ahead,s,rfl,rfl,h_tables,h_ahead,h_s,hK⟩:=g3e h0
 have h:ok (F.hU tables ahead s) (fun r=>K (.tup [.data TCS r.1,dB r.2]) []):=az (F.uA tables ahead s h_tables h_ahead h_s) (hK _ rfl)
 refine⟨rfl,ann80,(L80 tables ahead s),(.tup [TCS,Ty.bool]),(sw (i0:=1) (i1:=3) (by kernel_rfl) ?_ ?_),?_⟩
 ·rintro _ _ K ⟨hc1,i1,v1,rfl,hl1,rfl,hv1,h⟩
  exact cast (lvc80_0 _ _ _ _ _ _ _).symm (bf (t:=aE) hl1 h (fun ht1 h=>⟨hl1,⟨ht1,(oC h (fun _ h=>h) fun b_22 h=>⟨hl1,⟨ht1,⟨(eC (bnf b_22)),⟨(jT (bnf b_22)),(oG h fun _ h=>(aQ (t:=aE) (fun _ hm=>⟨hc1,hm⟩) _ rfl hl1 ht1 (aZ h_s.2.2.2.2.2.1) trivial h))⟩⟩⟩⟩)⟩⟩) fun h=>(h trivial))
 ·rintro _ _ K ⟨hc3,v3,rfl,hv3,h⟩
  exact cast (lvc80_1 _ _ _ _ _ _).symm (cC h (fun m1 hm3 h=>(oC h (fun _ h=>(oG h fun g1 h=>(oG h fun g2 h=>(oG h fun g3 h=>(oG h fun g4 h=>⟨g1,(oG h fun g5 h=>(oC h (fun _ h=>h) fun _ h=>⟨g1,⟨g2,(oC h (fun _ h=>⟨g3,⟨g4,⟨g1,⟨g5,⟨g1,⟨g2,(have h:=cB h _ rfl;(bD (fun _ hm=>⟨hc3,hm⟩) hm3 _ rfl trivial h))⟩⟩⟩⟩⟩⟩) fun _ h=>⟨g1,⟨g2,(bD (fun _ hm=>⟨hc3,hm⟩) hm3 _ rfl trivial h)⟩⟩)⟩⟩))⟩))))) fun _ h=>((cw h :) trivial))))
 ·rw[vc80]
  exact⟨h_s,(oC h (fun _ h=>h) fun _ h=>(oC h (fun _ h=>(oC h (fun _ h=>h) fun b_3 h=>⟨(eC (bnf b_3)),⟨(jT (bnf b_3)),⟨(kG (fY ag) (aH h_tables s.2.2.2.1).1 rfl),h⟩⟩⟩)) fun _ h=>(oC h (fun b_4 h=>(oC h (fun _ h=>h) fun b_5 h=>⟨(eC (bnf (bgt b_4))),⟨(jT (bnf (bgt b_4))),⟨(kG (fY ag) (aH h_ahead s.2.1) rfl),(oC h (fun _ h=>(oG h fun _ h=>⟨h_s.2.2.2.2.1,h⟩)) fun _ h=>(oC h (fun _ h=>(aR (t:=aE) (fun m hm=>⟨trivial,hm⟩) _ rfl trivial (aU h (fun v1 h hv1=>h) (fun q1 h=>h)))) fun _ h=>(oC h (fun _ h=>⟨(eC (bnf b_5)),⟨(jT (bnf b_5)),(oG h fun _ h=>(oC h (fun _ h=>(oG h fun _ h=>⟨h_s.2.2.2.2.1,h⟩)) fun _ h=>h))⟩⟩) fun _ h=>(oC h (fun _ h=>⟨(eC (bnf b_5)),⟨(jT (bnf b_5)),(oC h (fun _ h=>h) fun _ h=>(bV (fun m hm=>⟨trivial,hm⟩) _ rfl trivial (aU h (fun e3 h hv3=>h) (fun q3 h=>h))))⟩⟩) fun _ h=>(oC h (fun _ h=>h) fun _ h=>h)))))⟩⟩⟩)) fun _ h=>h)))⟩
def c81:Con:=⟨[.lent aE,.dat ah],fun args hp K=>g2 (pB aE) (pD ah) (fun ahead s=>(Sm (Ty.sl aE) ahead)/\(Sm ah s)/\(M.nK (ahead.length:Int) s)/\K (dI (M.aN ahead s)) []) args hp,.plain,false⟩
abbrev C81:Ctx:=cx [] 40 [] 0 false
def ann81:=an [[.fixRow 3 ah,kp 9],[kp 73],[kp 201],[kp 16],[kp 585],[kp 16],[kp 4194313],[kp 16],[kp 16]] []
theorem vc81 (ahead:LI) (s:ah.D) (K:KA):vcT C81 aA ann81 f81 [.brw aE ahead,.data ah s] [] (.dat aE) K =
 (cond (decide (s.1=Z1)) (K (dI Z6) []) (cond (decide (s.1=Z4)) ((0<=s.2.1)/\(s.2.1<(ahead.length:Int))/\(0<=s.2.2.1)/\(s.2.2.1<(ahead.length:Int))/\K (dI (wrap64 ((nI ahead s.2.1) * (nI ahead s.2.2.1)))) []) (cond (decide (s.1=Z5)) ((0<=s.2.1)/\(s.2.1<(ahead.length:Int))/\(0<=s.2.2.1)/\(s.2.2.1<(ahead.length:Int))/\K (dI (wrap64 ((nI ahead s.2.1)+(nI ahead s.2.2.1)))) []) ((0<=s.2.1)/\(s.2.1<(ahead.length:Int))/\K (dI (nI ahead s.2.1)) [])))):=by kernel_rfl
theorem con81_ok:bg P 81 c81:=bq C81 func81 kN fun args hp K h0=>by
 obtain⟨ahead,s,rfl,rfl,h_ahead,h_s,p0,hK⟩:=g2e h0
 have h:ok (F.rR ahead s) (fun r=>K (dI r) []):=az (F.zn ahead s h_ahead h_s p0) hK
 refine⟨rfl,ann81,aA,(.dat aE),(aG (by kernel_rfl)),?_⟩
 ·rw[vc81]
  exact(oC h (fun _ h=>h) fun _ h=>(oC h (fun _ h=>(oG h fun _ h=>(oG h fun _ h=>(oG h fun _ h=>(oG h fun _ h=>h))))) fun _ h=>(oC h (fun _ h=>(oG h fun _ h=>(oG h fun _ h=>(oG h fun _ h=>(oG h fun _ h=>h))))) fun _ h=>(oG h fun _ h=>(oG h fun _ h=>h)))))
def c37:Con:=⟨[.dat TTb,.lent ah],fun args hp K=>g2 (pD TTb) (pB ah) (fun tables plan=>(Sm TTb tables)/\(Sm TSS plan)/\(LD (M.cT tables plan) fun r=>K (.tup [.data (Ty.sl TCS) r.1,dB r.2]) [])) args hp,.plain,false⟩
abbrev C37:Ctx:=cx [(80,c80),(81,c81)] 52 [] 0 false
def ann37:=an [[kp 3],[kp 67],[kp 195],[kp 451],[kp 65987],[kp 451],[kp 1987],[kp 1073742787],[.freeze 31,kp 48],[kp 451],[kp 451],[kp 562949953421763],[.freeze 50,kp 48],[kp 48]] [[kp 64]]
abbrev s37_0 (tables:LTb) (plan:LS) (i0:Int) (v0:(List LC)×LI):St:=⟨[(0,.data TTb tables),(1,.brw ah plan),(6,.own 11 none),(7,.own 12 none),(8,dI i0)],[(11,.arr false TCS v0.1),(12,.arr false aE v0.2)]⟩
abbrev LP37_0 (tables:LTb) (plan:LS) (m:Nat) (st_:St) (K:KX):Prop:=True/\cI (s37_0 tables plan) Z0 (plan.length:Int) (F.iS tables plan) (fun v0:(List LC)×LI=>True) (br (fun v0:(List LC)×LI=>True->K (.exit 0) (⟨[(6,.own 11 none)],[(11,.arr false TCS v0.1)]⟩:St)) (fun q0:Unit=>K .ret (⟨[(4,.data (Ty.sl TCS) []),(5,dB false)],[]⟩:St))) m st_
def L37 (tables:LTb) (plan:LS):bE:=lp1 0 (LP37_0 tables plan)
theorem vc37 (tables:LTb) (plan:LS) (K:KA):vcT C37 (L37 tables plan) ann37 f37 [.data TTb tables,.brw ah plan] [] (.tup [(Ty.sl TCS),Ty.bool]) K =
 (∃m_,True/\cI (s37_0 tables plan) Z0 (plan.length:Int) (F.iS tables plan) (fun v0:(List LC)×LI=>True) (br (fun v0:(List LC)×LI=>True->K (.tup [.data (Ty.sl TCS) v0.1,dB true]) []) (fun q0:Unit=>K (.tup [.data (Ty.sl TCS) [],dB false]) [])) m_ (s37_0 tables plan Z0 ([],[]))):=by kernel_rfl
theorem lvc37_0 (tables:LTb) (plan:LS)  (i0:Int) (v0:(List LC)×LI) (m:Nat) (K:KX):lvT C37 (L37 tables plan) ann37 f37 0 0 (s37_0 tables plan i0 v0) m K =
 (cond (decide (i0<(plan.length:Int))) ((0<=i0)/\(i0<(plan.length:Int))/\(Sm TTb tables)/\(Sm (Ty.sl TCS) v0.1)/\(Sm ah (nS plan i0))/\(LD (M.fI tables v0.1 (nS plan i0)) fun r1=>cond (!r1.2) (K .ret (⟨[(4,.data (Ty.sl TCS) []),(5,dB false)],[]⟩:St)) (((v0.1.length+[r1.1].length) * 24<=lim)/\(0<=i0)/\(i0<(plan.length:Int))/\(Sm (Ty.sl aE) v0.2)/\(Sm ah (nS plan i0))/\(M.nK (v0.2.length:Int) (nS plan i0))/\((v0.2.length+[(M.aN v0.2 (nS plan i0))].length) * 8<=lim)/\(0<=i0)/\(i0<((v0.2++[(M.aN v0.2 (nS plan i0))]).length:Int))/\cond (decide ((300:Int)<(nI (v0.2++[(M.aN v0.2 (nS plan i0))]) i0))) (K .ret (⟨[(4,.data (Ty.sl TCS) []),(5,dB false)],[]⟩:St)) (nxT (LP37_0 tables plan) m K (s37_0 tables plan (wrap64 (i0+Z1)) ((v0.1++[r1.1]),(v0.2++[(M.aN v0.2 (nS plan i0))]))))))) (K (.exit 0) (⟨[(6,.own 11 none)],[(11,.arr false TCS v0.1)]⟩:St))):=by kernel_rfl
theorem con37_ok:bg P 37 c37:=bq C37 func37 (kC con80_ok (kC con81_ok kN)) fun args hp K h0=>by
 obtain⟨tables,plan,rfl,rfl,h_tables,h_plan,hK⟩:=g2e h0
 have h:ok (F.tF tables plan) (fun r=>K (.tup [.data (Ty.sl TCS) r.1,dB r.2]) []):=az (F.Bl tables plan h_tables h_plan) (hK _ rfl)
 refine⟨rfl,ann37,(L37 tables plan),(.tup [(Ty.sl TCS),Ty.bool]),(bA (i0:=0) (by kernel_rfl) ?_),?_⟩
 ·rintro _ _ K ⟨hc0,i0,v0,rfl,hl0,rfl,hv0,h⟩
  exact cast (lvc37_0 _ _ _ _ _ _).symm (cj h (fun ht0 h=>⟨hl0,⟨ht0,⟨h_tables,(oG h fun _ h=>⟨(aH h_plan i0),(oL h fun _ _ h=>(oC h (fun _ h=>h) fun _ h=>(oG h fun _ h=>⟨hl0,⟨ht0,(oG h fun _ h=>⟨(aH h_plan i0),(oG h fun _ h=>(oG h fun _ h=>⟨hl0,(oG h fun _ h=>(oC h (fun _ h=>h) fun _ h=>(aT (fun _ hm=>⟨hc0,hm⟩) _ rfl hl0 fS ht0 (aZ h_plan) trivial h)))⟩))⟩)⟩⟩)))⟩)⟩⟩⟩) fun h=>(h trivial))
 ·rw[vc37]
  exact(bN (fun m hm=>⟨trivial,hm⟩) Z0 _ rfl (Int.natCast_nonneg 0) trivial (aU h (fun v0 h hv0=>h) (fun q0 h=>h)))
end Go.AE
