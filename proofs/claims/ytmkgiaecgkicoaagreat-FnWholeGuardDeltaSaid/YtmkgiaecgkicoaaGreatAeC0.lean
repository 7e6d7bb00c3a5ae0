/- Contracts. -/
import Derived.Test.YtmkgiaecgkicoaaGreatAeInl
import Derived.Test.YtmkgiaecgkicoaaGreatAeEq
import Derived.Test.YtmkgiaecgkicoaaGreatAeDel
namespace Go.AE
open Go Go.RowKit Go.Proofs.Tryz
set_option maxRecDepth 100000
set_option maxHeartbeats 2000000
set_option linter.unusedVariables false
abbrev Q0 (p:Prop):Prop:=(p/\p)
theorem q0 {p:Prop} (h:p):Q0 p:=⟨h,h⟩
abbrev Q1 (p:Prop):Prop:=(p/\(p/\(p/\p)))
theorem q1 {p:Prop} (h:p):Q1 p:=⟨h,⟨h,⟨h,h⟩⟩⟩
abbrev Q2 (p:Prop):Prop:=(p/\(p/\p))
theorem q2 {p:Prop} (h:p):Q2 p:=⟨h,⟨h,h⟩⟩
abbrev Q3 (p:Prop):Prop:=((p/\(p/\p))/\((p/\p)/\p))
theorem q3 {p:Prop} (h:p):Q3 p:=⟨⟨h,⟨h,h⟩⟩,⟨⟨h,h⟩,h⟩⟩
abbrev Q4 (p:Prop):Prop:=((p/\p)/\p)
theorem q4 {p:Prop} (h:p):Q4 p:=⟨⟨h,h⟩,h⟩
abbrev Q5 (p:Prop):Prop:=((p/\p)/\(p/\(p/\p))/\(p/\(p/\p)))
theorem q5 {p:Prop} (h:p):Q5 p:=⟨⟨h,h⟩,⟨h,⟨h,h⟩⟩,⟨h,⟨h,h⟩⟩⟩
def c132:Con:=⟨[.dat aE,.dat aE,.dat aE],fun args hp K=>g3 (pD aE) (pD aE) (pD aE) (fun n low high=>K (dB (M.inR n low high)) []) args hp,.plain,false⟩
abbrev C132:Ctx:=cx [] 15 [] 0 false
def ann132:=an [[kp 7],[kp 64]] []
theorem vc132 (n:Int) (low:Int) (high:Int) (K:KA):vcT C132 aB ann132 f132 [dI n,dI low,dI high] [] (.dat Ty.bool) K =
 (cond ((decide (low<=n))==true) (K (dB (decide (n<=high))) []) (K (dB false) [])):=by kernel_rfl
theorem con132_ok:bt P 132 c132:=bA C132 func132 kN fun args hp K h0=>by
 obtain⟨n,low,high,rfl,rfl,hK⟩:=g3e h0
 have h:ok (F.qD n low high) (fun r=>K (dB r) []):=aA (F.yI n low high) hK
 refine⟨rfl,ann132,aB,(.dat Ty.bool),(aL (by kernel_rfl)),?_⟩
 ·rw[vc132]
  exact(oC h (fun _ h=>h) fun _ h=>h)
def c189:Con:=⟨[.dat Ty.str],fun args hp K=>g1 (pD Ty.str) (fun s=>(Sm Ty.str s)/\K (dB (M.lower (cj s))) []) args hp,.plain,false⟩
abbrev C189:Ctx:=cx [(132,c132)] 17 [] 0 false
def ann189:=an [[kp 1],[kp 448],[kp 960],[kp 464],[kp 33216],[kp 4],[kp 448],[kp 4]] [[kp 0]]
abbrev s189_0 (s:ByteArray) (i0:Int) (v0:Unit):St:=⟨[(6,.data TBy (cj s)),(7,dI ((cj s).length:Int)),(8,dI i0)],[]⟩
abbrev LP189_0 (s:ByteArray) (m:Nat) (st_:St) (K:KX):Prop:=True/\cw (t:=(Ty.int .u8)) (s189_0 s) (cj s) (F.jt s) (fun v0:Unit=>True) (bz (fun v0:Unit=>True->K (.exit 0) (⟨[],[]⟩:St)) (fun q0:Unit=>K .ret (⟨[(2,dB false)],[]⟩:St))) m st_
def L189 (s:ByteArray):bK:=lp1 0 (LP189_0 s)
theorem vc189 (s:ByteArray) (K:KA):vcT C189 (L189 s) ann189 f189 [.data Ty.str s] [] (.dat Ty.bool) K =
 (∃m_,True/\cw (t:=(Ty.int .u8)) (s189_0 s) (cj s) (F.jt s) (fun v0:Unit=>True) (bz (fun v0:Unit=>True->K (dB true) []) (fun q0:Unit=>K (dB false) [])) m_ (s189_0 s Z0 ())):=by kernel_rfl
theorem lvc189_0 (s:ByteArray)  (i0:Int) (v0:Unit) (m:Nat) (K:KX):lvT C189 (L189 s) ann189 f189 0 0 (s189_0 s i0 v0) m K =
 (cond (decide (i0<((cj s).length:Int))) ((0<=i0)/\(i0<((cj s).length:Int))/\cond (!(M.inR (wrap64 (@nth (Ty.int .u8) (cj s) i0)) (97:Int) (122:Int))) (K .ret (⟨[(2,dB false)],[]⟩:St)) (nxT (LP189_0 s) m K (s189_0 s (wrap64 (i0+Z1)) ()))) (K (.exit 0) (⟨[],[]⟩:St))):=by kernel_rfl
theorem con189_ok:bt P 189 c189:=bA C189 func189 (kC con132_ok kN) fun args hp K h0=>by
 obtain⟨s,rfl,rfl,h_s,hK⟩:=g1e h0
 have h:ok (F.qs s) (fun r=>K (dB r) []):=aA (F.yJ s h_s) hK
 refine⟨rfl,ann189,(L189 s),(.dat Ty.bool),(bW (i0:=0) (by kernel_rfl) ?_),?_⟩
 ·rintro _ _ K ⟨hc0,i0,v0,rfl,hl0,rfl,hv0,h⟩
  exact cast (lvc189_0 _ _ _ _ _).symm (bD (t:=(Ty.int .u8)) hl0 h (fun ht0 h=>⟨hl0,⟨ht0,(oC h (fun _ h=>h) fun _ h=>(br (t:=(Ty.int .u8)) (fun _ hm=>⟨hc0,hm⟩) _ rfl hl0 ht0 (bC (Ik h_s)) trivial h))⟩⟩) fun h=>(h trivial))
 ·rw[vc189]
  exact(bu (t:=(Ty.int .u8)) (fun m hm=>⟨trivial,hm⟩) _ rfl trivial (bn h (fun v0 h hv0=>h) (fun q0 h=>h)))
def c131:Con:=⟨[.dat af],fun args hp K=>g1 (pD af) (fun v=>(Sm af v)/\K (dB (M.aY v)) []) args hp,.plain,false⟩
abbrev C131:Ctx:=cx [(132,c132),(189,c189)] 46 [] 0 false
def ann131:=an [[.fixRow 1 af,kp 2],[kp 18],[kp 50],[kp 4],[kp 1042],[kp 4],[kp 1048594],[kp 4],[.keep [1,36]],[kp 4],[kp 4]] []
theorem vc131 (v:af.D) (K:KA):vcT C131 aB ann131 f131 [.data af v] [] (.dat Ty.bool) K =
 (cond (decide (v.1=Z0)) (K (dB (Ty.beq af v (Z0,(Z0,((⟨#[]⟩:ByteArray),()))))) []) (cond (decide (v.1=Z1)) (cond ((decide (v.2.2.1=(⟨#[]⟩:ByteArray)))==true) (K (dB (M.inR v.2.1 (-9999:Int) (9999:Int))) []) (K (dB false) [])) (cond (decide (v.1=Z2)) (cond ((decide (v.2.1=Z0))==true) (cond ((decide ((v.2.2.1.size:Int)<=Z6))==true) ((Sm Ty.str v.2.2.1)/\K (dB (M.lower (cj v.2.2.1))) []) (K (dB false) [])) (K (dB false) [])) (cond (decide (v.1=Z3)) (cond ((decide (v.2.2.1=(⟨#[]⟩:ByteArray)))==true) (K (dB (M.inR v.2.1 Z0 Z1)) []) (K (dB false) [])) (K (dB false) []))))):=by kernel_rfl
theorem con131_ok:bt P 131 c131:=bA C131 func131 (kC con132_ok (kC con189_ok kN)) fun args hp K h0=>by
 obtain⟨v,rfl,rfl,h_v,hK⟩:=g1e h0
 have h:ok (F.oE v) (fun r=>K (dB r) []):=aA (F.xm v h_v) hK
 refine⟨rfl,ann131,aB,(.dat Ty.bool),(aL (by kernel_rfl)),?_⟩
 ·rw[vc131]
  exact(oC h (fun _ h=>h) fun _ h=>(oC h (fun _ h=>(oC h (fun _ h=>h) fun _ h=>h)) fun _ h=>(oC h (fun _ h=>(oC h (fun _ h=>(oC h (fun _ h=>⟨h_v.2.2.1,h⟩) fun _ h=>h)) fun _ h=>h)) fun _ h=>(oC h (fun _ h=>(oC h (fun _ h=>h) fun _ h=>h)) fun _ h=>h))))
def c70:Con:=⟨[.dat af],fun args hp K=>g1 (pD af) (fun v=>(Sm af v)/\K (dB (M.aY v)) []) args hp,.plain,false⟩
abbrev C70:Ctx:=cx [(131,c131)] 5 [] 0 false
def ann70:=an [[.fixRow 1 af,kp 2],[kp 4]] []
theorem vc70 (v:af.D) (K:KA):vcT C70 aB ann70 f70 [.data af v] [] (.dat Ty.bool) K =
 ((Sm af v)/\K (dB (M.aY v)) []):=by kernel_rfl
theorem con70_ok:bt P 70 c70:=bA C70 func70 (kC con131_ok kN) fun args hp K h0=>by
 obtain⟨v,rfl,rfl,h_v,hK⟩:=g1e h0
 have h:ok (F.vq v) (fun r=>K (dB r) []):=aA (F.yg v h_v) hK
 refine⟨rfl,ann70,aB,(.dat Ty.bool),(aL (by kernel_rfl)),?_⟩
 ·rw[vc70]
  exact⟨h_v,h⟩
def c26:Con:=⟨[],fun args hp K=>Is (K (dB true) []) args hp,.plain,false⟩
abbrev C26:Ctx:=cx [(70,c70)] 8 [] 0 false
def ann26:=an [[kp 0],[kp 1]] []
theorem vc26  (K:KA):vcT C26 aB ann26 f26 [] [] (.dat Ty.bool) K =
 ((Sm af (Z1,(Z3,((⟨#[]⟩:ByteArray),()))))/\cond ((M.aY (Z1,(Z3,((⟨#[]⟩:ByteArray),()))))==true) ((Sm af ((9:Int),(Z0,((⟨#[]⟩:ByteArray),()))))/\K (dB (!(M.aY ((9:Int),(Z0,((⟨#[]⟩:ByteArray),())))))) []) (K (dB false) [])):=by kernel_rfl
theorem con26_ok:bt P 26 c26:=bA C26 func26 (kC con70_ok kN) fun args hp K h0=>by
 obtain⟨rfl,rfl,h1⟩:=ER h0
 have hK:=h1
 have h:ok (F.uq) (fun r=>K (dB r) []):=aA (F.Bl) hK
 refine⟨rfl,ann26,aB,(.dat Ty.bool),(aL (by kernel_rfl)),?_⟩
 ·rw[vc26]
  exact⟨(show Sm af _ from⟨trivial,(show Sm (Ty.pair aE (Ty.pair Ty.str Ty.unit)) _ from⟨trivial,(show Sm (Ty.pair Ty.str Ty.unit) _ from⟨(Nat.le_of_ble_eq_true rfl),trivial⟩)⟩)⟩),(oC h (fun _ h=>⟨(show Sm af _ from⟨trivial,(show Sm (Ty.pair aE (Ty.pair Ty.str Ty.unit)) _ from⟨trivial,(show Sm (Ty.pair Ty.str Ty.unit) _ from⟨(Nat.le_of_ble_eq_true rfl),trivial⟩)⟩)⟩),h⟩) fun _ h=>h)⟩
abbrev C65:Ctx:=cx [] 11 [] 200000 false
def T65:Inl:=rR C65 (fun _=>[]) (dO f65) f65.results.toList
theorem inlOk65:sw P 65 T65:=wA C65 func65 kN
def c67:Con:=⟨[.any,.dat aE],fun args hp K=>hpR (fun b p=>args2 (fun a0 a1=>mc a0 (dA aE a1 fun n=>(Sm TBy b)/\(M.ay b)/\(0<=p)/\(p<=1000000000000000)/\(LD (M.pick b p n) fun r=>K (dI r.1) [(1000000,.box [.data TBy b,dI r.2])]))) args []) hp,.plain,true⟩
abbrev C67:Ctx:=cx [] 99 [] 0 false
def ann67:=an [[kp 3],[kp 3],[kp 16777219],[kp 16],[kp 35],[kp 68719476771],[kp 16],[kp 66],[kp 66],[kp 16]] []
abbrev S67_0 (b:LI) (p:Int) (n:Int) (K:KA):Prop:=K (dI Z0) [(1000000,.box [.data TBy b,dI (wrap64 (p+Z1))])]
abbrev S67_1 (b:LI) (p:Int) (n:Int) (K:KA):Prop:=((64:Int)≠0)/\(n≠0)/\K (dI ((nY .xor .i64 (wrap64 (wrap64 (wrap64 (wrap64 ((wrap64 (@nth (Ty.int .u8) b ((wrap64 (wrap64 (p+Z1)-Z1)).tmod (b.length:Int)))) * (131:Int))+wrap64 ((wrap64 (@nth (Ty.int .u8) b ((wrap64 (wrap64 ((wrap64 (wrap64 (p+Z1)-Z1)) * (7:Int))+Z3)).tmod (b.length:Int)))) * (1117:Int)))+wrap64 ((wrap64 (wrap64 (p+Z1)-Z1)) * (29:Int)))+wrap64 ((wrap64 ((wrap64 (wrap64 (p+Z1)-Z1)).tdiv (b.length:Int))) * (53:Int)))) (wrap64 ((wrap64 (wrap64 (wrap64 (wrap64 ((wrap64 (@nth (Ty.int .u8) b ((wrap64 (wrap64 (p+Z1)-Z1)).tmod (b.length:Int)))) * (131:Int))+wrap64 ((wrap64 (@nth (Ty.int .u8) b ((wrap64 (wrap64 ((wrap64 (wrap64 (p+Z1)-Z1)) * (7:Int))+Z3)).tmod (b.length:Int)))) * (1117:Int)))+wrap64 ((wrap64 (wrap64 (p+Z1)-Z1)) * (29:Int)))+wrap64 ((wrap64 ((wrap64 (wrap64 (p+Z1)-Z1)).tdiv (b.length:Int))) * (53:Int)))).tdiv (64:Int)))).tmod n)) [(1000000,.box [.data TBy b,dI (wrap64 (p+Z1))])]
abbrev S67_2 (b:LI) (p:Int) (n:Int) (K:KA):Prop:=(S67_1 b p n K)
theorem vc67 (b:LI) (p:Int) (n:Int) (K:KA):vcT C67 aB ann67 f67 [.ptr 1000000 0,dI n] [(1000000,.box [.data TBy b,dI p])] (.dat aE) K =
 (cond ((decide (n<Z1))==false) (cond (decide ((b.length:Int)=Z0)) (S67_0 b p n K) (cond (decide (wrap64 (wrap64 (p+Z1)-Z1)<(b.length:Int))) ((0<=wrap64 (wrap64 (p+Z1)-Z1))/\(wrap64 (wrap64 (p+Z1)-Z1)<(b.length:Int))/\(n≠0)/\K (dI ((wrap64 (@nth (Ty.int .u8) b (wrap64 (wrap64 (p+Z1)-Z1)))).tmod n)) [(1000000,.box [.data TBy b,dI (wrap64 (p+Z1))])]) (((b.length:Int)≠0)/\(0<=((wrap64 (wrap64 (p+Z1)-Z1)).tmod (b.length:Int)))/\(((wrap64 (wrap64 (p+Z1)-Z1)).tmod (b.length:Int))<(b.length:Int))/\((b.length:Int)≠0)/\(0<=((wrap64 (wrap64 ((wrap64 (wrap64 (p+Z1)-Z1)) * (7:Int))+Z3)).tmod (b.length:Int)))/\(((wrap64 (wrap64 ((wrap64 (wrap64 (p+Z1)-Z1)) * (7:Int))+Z3)).tmod (b.length:Int))<(b.length:Int))/\((b.length:Int)≠0)/\Q0 (S67_2 b p n K)))) (S67_0 b p n K)):=by kernel_rfl
theorem con67_ok:bt P 67 c67:=bA C67 func67 kN fun args hp K h0=>by
 unfold c67 at h0
 dsimp only at h0
 obtain⟨b,p,rfl,h00⟩:=fq h0
 obtain⟨a0,a1,rfl,_,h1⟩:=bZ h00
 obtain⟨rfl,h2⟩:=dw h1
 obtain⟨n,rfl,h3⟩:=aP h2
 obtain⟨h_b,p0,p1,p2,hK⟩:=h3
 have h:ok (F.pF b p n) (fun r=>K (dI r.1) [(1000000,.box [.data TBy b,dI r.2])]):=aA (F.CN b p n h_b p0 p1 p2) (hK _ rfl)
 refine⟨rfl,ann67,aB,(.dat aE),(aL (by kernel_rfl)),?_⟩
 ·rw[vc67]
  exact(oC h (fun _ h=>(oC h (fun _ h=>h) fun _ h=>(oC h (fun _ h=>(oG h fun _ h=>(oG h fun _ h=>(oG h fun _ h=>h)))) fun _ h=>(oG h fun g1 h=>(oG h fun _ h=>(oG h fun _ h=>⟨g1,(oG h fun _ h=>(oG h fun _ h=>⟨g1,(q0 (⟨(by decide),(oG h fun _ h=>h)⟩))⟩))⟩)))))) fun _ h=>h)
def c110:Con:=⟨[.dat TVS],fun args hp K=>g1 (pD TVS) (fun row=>(Sm TVS row)/\(LD row fun r=>K (.own 0 none) [(0,.arr .sh af r)])) args hp,.bor,false⟩
abbrev C110:Ctx:=cx [] 6 [] 0 false
def ann110:=an [[kp 1],[kp 4]] []
theorem vc110 (row:LV) (K:KA):vcT C110 aB ann110 f110 [.data TVS row] [] .raw K =
 (((([]:List af.D).length+row.length) * 32<=lim)/\K (.own 0 none) [(0,.arr .sh af ([]++row))]):=by kernel_rfl
theorem con110_ok:bt P 110 c110:=bA C110 func110 kN fun args hp K h0=>by
 obtain⟨row,rfl,rfl,h_row,hK⟩:=g1e h0
 have h:ok (F.Az row) (fun r=>K (.own 0 none) [(0,.arr .sh af r)]):=aA (F.Bd row h_row) (hK _ rfl)
 refine⟨rfl,ann110,aB,.raw,(aL (by kernel_rfl)),?_⟩
 ·rw[vc110]
  exact⟨(vi (kJ af) h_row rfl),h⟩
def c129:Con:=⟨[.any,.dat aE],fun args hp K=>hpR (fun b p=>args2 (fun a0 a1=>mc a0 (dA aE a1 fun n=>(Sm TBy b)/\(M.ay b)/\(0<=p)/\(p<=999000000000000)/\(LD (M.odd b p n) fun r=>K (dB r.1) [(1000000,.box [.data TBy b,dI r.2])]))) args []) hp,.plain,true⟩
abbrev C129:Ctx:=cx [(67,c67)] 15 [] 0 false
def ann129:=an [[kp 3],[kp 16]] []
theorem vc129 (b:LI) (p:Int) (n:Int) (K:KA):vcT C129 aB ann129 f129 [.ptr 1000000 0,dI n] [(1000000,.box [.data TBy b,dI p])] (.dat Ty.bool) K =
 (cond ((decide (Z0<n))==true) ((Sm TBy b)/\(M.ay b)/\(0<=p)/\(p<=1000000000000000)/\(LD (M.pick b p n) fun r1=>K (dB (decide (r1.1=wrap64 (n-Z1)))) [(1000000,.box [.data TBy b,dI r1.2])])) (K (dB false) [(1000000,.box [.data TBy b,dI p])])):=by kernel_rfl
theorem con129_ok:bt P 129 c129:=bA C129 func129 (kC con67_ok kN) fun args hp K h0=>by
 unfold c129 at h0
 dsimp only at h0
 obtain⟨b,p,rfl,h00⟩:=fq h0
 obtain⟨a0,a1,rfl,_,h1⟩:=bZ h00
 obtain⟨rfl,h2⟩:=dw h1
 obtain⟨n,rfl,h3⟩:=aP h2
 obtain⟨h_b,p0,p1,p2,hK⟩:=h3
 have h:ok (F.sj b p n) (fun r=>K (dB r.1) [(1000000,.box [.data TBy b,dI r.2])]):=aA (F.DC b p n h_b p0 p1 p2) (hK _ rfl)
 refine⟨rfl,ann129,aB,(.dat Ty.bool),(aL (by kernel_rfl)),?_⟩
 ·rw[vc129]
  exact(oC h (fun _ h=>⟨h_b,⟨p0,⟨p1,(oG h fun _ h=>(oL h fun _ _ h=>h))⟩⟩⟩) fun _ h=>h)
def c187:Con:=⟨[.any,.dat ag],fun args hp K=>hpR (fun b p=>args2 (fun a0 a1=>mc a0 (dA ag a1 fun c=>(Sm TBy b)/\(M.ay b)/\(0<=p)/\(p<=998000000000000)/\(LD (M.kY b p c) fun r=>K (.data af r.1) [(1000000,.box [.data TBy b,dI r.2])]))) args []) hp,.plain,true⟩
abbrev C187:Ctx:=cx [(67,c67)] 31 [] 0 false
def ann187:=an [[.fixRow 3 ag,kp 25],[kp 2073],[kp 16],[kp 16401],[kp 49169],[kp 16],[kp 1048593],[kp 16],[kp 16]] []
theorem vc187 (b:LI) (p:Int) (c:ag.D) (K:KA):vcT C187 aB ann187 f187 [.ptr 1000000 0,.data ag c] [(1000000,.box [.data TBy b,dI p])] (.dat af) K =
 (cond (c.2.1==true) ((Sm TBy b)/\(M.ay b)/\(0<=p)/\(p<=1000000000000000)/\(LD (M.pick b p Z5) fun r1=>cond (decide (r1.1=Z0)) (K (.data af (Z0,(Z0,((⟨#[]⟩:ByteArray),())))) [(1000000,.box [.data TBy b,dI r1.2])]) (cond (decide (c.1=Z1)) ((Sm TBy b)/\(M.ay b)/\(0<=r1.2)/\(r1.2<=1000000000000000)/\(LD (M.pick b r1.2 Z4) fun r2=>K (.data af (Z1,(r2.1,((⟨#[]⟩:ByteArray),())))) [(1000000,.box [.data TBy b,dI r2.2])])) (cond (decide (c.1=Z2)) ((Sm TBy b)/\(M.ay b)/\(0<=r1.2)/\(r1.2<=1000000000000000)/\(LD (M.pick b r1.2 Z4) fun r3=>(0<=r3.1)/\(r3.1<([(⟨#[]⟩:ByteArray),(⟨#[97]⟩:ByteArray),(⟨#[98]⟩:ByteArray),(⟨#[97,98]⟩:ByteArray)].length:Int))/\K (.data af (Z2,(Z0,((@nth Ty.str [(⟨#[]⟩:ByteArray),(⟨#[97]⟩:ByteArray),(⟨#[98]⟩:ByteArray),(⟨#[97,98]⟩:ByteArray)] r3.1),())))) [(1000000,.box [.data TBy b,dI r3.2])])) ((Sm TBy b)/\(M.ay b)/\(0<=r1.2)/\(r1.2<=1000000000000000)/\(LD (M.pick b r1.2 Z2) fun r4=>K (.data af (Z3,(r4.1,((⟨#[]⟩:ByteArray),())))) [(1000000,.box [.data TBy b,dI r4.2])])))))) (cond (decide (c.1=Z1)) ((Sm TBy b)/\(M.ay b)/\(0<=p)/\(p<=1000000000000000)/\(LD (M.pick b p Z4) fun r2=>K (.data af (Z1,(r2.1,((⟨#[]⟩:ByteArray),())))) [(1000000,.box [.data TBy b,dI r2.2])])) (cond (decide (c.1=Z2)) ((Sm TBy b)/\(M.ay b)/\(0<=p)/\(p<=1000000000000000)/\(LD (M.pick b p Z4) fun r3=>(0<=r3.1)/\(r3.1<([(⟨#[]⟩:ByteArray),(⟨#[97]⟩:ByteArray),(⟨#[98]⟩:ByteArray),(⟨#[97,98]⟩:ByteArray)].length:Int))/\K (.data af (Z2,(Z0,((@nth Ty.str [(⟨#[]⟩:ByteArray),(⟨#[97]⟩:ByteArray),(⟨#[98]⟩:ByteArray),(⟨#[97,98]⟩:ByteArray)] r3.1),())))) [(1000000,.box [.data TBy b,dI r3.2])])) ((Sm TBy b)/\(M.ay b)/\(0<=p)/\(p<=1000000000000000)/\(LD (M.pick b p Z2) fun r4=>K (.data af (Z3,(r4.1,((⟨#[]⟩:ByteArray),())))) [(1000000,.box [.data TBy b,dI r4.2])]))))):=by kernel_rfl
theorem con187_ok:bt P 187 c187:=bA C187 func187 (kC con67_ok kN) fun args hp K h0=>by
 unfold c187 at h0
 dsimp only at h0
 obtain⟨b,p,rfl,h00⟩:=fq h0
 obtain⟨a0,a1,rfl,_,h1⟩:=bZ h00
 obtain⟨rfl,h2⟩:=dw h1
 obtain⟨c,rfl,h3⟩:=aP h2
 obtain⟨h_b,p0,p1,p2,hK⟩:=h3
 have h:ok (F.jZ b p c) (fun r=>K (.data af r.1) [(1000000,.box [.data TBy b,dI r.2])]):=aA (F.xZ b p c h_b p0 p1 p2) (hK _ rfl)
 refine⟨rfl,ann187,aB,(.dat af),(aL (by kernel_rfl)),?_⟩
 ·rw[vc187]
  exact(oC h (fun _ h=>⟨h_b,⟨p0,⟨p1,(oG h fun _ h=>(oL h fun _ _ h=>(oC h (fun _ h=>h) fun _ h=>(oC h (fun _ h=>⟨h_b,⟨p0,(oG h fun _ h=>(oG h fun _ h=>(oL h fun _ _ h=>h)))⟩⟩) fun _ h=>(oC h (fun _ h=>⟨h_b,⟨p0,(oG h fun _ h=>(oG h fun _ h=>(oL h fun _ _ h=>(oG h fun _ h=>(oG h fun _ h=>h)))))⟩⟩) fun _ h=>⟨h_b,⟨p0,(oG h fun _ h=>(oG h fun _ h=>(oL h fun _ _ h=>h)))⟩⟩)))))⟩⟩⟩) fun _ h=>(oC h (fun _ h=>⟨h_b,⟨p0,⟨p1,(oG h fun _ h=>(oL h fun _ _ h=>h))⟩⟩⟩) fun _ h=>(oC h (fun _ h=>⟨h_b,⟨p0,⟨p1,(oG h fun _ h=>(oL h fun _ _ h=>(oG h fun _ h=>(oG h fun _ h=>h))))⟩⟩⟩) fun _ h=>⟨h_b,⟨p0,⟨p1,(oG h fun _ h=>(oL h fun _ _ h=>h))⟩⟩⟩)))
def c188:Con:=⟨[.any,.dat aE],fun args hp K=>hpR (fun b p=>args2 (fun a0 a1=>mc a0 (dA aE a1 fun n=>(Sm TBy b)/\(M.ay b)/\(0<=p)/\(p<=998000000000000)/\(LD (M.fE b p n) fun r=>K (.data af r.1) [(1000000,.box [.data TBy b,dI r.2])]))) args []) hp,.plain,true⟩
abbrev C188:Ctx:=cx [(67,c67),(129,c129)] 77 [] 0 false
def ann188:=an [[kp 19],[kp 51],[kp 563],[kp 51],[kp 8755],[kp 33331],[kp 33331],[kp 33331],[kp 51],[kp 33554483],[kp 51],[kp 4294967859],[kp 4294967347],[kp 51],[kp 115],[kp 549755814003],[kp 115],[kp 115],[.keep [0,4,5,54]],[.keep [0,4,5,56]],[kp 48],[kp 2377900603251621937],[kp 48],[kp 18518801667747479601],[kp 48],[.keep [0,4,5,70]],[kp 48],[kp 16]] [[kp 51],[kp 51]]
abbrev s188_0 (b:LI) (p:Int) (n:Int) (c0_0:Int) (c0_1:Int) (v0:Unit):St:=⟨[(0,.ptr 1000000 0),(1,dI n),(4,.ptr 4 0),(5,.ptr 5 0),(9,dI c0_0)],[(1000000,.box [.data TBy b,dI c0_1]),(4,.box [dI Z0,dI Z0,.data Ty.str (⟨#[]⟩:ByteArray)]),(5,.box [dI Z0,dI Z0,.data Ty.str (⟨#[]⟩:ByteArray)])]⟩
abbrev LP188_0 (b:LI) (p:Int) (n:Int) (m:Nat) (st_:St) (K:KX):Prop:=∃c0_0:Int,∃c0_1:Int,True/\de (s188_0 b p n c0_0 c0_1) (F.iQ b p n c0_0 c0_1) (fun v0:Unit=>True) (fun e0:Int×Int×Int×ByteArray=>True->K (.exit 0) (⟨[(0,.ptr 1000000 0),(1,dI n),(4,.ptr 4 0),(5,.ptr 5 0)],[(1000000,.box [.data TBy b,dI e0.1]),(4,.box [dI Z0,dI Z0,.data Ty.str (⟨#[]⟩:ByteArray)]),(5,.box [dI e0.2.1,dI e0.2.2.1,.data Ty.str e0.2.2.2])]⟩:St)) m st_
abbrev s188_1 (b:LI) (p:Int) (n:Int) (v1:Int×Int×ByteArray):St:=⟨[(0,.ptr 1000000 0),(1,dI n),(4,.ptr 4 0),(5,.ptr 5 0),(6,dI v1.1)],[(1000000,.box [.data TBy b,dI v1.2.1]),(4,.box [dI Z0,dI Z0,.data Ty.str (⟨#[]⟩:ByteArray)]),(5,.box [dI Z2,dI Z0,.data Ty.str v1.2.2])]⟩
abbrev LP188_1 (b:LI) (p:Int) (n:Int) (m:Nat) (st_:St) (K:KX):Prop:=True/\de (s188_1 b p n) (F.fe b p n) (fun v1:Int×Int×ByteArray=>True) (fun e1:Int×ByteArray=>True->K (.exit 1) (⟨[(0,.ptr 1000000 0),(1,dI n),(4,.ptr 4 0),(5,.ptr 5 0)],[(1000000,.box [.data TBy b,dI e1.1]),(4,.box [dI Z0,dI Z0,.data Ty.str (⟨#[]⟩:ByteArray)]),(5,.box [dI Z2,dI Z0,.data Ty.str e1.2])]⟩:St)) m st_
def L188 (b:LI) (p:Int) (n:Int):bK:=lp2 0 (LP188_0 b p n) 1 (LP188_1 b p n)
theorem vc188 (b:LI) (p:Int) (n:Int) (K:KA):vcT C188 (L188 b p n) ann188 (qY [(1000000,true)] f188) [.ptr 1000000 0,dI n] [(1000000,.box [.data TBy b,dI p])] (.dat af) K =
 ((Sm TBy b)/\(M.ay b)/\(0<=p)/\(p<=1000000000000000)/\(LD (M.pick b p (7:Int)) fun r1=>(∃m_,∃c0_0:Int,∃c0_1:Int,True/\de (s188_0 b p n c0_0 c0_1) (F.iQ b p n c0_0 c0_1) (fun v0:Unit=>True) (fun e0:Int×Int×Int×ByteArray=>True->(Sm TBy b)/\(M.ay b)/\(0<=e0.1)/\(e0.1<=999000000000000)/\(LD (M.odd b e0.1 n) fun r2=>cond r2.1 ((Sm TBy b)/\(M.ay b)/\(0<=r2.2)/\(r2.2<=1000000000000000)/\(LD (M.pick b r2.2 Z4) fun r3=>cond (decide (r3.1=Z0)) (K (.data af (e0.2.1,((10000:Int),(e0.2.2.2,())))) [(1000000,.box [.data TBy b,dI r3.2])]) (cond (decide (r3.1=Z1)) ((e0.2.2.2.size+(⟨#[97,98,99,100,101,102,103]⟩:ByteArray).size<=9223372036854775807)/\K (.data af (e0.2.1,(e0.2.2.1,((e0.2.2.2++(⟨#[97,98,99,100,101,102,103]⟩:ByteArray)),())))) [(1000000,.box [.data TBy b,dI r3.2])]) (cond (decide (r3.1=Z2)) ((Sm TBy b)/\(M.ay b)/\(0<=r3.2)/\(r3.2<=1000000000000000)/\(LD (M.pick b r3.2 (7:Int)) fun r4=>K (.data af (wrap64 (r4.1-Z1),(e0.2.2.1,(e0.2.2.2,())))) [(1000000,.box [.data TBy b,dI r4.2])])) ((e0.2.2.2.size+(⟨#[65]⟩:ByteArray).size<=9223372036854775807)/\K (.data af (e0.2.1,(e0.2.2.1,((e0.2.2.2++(⟨#[65]⟩:ByteArray)),())))) [(1000000,.box [.data TBy b,dI r3.2])]))))) (K (.data af (e0.2.1,(e0.2.2.1,(e0.2.2.2,())))) [(1000000,.box [.data TBy b,dI r2.2])]))) m_ (s188_0 b p n r1.1 r1.2 ())))):=by kernel_rfl
abbrev S188l0_0 (b:LI) (p:Int) (n:Int) (c0_0:Int) (c0_1:Int) (v0:Unit) (m:Nat) (K:KX):Prop:=(Sm TBy b)/\(M.ay b)/\(0<=c0_1)/\(c0_1<=1000000000000000)/\(LD (M.pick b c0_1 (7:Int)) fun r5=>(Sm TBy b)/\(M.ay b)/\(0<=r5.2)/\(r5.2<=1000000000000000)/\(LD (M.pick b r5.2 (8:Int)) fun r6=>cond (decide (r6.1=Z0)) ((Sm TBy b)/\(M.ay b)/\(0<=r6.2)/\(r6.2<=1000000000000000)/\(LD (M.pick b r6.2 Z5) fun r7=>(0<=r7.1)/\(r7.1<([(9999:Int),(-9999:Int),(255:Int),(256:Int),(-256:Int)].length:Int))/\K (.exit 0) (⟨[(0,.ptr 1000000 0),(1,dI n),(4,.ptr 4 0),(5,.ptr 5 0)],[(1000000,.box [.data TBy b,dI r7.2]),(4,.box [dI Z0,dI Z0,.data Ty.str (⟨#[]⟩:ByteArray)]),(5,.box [dI Z1,dI (nI [(9999:Int),(-9999:Int),(255:Int),(256:Int),(-256:Int)] r7.1),.data Ty.str (⟨#[]⟩:ByteArray)])]⟩:St))) (K (.exit 0) (⟨[(0,.ptr 1000000 0),(1,dI n),(4,.ptr 4 0),(5,.ptr 5 0)],[(1000000,.box [.data TBy b,dI r6.2]),(4,.box [dI Z0,dI Z0,.data Ty.str (⟨#[]⟩:ByteArray)]),(5,.box [dI Z1,dI (wrap64 (r5.1-Z3)),.data Ty.str (⟨#[]⟩:ByteArray)])]⟩:St))))
abbrev S188l0_1 (b:LI) (p:Int) (n:Int) (c0_0:Int) (c0_1:Int) (v0:Unit) (m:Nat) (K:KX):Prop:=(Sm TBy b)/\(M.ay b)/\(0<=c0_1)/\(c0_1<=1000000000000000)/\(LD (M.pick b c0_1 Z4) fun r8=>(∃m_,True/\de (s188_1 b p n) (F.fe b p n) (fun v1:Int×Int×ByteArray=>True) (fun e1:Int×ByteArray=>True->K (.exit 0) (⟨[(0,.ptr 1000000 0),(1,dI n),(4,.ptr 4 0),(5,.ptr 5 0)],[(1000000,.box [.data TBy b,dI e1.1]),(4,.box [dI Z0,dI Z0,.data Ty.str (⟨#[]⟩:ByteArray)]),(5,.box [dI Z2,dI Z0,.data Ty.str e1.2])]⟩:St)) m_ (s188_1 b p n (r8.1,r8.2,(⟨#[]⟩:ByteArray)))))
abbrev S188l0_2 (b:LI) (p:Int) (n:Int) (c0_0:Int) (c0_1:Int) (v0:Unit) (m:Nat) (K:KX):Prop:=(Sm TBy b)/\(M.ay b)/\(0<=c0_1)/\(c0_1<=1000000000000000)/\(LD (M.pick b c0_1 Z2) fun r9=>K (.exit 0) (⟨[(0,.ptr 1000000 0),(1,dI n),(4,.ptr 4 0),(5,.ptr 5 0)],[(1000000,.box [.data TBy b,dI r9.2]),(4,.box [dI Z0,dI Z0,.data Ty.str (⟨#[]⟩:ByteArray)]),(5,.box [dI Z3,dI r9.1,.data Ty.str (⟨#[]⟩:ByteArray)])]⟩:St))
abbrev S188l0_3 (b:LI) (p:Int) (n:Int) (c0_0:Int) (c0_1:Int) (v0:Unit) (m:Nat) (K:KX):Prop:=cond (decide (c0_0=Z4)) (cond (decide (c0_0=Z4)) (S188l0_1  b p n c0_0 c0_1 v0 m K) (S188l0_2  b p n c0_0 c0_1 v0 m K)) (cond (decide (c0_0=Z5)) (S188l0_1  b p n c0_0 c0_1 v0 m K) (S188l0_2  b p n c0_0 c0_1 v0 m K))
theorem lvc188_0 (b:LI) (p:Int) (n:Int) (c0_0:Int) (c0_1:Int) (v0:Unit) (m:Nat) (K:KX):lvT C188 (L188 b p n) ann188 (qY [(1000000,true)] f188) 0 0 (s188_0 b p n c0_0 c0_1 v0) m K =
 (cond (decide (c0_0=Z0)) (K (.exit 0) (⟨[(0,.ptr 1000000 0),(1,dI n),(4,.ptr 4 0),(5,.ptr 5 0)],[(1000000,.box [.data TBy b,dI c0_1]),(4,.box [dI Z0,dI Z0,.data Ty.str (⟨#[]⟩:ByteArray)]),(5,.box [dI Z0,dI Z0,.data Ty.str (⟨#[]⟩:ByteArray)])]⟩:St)) (cond (decide (c0_0=Z1)) (cond (decide (c0_0=Z1)) (S188l0_0  b p n c0_0 c0_1 v0 m K) (S188l0_3  b p n c0_0 c0_1 v0 m K)) (cond (decide (c0_0=Z2)) (cond (decide (c0_0=Z2)) (S188l0_0  b p n c0_0 c0_1 v0 m K) (S188l0_3  b p n c0_0 c0_1 v0 m K)) (cond (decide (c0_0=Z3)) (S188l0_0  b p n c0_0 c0_1 v0 m K) (S188l0_3  b p n c0_0 c0_1 v0 m K))))):=by kernel_rfl
theorem lvc188_1 (b:LI) (p:Int) (n:Int)  (v1:Int×Int×ByteArray) (m:Nat) (K:KX):lvT C188 (L188 b p n) ann188 (qY [(1000000,true)] f188) 1 1 (s188_1 b p n v1) m K =
 (cond (decide (Z0<v1.1)) (((Sm TBy b)/\(M.ay b)/\(0<=v1.2.1)/\(v1.2.1<=1000000000000000)/\(LD (M.pick b v1.2.1 Z3) fun r10=>(v1.2.2.size+(strOf [((wrap64 ((97:Int)+r10.1)) % 256)]).size<=9223372036854775807)/\(nxT (LP188_1 b p n) m K (s188_1 b p n (wrap64 (v1.1-Z1),r10.2,(v1.2.2++(strOf [((wrap64 ((97:Int)+r10.1)) % 256)])))))))/\((Sm TBy b)/\(M.ay b)/\(0<=v1.2.1)/\(v1.2.1<=1000000000000000)/\(LD (M.pick b v1.2.1 Z3) fun r10=>Q1 ((v1.2.2.size+(strOf [((wrap64 ((97:Int)+r10.1)) % 256)]).size<=9223372036854775807)/\(nxT (LP188_1 b p n) m K (s188_1 b p n (wrap64 (v1.1-Z1),r10.2,(v1.2.2++(strOf [((wrap64 ((97:Int)+r10.1)) % 256)]))))))))) (K (.exit 1) (⟨[(0,.ptr 1000000 0),(1,dI n),(4,.ptr 4 0),(5,.ptr 5 0)],[(1000000,.box [.data TBy b,dI v1.2.1]),(4,.box [dI Z0,dI Z0,.data Ty.str (⟨#[]⟩:ByteArray)]),(5,.box [dI Z2,dI Z0,.data Ty.str v1.2.2])]⟩:St))):=by kernel_rfl
theorem con188_ok:bt P 188 c188:=Gt [(1000000,true)] C188 func188 (kC con67_ok (kC con129_ok kN)) fun args hp K h0=>by
 unfold c188 at h0
 dsimp only at h0
 obtain⟨b,p,rfl,h00⟩:=fq h0
 obtain⟨a0,a1,rfl,_,h1⟩:=bZ h00
 obtain⟨rfl,h2⟩:=dw h1
 obtain⟨n,rfl,h3⟩:=aP h2
 obtain⟨h_b,p0,p1,p2,hK⟩:=h3
 have h:ok (F.jf b p n) (fun r=>K (.data af r.1) [(1000000,.box [.data TBy b,dI r.2])]):=aA (F.xl b p n h_b p0 p1 p2) (hK _ rfl)
 refine⟨rfl,ann188,(L188 b p n),(.dat af),(qa (i0:=0) (i1:=1) (by kernel_rfl) ?_ ?_),?_⟩
 ·rintro _ _ K ⟨c0_0,c0_1,hc0,v0,rfl,hv0,h⟩
  exact cast (lvc188_0 _ _ _ _ _ _ _ _).symm (cC h (fun m1 hm0 h=>(oC h (fun _ h=>((cB h :) trivial)) fun _ h=>(oC h (fun b_3 h=>(bO b_3 ⟨h_b,(oG h fun g1 h=>(oG h fun _ h=>(oG h fun _ h=>(oL h fun _ _ h=>⟨h_b,⟨g1,(oG h fun _ h=>(oG h fun _ h=>(oL h fun _ _ h=>(oC h (fun _ h=>⟨h_b,⟨g1,(oG h fun _ h=>(oG h fun _ h=>(oL h fun _ _ h=>(oG h fun _ h=>(oG h fun _ h=>((cB h :) trivial))))))⟩⟩) fun _ h=>((cB h :) trivial)))))⟩⟩))))⟩)) fun _ h=>(oC h (fun b_51 h=>(bO b_51 ⟨h_b,(oG h fun g2 h=>(oG h fun _ h=>(oG h fun _ h=>(oL h fun _ _ h=>⟨h_b,⟨g2,(oG h fun _ h=>(oG h fun _ h=>(oL h fun _ _ h=>(oC h (fun _ h=>⟨h_b,⟨g2,(oG h fun _ h=>(oG h fun _ h=>(oL h fun _ _ h=>(oG h fun _ h=>(oG h fun _ h=>((cB h :) trivial))))))⟩⟩) fun _ h=>((cB h :) trivial)))))⟩⟩))))⟩)) fun _ h=>(oC h (fun _ h=>⟨h_b,(oG h fun g3 h=>(oG h fun _ h=>(oG h fun _ h=>(oL h fun _ _ h=>⟨h_b,⟨g3,(oG h fun _ h=>(oG h fun _ h=>(oL h fun _ _ h=>(oC h (fun _ h=>⟨h_b,⟨g3,(oG h fun _ h=>(oG h fun _ h=>(oL h fun _ _ h=>(oG h fun _ h=>(oG h fun _ h=>((cB h :) trivial))))))⟩⟩) fun _ h=>((cB h :) trivial)))))⟩⟩))))⟩) fun _ h=>(oC h (fun b_74 h=>(bO b_74 ⟨h_b,(oG h fun _ h=>(oG h fun _ h=>(oG h fun _ h=>(oL h fun _ _ h=>(bJ (fun m hm=>⟨trivial,hm⟩) _ rfl trivial (eR h (fun e1 h hv1=>((cB h :) trivial))))))))⟩)) fun _ h=>(oC h (fun _ h=>⟨h_b,(oG h fun _ h=>(oG h fun _ h=>(oG h fun _ h=>(oL h fun _ _ h=>(bJ (fun m hm=>⟨trivial,hm⟩) _ rfl trivial (eR h (fun e1 h hv1=>((cB h :) trivial))))))))⟩) fun _ h=>⟨h_b,(oG h fun _ h=>(oG h fun _ h=>(oG h fun _ h=>(oL h fun _ _ h=>((cB h :) trivial)))))⟩))))))))
 ·rintro _ _ K ⟨hc1,v1,rfl,hv1,h⟩
  exact cast (lvc188_1 _ _ _ _ _ _).symm (cC h (fun m1 hm1 h=>(oC h (fun _ h=>((fun(g1_0:M.ay b)=>(fun(g1_1:0<=v1.2.1)=>(fun(g1_2:v1.2.1<=1000000000000000)=>(fun(g1_3:v1.2.2.size+(strOf [((wrap64 ((97:Int)+(M.pick b v1.2.1 Z3).1)) % 256)]).size<=9223372036854775807)=>⟨⟨h_b,⟨g1_0,have g4:=g1_0;⟨g1_1,have g5:=g1_1;⟨g1_2,have g6:=g1_2;(fun r10 er10=>(have g7:v1.2.2.size+(strOf [((wrap64 ((97:Int)+r10.1)) % 256)]).size<=9223372036854775807:=(by rw[er10];exact g1_3);⟨g7,(have h:=(aC (cI (aC (aC (aC h).2).2).2 r10 er10)).2;(aW (fun _ hm=>⟨hc1,hm⟩) hm1 _ rfl trivial h))⟩))⟩⟩⟩⟩,⟨h_b,⟨g1_0,have g8:=g1_0;⟨g1_1,have g9:=g1_1;⟨g1_2,have g10:=g1_2;(fun r10 er10=>(q1 (have g11:v1.2.2.size+(strOf [((wrap64 ((97:Int)+r10.1)) % 256)]).size<=9223372036854775807:=(by rw[er10];exact g1_3);⟨g11,(have h:=(aC (cI (aC (aC (aC h).2).2).2 r10 er10)).2;(aW (fun _ hm=>⟨hc1,hm⟩) hm1 _ rfl trivial h))⟩)))⟩⟩⟩⟩⟩) (aC (cI (aC (aC (aC h).2).2).2 _ rfl)).1) (aC (aC (aC h).2).2).1) (aC (aC h).2).1) (aC h).1)) fun _ h=>((cB h :) trivial))))
 ·rw[vc188]
  exact⟨h_b,⟨p0,⟨p1,(oG h fun _ h=>(oL h fun r1 _ h=>(bJ (fun m hm=>⟨r1.1,r1.2,trivial,hm⟩) _ rfl trivial (eR h (fun e0 h hv0=>⟨h_b,⟨p0,(oG h fun _ h=>(oG h fun _ h=>(oL h fun _ _ h=>(oC h (fun _ h=>⟨h_b,⟨p0,(oG h fun _ h=>(oG h fun _ h=>(oL h fun _ _ h=>(oC h (fun _ h=>h) fun _ h=>(oC h (fun _ h=>(oG h fun _ h=>h)) fun _ h=>(oC h (fun _ h=>⟨h_b,⟨p0,(oG h fun _ h=>(oG h fun _ h=>(oL h fun _ _ h=>h)))⟩⟩) fun _ h=>(oG h fun _ h=>h)))))))⟩⟩) fun _ h=>h))))⟩⟩)))))⟩⟩⟩
def c128:Con:=⟨[.any,.lent ag,.dat aE],fun args hp K=>hpR (fun b p=>rK (fun a0 a1 a2=>mc a0 (lF ag a1 fun LJ=>dA aE a2 fun n=>(Sm TBy b)/\(Sm TCS LJ)/\(M.ay b)/\(0<=p)/\(p<=997000000000000)/\(LD (M.jM b p LJ n) fun r=>K (.own 0 none) [(0,.arr .sh af r.1),(1000000,.box [.data TBy b,dI r.2])]))) args []) hp,.plain,true⟩
abbrev C128:Ctx:=cx [(67,c67),(129,c129),(187,c187),(188,c188)] 59 [] 0 false
def ann128:=an [[kp 7],[kp 135],[kp 391],[kp 8583],[kp 391],[kp 391],[kp 134217857],[kp 536871041],[kp 128],[kp 550292684929],[kp 128],[.keep [0,7,45]],[.keep [0,7,49]],[kp 128],[kp 64]] [[kp 133]]
abbrev s128_0 (b:LI) (p:Int) (LJ:LC) (n:Int) (i0:Int) (v0:Int×LV):St:=⟨[(0,.ptr 1000000 0),(1,.brw ag LJ),(2,dI n),(7,.own 9 none),(8,dI i0)],[(1000000,.box [.data TBy b,dI v0.1]),(9,.arr .sh af v0.2)]⟩
abbrev LP128_0 (b:LI) (p:Int) (LJ:LC) (n:Int) (m:Nat) (st_:St) (K:KX):Prop:=True/\cw (t:=ag) (s128_0 b p LJ n) LJ (F.ke b p LJ n) (fun v0:Int×LV=>True) (bz (fun v0:Int×LV=>True->K (.exit 0) (⟨[(0,.ptr 1000000 0),(2,dI n),(7,.own 9 none)],[(1000000,.box [.data TBy b,dI v0.1]),(9,.arr .sh af v0.2)]⟩:St)) (fun _=>False)) m st_
def L128 (b:LI) (p:Int) (LJ:LC) (n:Int):bK:=lp1 0 (LP128_0 b p LJ n)
theorem vc128 (b:LI) (p:Int) (LJ:LC) (n:Int) (K:KA):vcT C128 (L128 b p LJ n) ann128 f128 [.ptr 1000000 0,.brw ag LJ,dI n] [(1000000,.box [.data TBy b,dI p])] .raw K =
 (∃m_,True/\cw (t:=ag) (s128_0 b p LJ n) LJ (F.ke b p LJ n) (fun v0:Int×LV=>True) (bz (fun v0:Int×LV=>True->(Sm TBy b)/\(M.ay b)/\(0<=v0.1)/\(v0.1<=999000000000000)/\(LD (M.odd b v0.1 n) fun r1=>cond r1.1 ((Sm TBy b)/\(M.ay b)/\(0<=r1.2)/\(r1.2<=1000000000000000)/\(LD (M.pick b r1.2 Z3) fun r2=>cond (decide (r2.1=Z0)) (((v0.2.length+([(Z0,(Z0,((⟨#[]⟩:ByteArray),())))]:List af.D).length) * 32<=lim)/\K (.own 0 none) [(0,.arr .sh af (v0.2++[(Z0,(Z0,((⟨#[]⟩:ByteArray),())))])),(1000000,.box [.data TBy b,dI r2.2])]) (cond (decide (r2.1=Z1)) (cond (decide (Z0<(v0.2.length:Int))) ((Sm TBy b)/\(M.ay b)/\(0<=r2.2)/\(r2.2<=1000000000000000)/\(LD (M.pick b r2.2 (v0.2.length:Int)) fun r3=>(Sm TBy b)/\(M.ay b)/\(0<=r3.2)/\(r3.2<=998000000000000)/\(LD (M.fE b r3.2 Z3) fun r4=>(0<=r3.1)/\(r3.1<(v0.2.length:Int))/\K (.own 0 none) [(0,.arr .sh af (v0.2.set r3.1.toNat r4.1)),(1000000,.box [.data TBy b,dI r4.2])]))) (K (.own 0 none) [(0,.arr .sh af v0.2),(1000000,.box [.data TBy b,dI r2.2])])) ((Sm TBy b)/\(M.ay b)/\(0<=r2.2)/\(r2.2<=998000000000000)/\(LD (M.fE b r2.2 Z0) fun r5=>(Sm TBy b)/\(M.ay b)/\(0<=r5.2)/\(r5.2<=998000000000000)/\(LD (M.fE b r5.2 Z0) fun r6=>(Sm TBy b)/\(M.ay b)/\(0<=r6.2)/\(r6.2<=998000000000000)/\(LD (M.fE b r6.2 Z0) fun r7=>((v0.2.length+[r5.1,r6.1,r7.1].length) * 32<=lim)/\K (.own 0 none) [(0,.arr .sh af (v0.2++[r5.1,r6.1,r7.1])),(1000000,.box [.data TBy b,dI r7.2])]))))))) (K (.own 0 none) [(0,.arr .sh af v0.2),(1000000,.box [.data TBy b,dI r1.2])]))) (fun _=>False)) m_ (s128_0 b p LJ n Z0 (p,[]))):=by kernel_rfl
theorem lvc128_0 (b:LI) (p:Int) (LJ:LC) (n:Int)  (i0:Int) (v0:Int×LV) (m:Nat) (K:KX):lvT C128 (L128 b p LJ n) ann128 f128 0 0 (s128_0 b p LJ n i0 v0) m K =
 (cond (decide (i0<(LJ.length:Int))) ((0<=i0)/\(i0<(LJ.length:Int))/\(Sm TBy b)/\(M.ay b)/\(0<=v0.1)/\(v0.1<=998000000000000)/\(LD (M.kY b v0.1 (nC LJ i0)) fun r8=>((v0.2.length+[r8.1].length) * 32<=lim)/\(nxT (LP128_0 b p LJ n) m K (s128_0 b p LJ n (wrap64 (i0+Z1)) (r8.2,(v0.2++[r8.1])))))) (K (.exit 0) (⟨[(0,.ptr 1000000 0),(2,dI n),(7,.own 9 none)],[(1000000,.box [.data TBy b,dI v0.1]),(9,.arr .sh af v0.2)]⟩:St))):=by kernel_rfl
theorem con128_ok:bt P 128 c128:=bA C128 func128 (kC con67_ok (kC con129_ok (kC con187_ok (kC con188_ok kN)))) fun args hp K h0=>by
 unfold c128 at h0
 dsimp only at h0
 obtain⟨b,p,rfl,h00⟩:=fq h0
 obtain⟨a0,a1,a2,rfl,_,h1⟩:=gq h00
 obtain⟨rfl,h2⟩:=dw h1
 obtain⟨LJ,rfl,h3⟩:=dx h2
 obtain⟨n,rfl,h4⟩:=aP h3
 obtain⟨h_b,LP,p0,p1,p2,hK⟩:=h4
 have h:ok (F.lC b p LJ n) (fun r=>K (.own 0 none) [(0,.arr .sh af r.1),(1000000,.box [.data TBy b,dI r.2])]):=aA (F.zX b p LJ n h_b LP p0 p1 p2) (hK _ rfl)
 refine⟨rfl,ann128,(L128 b p LJ n),.raw,(bW (i0:=0) (by kernel_rfl) ?_),?_⟩
 ·rintro _ _ K ⟨hc0,i0,v0,rfl,hl0,rfl,hv0,h⟩
  exact cast (lvc128_0 _ _ _ _ _ _ _ _).symm (bD (t:=ag) hl0 h (fun ht0 h=>⟨hl0,⟨ht0,⟨h_b,(oG h fun _ h=>(oG h fun _ h=>(oG h fun _ h=>(oL h fun _ _ h=>(oG h fun _ h=>(br (t:=ag) (fun _ hm=>⟨hc0,hm⟩) _ rfl hl0 ht0 (bC LP) trivial h))))))⟩⟩⟩) fun h=>(h trivial))
 ·rw[vc128]
  exact(bu (t:=ag) (fun m hm=>⟨trivial,hm⟩) _ rfl trivial (bn h (fun v0 h hv0=>⟨h_b,⟨p0,(oG h fun _ h=>(oG h fun _ h=>(oL h fun _ _ h=>(oC h (fun _ h=>⟨h_b,⟨p0,(oG h fun _ h=>(oG h fun _ h=>(oL h fun _ _ h=>(oC h (fun _ h=>(oG h fun _ h=>h)) fun _ h=>(oC h (fun _ h=>(oC h (fun _ h=>⟨h_b,⟨p0,(oG h fun _ h=>(oG h fun _ h=>(oL h fun _ _ h=>⟨h_b,⟨p0,(oG h fun _ h=>(oG h fun _ h=>(oL h fun _ _ h=>(oG h fun _ h=>(oG h fun _ h=>h)))))⟩⟩)))⟩⟩) fun _ h=>h)) fun _ h=>⟨h_b,⟨p0,(oG h fun _ h=>(oG h fun _ h=>(oL h fun _ _ h=>⟨h_b,⟨p0,(oG h fun _ h=>(oG h fun _ h=>(oL h fun _ _ h=>⟨h_b,⟨p0,(oG h fun _ h=>(oG h fun _ h=>(oL h fun _ _ h=>(oG h fun _ h=>h))))⟩⟩)))⟩⟩)))⟩⟩)))))⟩⟩) fun _ h=>h))))⟩⟩) (fun _ h=>h.elim)))
def c68:Con:=⟨[.any,.dat TTb,.dat aE],fun args hp K=>hpR (fun b p=>rK (fun a0 a1 a2=>mc a0 (dA TTb a1 fun LK=>dA aE a2 fun n=>(Sm TBy b)/\(Sm TTb LK)/\(M.ay b)/\(0<=p)/\(p<=996000000000000)/\(∀t∈LK,M.iY t)/\(∀t∈LK,M.nH t)/\(1<=LK.length)/\(n=0)/\(LD (M.ff b p LK n) fun r=>K (.data aK r.1) [(1000000,.box [.data TBy b,dI r.2])]))) args []) hp,.plain,true⟩
abbrev C68:Ctx:=cx [(67,c67),(110,c110),(128,c128),(129,c129)] 81 [] 0 false
def ann68:=an [[kp 71],[kp 199],[.fixRow 8 ai,kp 453],[kp 453],[kp 1073742277],[kp 453],[kp 1099511628229],[kp 453],[kp 36028797018964165],[kp 197],[.keep [6,7,59]],[],[],[],[],[],[],[kp 64]] []
theorem vc68 (b:LI) (p:Int) (LK:LTb) (n:Int) (K:KA):vcT C68 aB ann68 (qY [(59,true)] f68) [.ptr 1000000 0,.data TTb LK,dI n] [(1000000,.box [.data TBy b,dI p])] (.dat aK) K =
 ((Sm TBy b)/\(M.ay b)/\(0<=p)/\(p<=1000000000000000)/\(LD (M.pick b p (LK.length:Int)) fun r1=>(Sm TBy b)/\(M.ay b)/\(0<=r1.2)/\(r1.2<=1000000000000000)/\(LD (M.pick b r1.2 Z2) fun r2=>(0<=r1.1)/\(r1.1<(LK.length:Int))/\(Sm TBy b)/\(Sm TCS (nT LK r1.1).1)/\(M.ay b)/\(0<=r2.2)/\(r2.2<=997000000000000)/\(LD (M.jM b r2.2 (nT LK r1.1).1 Z0) fun r3=>cond (decide (((nT LK r1.1).2.1.length:Int)=Z6)) (cond (decide (Z0<((nT LK r1.1).2.1.length:Int))) ((Sm TBy b)/\(M.ay b)/\(0<=r3.2)/\(r3.2<=1000000000000000)/\(LD (M.pick b r3.2 ((nT LK r1.1).2.1.length:Int)) fun r4=>(0<=r4.1)/\(r4.1<((nT LK r1.1).2.1.length:Int))/\(Sm TVS (@nth TVS (nT LK r1.1).2.1 r4.1))/\(LD (@nth TVS (nT LK r1.1).2.1 r4.1) fun r5=>cond (decide (((nT LK r1.1).2.1.length:Int)=Z0)) ((Sm TBy b)/\(M.ay b)/\(0<=r4.2)/\(r4.2<=999000000000000)/\(LD (M.odd b r4.2 n) fun r6=>cond r6.1 False (K (.data aK (r1.1,(r5,(true,())))) [(1000000,.box [.data TBy b,dI r6.2])]))) ((Sm TBy b)/\(M.ay b)/\(0<=r4.2)/\(r4.2<=999000000000000)/\(LD (M.odd b r4.2 n) fun r6=>cond r6.1 False (K (.data aK (r1.1,(r5,(false,())))) [(1000000,.box [.data TBy b,dI r6.2])])))))) (cond (decide (((nT LK r1.1).2.1.length:Int)=Z0)) ((Sm TBy b)/\(M.ay b)/\(0<=r3.2)/\(r3.2<=999000000000000)/\(LD (M.odd b r3.2 n) fun r6=>cond r6.1 False (K (.data aK (r1.1,(r3.1,(true,())))) [(1000000,.box [.data TBy b,dI r6.2])]))) ((Sm TBy b)/\(M.ay b)/\(0<=r3.2)/\(r3.2<=999000000000000)/\(LD (M.odd b r3.2 n) fun r6=>cond r6.1 False (K (.data aK (r1.1,(r3.1,(false,())))) [(1000000,.box [.data TBy b,dI r6.2])]))))) (cond ((!(decide (r2.1=Z0)))==true) (cond (decide (Z0<((nT LK r1.1).2.1.length:Int))) ((Sm TBy b)/\(M.ay b)/\(0<=r3.2)/\(r3.2<=1000000000000000)/\(LD (M.pick b r3.2 ((nT LK r1.1).2.1.length:Int)) fun r4=>(0<=r4.1)/\(r4.1<((nT LK r1.1).2.1.length:Int))/\(Sm TVS (@nth TVS (nT LK r1.1).2.1 r4.1))/\(LD (@nth TVS (nT LK r1.1).2.1 r4.1) fun r5=>cond (decide (((nT LK r1.1).2.1.length:Int)=Z0)) ((Sm TBy b)/\(M.ay b)/\(0<=r4.2)/\(r4.2<=999000000000000)/\(LD (M.odd b r4.2 n) fun r6=>cond r6.1 False (K (.data aK (r1.1,(r5,(true,())))) [(1000000,.box [.data TBy b,dI r6.2])]))) ((Sm TBy b)/\(M.ay b)/\(0<=r4.2)/\(r4.2<=999000000000000)/\(LD (M.odd b r4.2 n) fun r6=>cond r6.1 False (K (.data aK (r1.1,(r5,((decide (r2.1=Z0)),())))) [(1000000,.box [.data TBy b,dI r6.2])])))))) (cond (decide (((nT LK r1.1).2.1.length:Int)=Z0)) ((Sm TBy b)/\(M.ay b)/\(0<=r3.2)/\(r3.2<=999000000000000)/\(LD (M.odd b r3.2 n) fun r6=>cond r6.1 False (K (.data aK (r1.1,(r3.1,(true,())))) [(1000000,.box [.data TBy b,dI r6.2])]))) ((Sm TBy b)/\(M.ay b)/\(0<=r3.2)/\(r3.2<=999000000000000)/\(LD (M.odd b r3.2 n) fun r6=>cond r6.1 False (K (.data aK (r1.1,(r3.1,((decide (r2.1=Z0)),())))) [(1000000,.box [.data TBy b,dI r6.2])]))))) (cond (decide (((nT LK r1.1).2.1.length:Int)=Z0)) ((Sm TBy b)/\(M.ay b)/\(0<=r3.2)/\(r3.2<=999000000000000)/\(LD (M.odd b r3.2 n) fun r6=>cond r6.1 False (K (.data aK (r1.1,(r3.1,(true,())))) [(1000000,.box [.data TBy b,dI r6.2])]))) ((Sm TBy b)/\(M.ay b)/\(0<=r3.2)/\(r3.2<=999000000000000)/\(LD (M.odd b r3.2 n) fun r6=>cond r6.1 False (K (.data aK (r1.1,(r3.1,((decide (r2.1=Z0)),())))) [(1000000,.box [.data TBy b,dI r6.2])]))))))))):=by kernel_rfl
theorem con68_ok:bt P 68 c68:=Gt [(59,true)] C68 func68 (kC con67_ok (kC con110_ok (kC con128_ok (kC con129_ok kN)))) fun args hp K h0=>by
 unfold c68 at h0
 dsimp only at h0
 obtain⟨b,p,rfl,h00⟩:=fq h0
 obtain⟨a0,a1,a2,rfl,_,h1⟩:=gq h00
 obtain⟨rfl,h2⟩:=dw h1
 obtain⟨LK,rfl,h3⟩:=aP h2
 obtain⟨n,rfl,h4⟩:=aP h3
 obtain⟨h_b,LO,p0,p1,p2,p3,p4,p5,p6,hK⟩:=h4
 have h:ok (F.hO b p LK n) (fun r=>K (.data aK r.1) [(1000000,.box [.data TBy b,dI r.2])]):=aA (F.vz b p LK n h_b LO p0 p1 p2 p3 p4 p5 p6) (hK _ rfl)
 refine⟨rfl,ann68,aB,(.dat aK),(aL (by kernel_rfl)),?_⟩
 ·rw[vc68]
  exact⟨h_b,⟨p0,⟨p1,(oG h fun _ h=>(oL h fun r1 _ h=>⟨h_b,⟨p0,(oG h fun _ h=>(oG h fun _ h=>(oL h fun _ _ h=>(oG h fun _ h=>(oG h fun _ h=>⟨h_b,⟨(aO LO r1.1).1,⟨p0,(oG h fun _ h=>(oG h fun _ h=>(oL h fun _ _ h=>(oC h (fun b_8 h=>(oC h (fun _ h=>⟨h_b,⟨p0,(oG h fun _ h=>(oG h fun _ h=>(oL h fun r4 _ h=>(oG h fun _ h=>(oG h fun _ h=>⟨(aO (aO LO r1.1).2.1 r4.1),(oL h fun _ _ h=>(dR (cY b_8 (by decide)) ⟨h_b,⟨p0,(oG h fun _ h=>(oG h fun _ h=>(oL h fun _ _ h=>(oC h (fun _ h=>h) fun _ h=>h))))⟩⟩))⟩)))))⟩⟩) fun _ h=>(dR (cY b_8 (by decide)) ⟨h_b,⟨p0,(oG h fun _ h=>(oG h fun _ h=>(oL h fun _ _ h=>(oC h (fun _ h=>h) fun _ h=>h))))⟩⟩))) fun _ h=>(oC h (fun _ h=>(oC h (fun _ h=>⟨h_b,⟨p0,(oG h fun _ h=>(oG h fun _ h=>(oL h fun r4 _ h=>(oG h fun _ h=>(oG h fun _ h=>⟨(aO (aO LO r1.1).2.1 r4.1),(oL h fun _ _ h=>(oC h (fun _ h=>⟨h_b,⟨p0,(oG h fun _ h=>(oG h fun _ h=>(oL h fun _ _ h=>(oC h (fun _ h=>h) fun _ h=>h))))⟩⟩) fun _ h=>⟨h_b,⟨p0,(oG h fun _ h=>(oG h fun _ h=>(oL h fun _ _ h=>(oC h (fun _ h=>h) fun _ h=>h))))⟩⟩))⟩)))))⟩⟩) fun _ h=>(oC h (fun _ h=>⟨h_b,⟨p0,(oG h fun _ h=>(oG h fun _ h=>(oL h fun _ _ h=>(oC h (fun _ h=>h) fun _ h=>h))))⟩⟩) fun _ h=>⟨h_b,⟨p0,(oG h fun _ h=>(oG h fun _ h=>(oL h fun _ _ h=>(oC h (fun _ h=>h) fun _ h=>h))))⟩⟩))) fun _ h=>(oC h (fun _ h=>⟨h_b,⟨p0,(oG h fun _ h=>(oG h fun _ h=>(oL h fun _ _ h=>(oC h (fun _ h=>h) fun _ h=>h))))⟩⟩) fun _ h=>⟨h_b,⟨p0,(oG h fun _ h=>(oG h fun _ h=>(oL h fun _ _ h=>(oC h (fun _ h=>h) fun _ h=>h))))⟩⟩))))))⟩⟩⟩)))))⟩⟩))⟩⟩⟩
def c184:Con:=⟨[.any,.dat aE],fun args hp K=>hpR (fun b p=>args2 (fun a0 a1=>mc a0 (dA aE a1 fun n=>(Sm TBy b)/\(M.ay b)/\(0<=p)/\(p<=998000000000000)/\(LD (M.gu b p n) fun r=>K (.own 0 none) [(0,.arr .sh ag r.1),(1000000,.box [.data TBy b,dI r.2])]))) args []) hp,.plain,true⟩
abbrev C184:Ctx:=cx [(67,c67),(129,c129)] 40 [] 0 false
def ann184:=an [[kp 3],[kp 35],[kp 99],[kp 4195],[kp 99],[kp 99],[kp 536870945],[kp 32],[kp 16]] [[kp 35]]
abbrev s184_0 (b:LI) (p:Int) (n:Int) (v0:Int×Int×LC):St:=⟨[(0,.ptr 1000000 0),(1,dI n),(5,.own 7 none),(6,dI v0.1)],[(1000000,.box [.data TBy b,dI v0.2.1]),(7,.arr .sh ag v0.2.2)]⟩
abbrev LP184_0 (b:LI) (p:Int) (n:Int) (m:Nat) (st_:St) (K:KX):Prop:=True/\de (s184_0 b p n) (F.gn b p n) (fun v0:Int×Int×LC=>True) (fun e0:Int×LC=>True->K (.exit 0) (⟨[(0,.ptr 1000000 0),(1,dI n),(5,.own 7 none)],[(1000000,.box [.data TBy b,dI e0.1]),(7,.arr .sh ag e0.2)]⟩:St)) m st_
def L184 (b:LI) (p:Int) (n:Int):bK:=lp1 0 (LP184_0 b p n)
theorem vc184 (b:LI) (p:Int) (n:Int) (K:KA):vcT C184 (L184 b p n) ann184 f184 [.ptr 1000000 0,dI n] [(1000000,.box [.data TBy b,dI p])] .raw K =
 ((Sm TBy b)/\(M.ay b)/\(0<=p)/\(p<=1000000000000000)/\(LD (M.pick b p Z3) fun r1=>(∃m_,True/\de (s184_0 b p n) (F.gn b p n) (fun v0:Int×Int×LC=>True) (fun e0:Int×LC=>True->(Sm TBy b)/\(M.ay b)/\(0<=e0.1)/\(e0.1<=999000000000000)/\(LD (M.odd b e0.1 n) fun r2=>cond r2.1 ((Sm TBy b)/\(M.ay b)/\(0<=r2.2)/\(r2.2<=1000000000000000)/\(LD (M.pick b r2.2 Z6) fun r3=>((e0.2.length+[(wrap64 (r3.1-Z1),(false,())),(Z1,(false,())),(Z1,(false,()))].length) * 16<=lim)/\K (.own 0 none) [(0,.arr .sh ag (e0.2++[(wrap64 (r3.1-Z1),(false,())),(Z1,(false,())),(Z1,(false,()))])),(1000000,.box [.data TBy b,dI r3.2])])) (K (.own 0 none) [(0,.arr .sh ag e0.2),(1000000,.box [.data TBy b,dI r2.2])]))) m_ (s184_0 b p n (wrap64 (Z1+r1.1),r1.2,[]))))):=by kernel_rfl
theorem lvc184_0 (b:LI) (p:Int) (n:Int)  (v0:Int×Int×LC) (m:Nat) (K:KX):lvT C184 (L184 b p n) ann184 f184 0 0 (s184_0 b p n v0) m K =
 (cond (decide (Z0<v0.1)) (((Sm TBy b)/\(M.ay b)/\(0<=v0.2.1)/\(v0.2.1<=1000000000000000)/\(LD (M.pick b v0.2.1 Z4) fun r4=>(0<=r4.1)/\(r4.1<([Z1,Z1,Z2,Z3].length:Int))/\Q0 ((Sm TBy b)/\(M.ay b)/\(0<=r4.2)/\(r4.2<=1000000000000000)/\(LD (M.pick b r4.2 Z3) fun r5=>((v0.2.2.length+[((nI [Z1,Z1,Z2,Z3] r4.1),((decide (Z0<r5.1)),()))].length) * 16<=lim)/\(nxT (LP184_0 b p n) m K (s184_0 b p n (wrap64 (v0.1-Z1),r5.2,(v0.2.2++[((nI [Z1,Z1,Z2,Z3] r4.1),((decide (Z0<r5.1)),()))]))))))))/\((Sm TBy b)/\(M.ay b)/\(0<=v0.2.1)/\(v0.2.1<=1000000000000000)/\(LD (M.pick b v0.2.1 Z4) fun r4=>((0<=r4.1)/\(r4.1<([Z1,Z1,Z2,Z3].length:Int))/\Q0 ((Sm TBy b)/\(M.ay b)/\(0<=r4.2)/\(r4.2<=1000000000000000)/\(LD (M.pick b r4.2 Z3) fun r5=>((v0.2.2.length+[((nI [Z1,Z1,Z2,Z3] r4.1),((decide (Z0<r5.1)),()))].length) * 16<=lim)/\(nxT (LP184_0 b p n) m K (s184_0 b p n (wrap64 (v0.1-Z1),r5.2,(v0.2.2++[((nI [Z1,Z1,Z2,Z3] r4.1),((decide (Z0<r5.1)),()))])))))))/\((Sm TBy b)/\(M.ay b)/\(0<=r4.2)/\(r4.2<=1000000000000000)/\(LD (M.pick b r4.2 Z3) fun r5=>(0<=r4.1)/\(r4.1<([Z1,Z1,Z2,Z3].length:Int))/\((v0.2.2.length+[((nI [Z1,Z1,Z2,Z3] r4.1),((decide (Z0<r5.1)),()))].length) * 16<=lim)/\(nxT (LP184_0 b p n) m K (s184_0 b p n (wrap64 (v0.1-Z1),r5.2,(v0.2.2++[((nI [Z1,Z1,Z2,Z3] r4.1),((decide (Z0<r5.1)),()))]))))))))) (K (.exit 0) (⟨[(0,.ptr 1000000 0),(1,dI n),(5,.own 7 none)],[(1000000,.box [.data TBy b,dI v0.2.1]),(7,.arr .sh ag v0.2.2)]⟩:St))):=by kernel_rfl
theorem con184_ok:bt P 184 c184:=bA C184 func184 (kC con67_ok (kC con129_ok kN)) fun args hp K h0=>by
 unfold c184 at h0
 dsimp only at h0
 obtain⟨b,p,rfl,h00⟩:=fq h0
 obtain⟨a0,a1,rfl,_,h1⟩:=bZ h00
 obtain⟨rfl,h2⟩:=dw h1
 obtain⟨n,rfl,h3⟩:=aP h2
 obtain⟨h_b,p0,p1,p2,hK⟩:=h3
 have h:ok (F.gz b p n) (fun r=>K (.own 0 none) [(0,.arr .sh ag r.1),(1000000,.box [.data TBy b,dI r.2])]):=aA (F.tF b p n h_b p0 p1 p2) (hK _ rfl)
 refine⟨rfl,ann184,(L184 b p n),.raw,(bW (i0:=0) (by kernel_rfl) ?_),?_⟩
 ·rintro _ _ K ⟨hc0,v0,rfl,hv0,h⟩
  exact cast (lvc184_0 _ _ _ _ _ _).symm (cC h (fun m1 hm0 h=>(oC h (fun _ h=>((fun(g2_0:M.ay b)=>(fun(g2_1:0<=v0.2.1)=>(fun(g2_2:v0.2.1<=1000000000000000)=>(fun(g2_3:0<=(M.pick b v0.2.1 Z4).1)=>(fun(g2_4:(M.pick b v0.2.1 Z4).1<([Z1,Z1,Z2,Z3].length:Int))=>(fun(g2_5:0<=(M.pick b v0.2.1 Z4).2)=>(fun(g2_6:(M.pick b v0.2.1 Z4).2<=1000000000000000)=>(fun(g2_7:(v0.2.2.length+[((nI [Z1,Z1,Z2,Z3] (M.pick b v0.2.1 Z4).1),((decide (Z0<(M.pick b (M.pick b v0.2.1 Z4).2 Z3).1)),()))].length) * 16<=lim)=>⟨⟨h_b,⟨g2_0,have g1:=g2_0;⟨g2_1,have g2:=g2_1;⟨g2_2,have g3:=g2_2;(fun r4 er4=>(have g4:0<=r4.1:=(by rw[er4];exact g2_3);⟨g4,(have g5:r4.1<([Z1,Z1,Z2,Z3].length:Int):=(by rw[er4];exact g2_4);⟨g5,(q0 (⟨h_b,⟨g1,(have g6:0<=r4.2:=(by rw[er4];exact g2_5);⟨g6,(have g7:r4.2<=1000000000000000:=(by rw[er4];exact g2_6);⟨g7,(fun r5 er5=>(have g8:(v0.2.2.length+[((nI [Z1,Z1,Z2,Z3] r4.1),((decide (Z0<r5.1)),()))].length) * 16<=lim:=(by rw[er5,er4];exact g2_7);⟨g8,(have h:=(aC (cI (aC (aC (aC (aC (cI (aC (aC (aC h).2).2).2 r4 er4)).2).2).2).2 r5 er5)).2;(aW (fun _ hm=>⟨hc0,hm⟩) hm0 _ rfl trivial h))⟩))⟩)⟩)⟩⟩))⟩)⟩))⟩⟩⟩⟩,⟨h_b,⟨g2_0,have g9:=g2_0;⟨g2_1,have g10:=g2_1;⟨g2_2,have g11:=g2_2;(fun r4 er4=>⟨(have g12:0<=r4.1:=(by rw[er4];exact g2_3);⟨g12,(have g13:r4.1<([Z1,Z1,Z2,Z3].length:Int):=(by rw[er4];exact g2_4);⟨g13,(q0 (⟨h_b,⟨g9,(have g14:0<=r4.2:=(by rw[er4];exact g2_5);⟨g14,(have g15:r4.2<=1000000000000000:=(by rw[er4];exact g2_6);⟨g15,(fun r5 er5=>(have g16:(v0.2.2.length+[((nI [Z1,Z1,Z2,Z3] r4.1),((decide (Z0<r5.1)),()))].length) * 16<=lim:=(by rw[er5,er4];exact g2_7);⟨g16,(have h:=(aC (cI (aC (aC (aC (aC (cI (aC (aC (aC h).2).2).2 r4 er4)).2).2).2).2 r5 er5)).2;(aW (fun _ hm=>⟨hc0,hm⟩) hm0 _ rfl trivial h))⟩))⟩)⟩)⟩⟩))⟩)⟩),⟨h_b,⟨g9,(have g17:0<=r4.2:=(by rw[er4];exact g2_5);⟨g17,(have g18:r4.2<=1000000000000000:=(by rw[er4];exact g2_6);⟨g18,(fun r5 er5=>(have g19:0<=r4.1:=(by rw[er4];exact g2_3);⟨g19,(have g20:r4.1<([Z1,Z1,Z2,Z3].length:Int):=(by rw[er4];exact g2_4);⟨g20,(have g21:(v0.2.2.length+[((nI [Z1,Z1,Z2,Z3] r4.1),((decide (Z0<r5.1)),()))].length) * 16<=lim:=(by rw[er5,er4];exact g2_7);⟨g21,(have h:=(aC (cI (aC (aC (aC (aC (cI (aC (aC (aC h).2).2).2 r4 er4)).2).2).2).2 r5 er5)).2;(aW (fun _ hm=>⟨hc0,hm⟩) hm0 _ rfl trivial h))⟩)⟩)⟩))⟩)⟩)⟩⟩⟩)⟩⟩⟩⟩⟩) (aC (cI (aC (aC (aC (aC (cI (aC (aC (aC h).2).2).2 _ rfl)).2).2).2).2 _ rfl)).1) (aC (aC (aC (aC (cI (aC (aC (aC h).2).2).2 _ rfl)).2).2).2).1) (aC (aC (aC (cI (aC (aC (aC h).2).2).2 _ rfl)).2).2).1) (aC (aC (cI (aC (aC (aC h).2).2).2 _ rfl)).2).1) (aC (cI (aC (aC (aC h).2).2).2 _ rfl)).1) (aC (aC (aC h).2).2).1) (aC (aC h).2).1) (aC h).1)) fun _ h=>((cB h :) trivial))))
 ·rw[vc184]
  exact⟨h_b,⟨p0,⟨p1,(oG h fun _ h=>(oL h fun _ _ h=>(bJ (fun m hm=>⟨trivial,hm⟩) _ rfl trivial (eR h (fun e0 h hv0=>⟨h_b,⟨p0,(oG h fun _ h=>(oG h fun _ h=>(oL h fun _ _ h=>(oC h (fun _ h=>⟨h_b,⟨p0,(oG h fun _ h=>(oG h fun _ h=>(oL h fun _ _ h=>(oG h fun _ h=>h))))⟩⟩) fun _ h=>h))))⟩⟩)))))⟩⟩⟩
def c185:Con:=⟨[.any,.lent ag,.dat aE],fun args hp K=>hpR (fun b p=>rK (fun a0 a1 a2=>mc a0 (lF ag a1 fun c=>dA aE a2 fun n=>(Sm TBy b)/\(Sm TCS c)/\(M.ay b)/\(0<=p)/\(p<=996000000000000)/\(c.length<=6)/\(n=0)/\(LD (M.oA b p c n) fun r=>K (.own 0 none) [(0,.arr .dp TVS r.1),(1000000,.box [.data TBy b,dI r.2])]))) args []) hp,.plain,true⟩
abbrev C185:Ctx:=cx [(67,c67),(110,c110),(128,c128)] 43 [] 0 true
def ann185:=an [[kp 7],[kp 135],[kp 391],[kp 8583],[kp 391],[kp 8388999],[kp 391],[kp 391],[kp 64]] [[kp 128]]
abbrev s185_0 (b:LI) (p:Int) (c:LC) (n:Int) (v0:Int×Int×(List LV)):St:=⟨[(0,.ptr 1000000 0),(1,.brw ag c),(2,dI n),(7,.own 9 none),(8,dI v0.1)],[(1000000,.box [.data TBy b,dI v0.2.1]),(9,.arr .dp TVS v0.2.2)]⟩
abbrev LP185_0 (b:LI) (p:Int) (c:LC) (n:Int) (m:Nat) (st_:St) (K:KX):Prop:=True/\de (s185_0 b p c n) (F.jR b p c n) (fun v0:Int×Int×(List LV)=>True) (fun e0:Int×(List LV)=>True->K (.exit 0) (⟨[(7,.own 9 none)],[(1000000,.box [.data TBy b,dI e0.1]),(9,.arr .dp TVS e0.2)]⟩:St)) m st_
def L185 (b:LI) (p:Int) (c:LC) (n:Int):bK:=lp1 0 (LP185_0 b p c n)
theorem vc185 (b:LI) (p:Int) (c:LC) (n:Int) (K:KA):vcT C185 (L185 b p c n) ann185 f185 [.ptr 1000000 0,.brw ag c,dI n] [(1000000,.box [.data TBy b,dI p])] .raw K =
 ((Sm TBy b)/\(M.ay b)/\(0<=p)/\(p<=1000000000000000)/\(LD (M.pick b p (7:Int)) fun r1=>(∃m_,True/\de (s185_0 b p c n) (F.jR b p c n) (fun v0:Int×Int×(List LV)=>True) (fun e0:Int×(List LV)=>True->K (.own 0 none) [(0,.arr .dp TVS e0.2),(1000000,.box [.data TBy b,dI e0.1])]) m_ (s185_0 b p c n (r1.1,r1.2,[]))))):=by kernel_rfl
theorem lvc185_0 (b:LI) (p:Int) (c:LC) (n:Int)  (v0:Int×Int×(List LV)) (m:Nat) (K:KX):lvT C185 (L185 b p c n) ann185 f185 0 0 (s185_0 b p c n v0) m K =
 (cond (decide (Z0<v0.1)) (cond ((decide (Z0<(v0.2.2.length:Int)))==true) ((Sm TBy b)/\(M.ay b)/\(0<=v0.2.1)/\(v0.2.1<=1000000000000000)/\(LD (M.pick b v0.2.1 Z3) fun r2=>cond (decide (r2.1=Z0)) ((Sm TBy b)/\(M.ay b)/\(0<=r2.2)/\(r2.2<=1000000000000000)/\(LD (M.pick b r2.2 (v0.2.2.length:Int)) fun r3=>(0<=r3.1)/\(r3.1<(v0.2.2.length:Int))/\(Sm TVS (@nth TVS v0.2.2 r3.1))/\(LD (@nth TVS v0.2.2 r3.1) fun r4=>((v0.2.2.length+[r4].length) * 24<=lim)/\(nxT (LP185_0 b p c n) m K (s185_0 b p c n (wrap64 (v0.1-Z1),r3.2,(v0.2.2++[r4]))))))) ((Sm TBy b)/\(Sm TCS c)/\(M.ay b)/\(0<=r2.2)/\(r2.2<=997000000000000)/\(LD (M.jM b r2.2 c n) fun r5=>((v0.2.2.length+[r5.1].length) * 24<=lim)/\(nxT (LP185_0 b p c n) m K (s185_0 b p c n (wrap64 (v0.1-Z1),r5.2,(v0.2.2++[r5.1])))))))) ((Sm TBy b)/\(Sm TCS c)/\(M.ay b)/\(0<=v0.2.1)/\(v0.2.1<=997000000000000)/\(LD (M.jM b v0.2.1 c n) fun r5=>((v0.2.2.length+[r5.1].length) * 24<=lim)/\(nxT (LP185_0 b p c n) m K (s185_0 b p c n (wrap64 (v0.1-Z1),r5.2,(v0.2.2++[r5.1]))))))) (K (.exit 0) (⟨[(7,.own 9 none)],[(1000000,.box [.data TBy b,dI v0.2.1]),(9,.arr .dp TVS v0.2.2)]⟩:St))):=by kernel_rfl
theorem con185_ok:bt P 185 c185:=bA C185 func185 (kC con67_ok (kC con110_ok (kC con128_ok kN))) fun args hp K h0=>by
 unfold c185 at h0
 dsimp only at h0
 obtain⟨b,p,rfl,h00⟩:=fq h0
 obtain⟨a0,a1,a2,rfl,_,h1⟩:=gq h00
 obtain⟨rfl,h2⟩:=dw h1
 obtain⟨c,rfl,h3⟩:=dx h2
 obtain⟨n,rfl,h4⟩:=aP h3
 obtain⟨h_b,h_c,p0,p1,p2,p3,p4,hK⟩:=h4
 have h:ok (F.lE b p c n) (fun r=>K (.own 0 none) [(0,.arr .dp TVS r.1),(1000000,.box [.data TBy b,dI r.2])]):=aA (F.zP b p c n h_b h_c p0 p1 p2 p3 p4) (hK _ rfl)
 refine⟨rfl,ann185,(L185 b p c n),.raw,(bW (i0:=0) (by kernel_rfl) ?_),?_⟩
 ·rintro _ _ K ⟨hc0,v0,rfl,hv0,h⟩
  exact cast (lvc185_0 _ _ _ _ _ _ _).symm (cC h (fun m1 hm0 h=>(oC h (fun _ h=>(oC h (fun _ h=>⟨h_b,(oG h fun g1 h=>(oG h fun _ h=>(oG h fun _ h=>(oL h fun _ _ h=>(oC h (fun _ h=>⟨h_b,⟨g1,(oG h fun _ h=>(oG h fun _ h=>(oL h fun _ _ h=>(oG h fun _ h=>(oG h fun _ h=>(oG h fun _ h=>(oL h fun _ _ h=>(oG h fun _ h=>(aW (fun _ hm=>⟨hc0,hm⟩) hm0 _ rfl trivial h)))))))))⟩⟩) fun _ h=>⟨h_b,⟨h_c,⟨g1,(oG h fun _ h=>(oG h fun _ h=>(oL h fun _ _ h=>(oG h fun _ h=>(aW (fun _ hm=>⟨hc0,hm⟩) hm0 _ rfl trivial h)))))⟩⟩⟩)))))⟩) fun _ h=>⟨h_b,⟨h_c,(oG h fun _ h=>(oG h fun _ h=>(oG h fun _ h=>(oL h fun _ _ h=>(oG h fun _ h=>(aW (fun _ hm=>⟨hc0,hm⟩) hm0 _ rfl trivial h))))))⟩⟩)) fun _ h=>((cB h :) trivial))))
 ·rw[vc185]
  exact⟨h_b,⟨p0,⟨p1,(oG h fun _ h=>(oL h fun _ _ h=>(bJ (fun m hm=>⟨trivial,hm⟩) _ rfl trivial (eR h (fun e0 h hv0=>h)))))⟩⟩⟩
def c126:Con:=⟨[.any,.dat aE],fun args hp K=>hpR (fun b p=>args2 (fun a0 a1=>mc a0 (dA aE a1 fun n=>(Sm TBy b)/\(M.ay b)/\(0<=p)/\(p<=995000000000000)/\(n=0)/\(LD (M.fh b p n) fun r=>K (.own 0 none) [(0,.arr .dp ai r.1),(1000000,.box [.data TBy b,dI r.2])]))) args []) hp,.plain,true⟩
abbrev C126:Ctx:=cx [(67,c67),(129,c129),(184,c184),(185,c185)] 73 [] 0 true
def ann126:=an [[kp 3],[kp 35],[kp 99],[kp 16483],[kp 99],[kp 227],[kp 227],[.fixRow 8 ai,kp 355],[kp 99],[.keep [5,38]],[],[],[],[],[],[],[kp 16]] [[kp 35]]
abbrev s126_0 (b:LI) (p:Int) (n:Int) (v0:Int×Int×LTb):St:=⟨[(0,.ptr 1000000 0),(1,dI n),(5,.own 9 none),(6,dI v0.1)],[(1000000,.box [.data TBy b,dI v0.2.1]),(9,.arr .dp ai v0.2.2)]⟩
abbrev LP126_0 (b:LI) (p:Int) (n:Int) (m:Nat) (st_:St) (K:KX):Prop:=True/\de (s126_0 b p n) (F.gV b p n) (fun v0:Int×Int×LTb=>True) (fun e0:Int×LTb=>True->K (.exit 0) (⟨[(0,.ptr 1000000 0),(1,dI n),(5,.own 9 none)],[(1000000,.box [.data TBy b,dI e0.1]),(9,.arr .dp ai e0.2)]⟩:St)) m st_
def L126 (b:LI) (p:Int) (n:Int):bK:=lp1 0 (LP126_0 b p n)
theorem vc126 (b:LI) (p:Int) (n:Int) (K:KA):vcT C126 (L126 b p n) ann126 (qY [(38,true)] f126) [.ptr 1000000 0,dI n] [(1000000,.box [.data TBy b,dI p])] .raw K =
 ((Sm TBy b)/\(M.ay b)/\(0<=p)/\(p<=1000000000000000)/\(LD (M.pick b p Z3) fun r1=>(∃m_,True/\de (s126_0 b p n) (F.gV b p n) (fun v0:Int×Int×LTb=>True) (fun e0:Int×LTb=>True->(Sm TBy b)/\(M.ay b)/\(0<=e0.1)/\(e0.1<=999000000000000)/\(LD (M.odd b e0.1 n) fun r2=>cond r2.1 False (K (.own 0 none) [(0,.arr .dp ai e0.2),(1000000,.box [.data TBy b,dI r2.2])]))) m_ (s126_0 b p n (wrap64 (Z1+r1.1),r1.2,[]))))):=by kernel_rfl
theorem lvc126_0 (b:LI) (p:Int) (n:Int)  (v0:Int×Int×LTb) (m:Nat) (K:KX):lvT C126 (L126 b p n) ann126 (qY [(38,true)] f126) 0 0 (s126_0 b p n v0) m K =
 (cond (decide (Z0<v0.1)) ((Sm TBy b)/\(M.ay b)/\(0<=v0.2.1)/\(v0.2.1<=998000000000000)/\(LD (M.gu b v0.2.1 Z0) fun r3=>(Sm TBy b)/\(M.ay b)/\(0<=r3.2)/\(r3.2<=1000000000000000)/\(LD (M.pick b r3.2 Z2) fun r4=>((r3.1.length:Int)≠0)/\(0<=Z0)/\(Z0<=wrap64 (Z1+(r4.1.tmod (r3.1.length:Int))))/\(wrap64 (Z1+(r4.1.tmod (r3.1.length:Int)))<=(r3.1.length:Int))/\(wrap64 (Z1+(r4.1.tmod (r3.1.length:Int)))=wrap64 (Z1+(r4.1.tmod (r3.1.length:Int))))/\(Sm TBy b)/\(Sm TCS (aj r3.1 (some (Z0,wrap64 (Z1+(r4.1.tmod (r3.1.length:Int)))))))/\(M.ay b)/\(0<=r4.2)/\(r4.2<=996000000000000)/\((aj r3.1 (some (Z0,wrap64 (Z1+(r4.1.tmod (r3.1.length:Int)))))).length<=6)/\(Z0=0)/\(LD (M.oA b r4.2 (aj r3.1 (some (Z0,wrap64 (Z1+(r4.1.tmod (r3.1.length:Int)))))) Z0) fun r5=>((v0.2.2.length+[((aj r3.1 (some (Z0,wrap64 (Z1+(r4.1.tmod (r3.1.length:Int)))))),(r5.1,()))].length) * 48<=lim)/\(nxT (LP126_0 b p n) m K (s126_0 b p n (wrap64 (v0.1-Z1),r5.2,(v0.2.2++[((aj r3.1 (some (Z0,wrap64 (Z1+(r4.1.tmod (r3.1.length:Int)))))),(r5.1,()))])))))))) (K (.exit 0) (⟨[(0,.ptr 1000000 0),(1,dI n),(5,.own 9 none)],[(1000000,.box [.data TBy b,dI v0.2.1]),(9,.arr .dp ai v0.2.2)]⟩:St))):=by kernel_rfl
theorem con126_ok:bt P 126 c126:=Gt [(38,true)] C126 func126 (kC con67_ok (kC con129_ok (kC con184_ok (kC con185_ok kN)))) fun args hp K h0=>by
 unfold c126 at h0
 dsimp only at h0
 obtain⟨b,p,rfl,h00⟩:=fq h0
 obtain⟨a0,a1,rfl,_,h1⟩:=bZ h00
 obtain⟨rfl,h2⟩:=dw h1
 obtain⟨n,rfl,h3⟩:=aP h2
 obtain⟨h_b,p0,p1,p2,p3,hK⟩:=h3
 have h:ok (F.hG b p n) (fun r=>K (.own 0 none) [(0,.arr .dp ai r.1),(1000000,.box [.data TBy b,dI r.2])]):=aA (F.uI b p n h_b p0 p1 p2 p3) (hK _ rfl)
 refine⟨rfl,ann126,(L126 b p n),.raw,(bW (i0:=0) (by kernel_rfl) ?_),?_⟩
 ·rintro _ _ K ⟨hc0,v0,rfl,hv0,h⟩
  exact cast (lvc126_0 _ _ _ _ _ _).symm (cC h (fun m1 hm0 h=>(oC h (fun _ h=>⟨h_b,(oG h fun g1 h=>(oG h fun _ h=>(oG h fun _ h=>(oL h fun _ _ h=>⟨h_b,⟨g1,(oG h fun _ h=>(oG h fun _ h=>(oL h fun _ _ h=>(oG h fun _ h=>⟨(Int.natCast_nonneg 0),(oG h fun _ h=>(oG h fun _ h=>⟨rfl,⟨h_b,(oG h fun _ h=>⟨g1,(oG h fun _ h=>(oG h fun _ h=>(oG h fun _ h=>(oG h fun _ h=>(oL h fun _ _ h=>(oG h fun _ h=>(aW (fun _ hm=>⟨hc0,hm⟩) hm0 _ rfl trivial h)))))))⟩)⟩⟩))⟩))))⟩⟩))))⟩) fun _ h=>((cB h :) trivial))))
 ·rw[vc126]
  exact⟨h_b,⟨p0,⟨p1,(oG h fun _ h=>(oL h fun _ _ h=>(bJ (fun m hm=>⟨trivial,hm⟩) _ rfl trivial (eR h (fun e0 h hv0=>⟨h_b,⟨p0,(oG h fun _ h=>(oG h fun _ h=>(oL h fun _ _ h=>(oC h (fun _ h=>h) fun _ h=>h))))⟩⟩)))))⟩⟩⟩
def c205:Con:=⟨[.any,.dat TCS,.dat aE],fun args hp K=>hpR (fun b p=>rK (fun a0 a1 a2=>mc a0 (dA TCS a1 fun LJ=>dA aE a2 fun kind=>(Sm TBy b)/\(Sm TCS LJ)/\(M.ay b)/\(0<=p)/\(p<=997000000000000)/\(LD (M.fM b p LJ kind) fun r=>K (.data aD r.1) [(1000000,.box [.data TBy b,dI r.2])]))) args []) hp,.plain,true⟩
abbrev C205:Ctx:=cx [(67,c67),(187,c187)] 41 [] 0 false
def ann205:=an [[kp 71],[kp 199],[kp 32967],[kp 199],[kp 455],[kp 8589935047],[kp 64],[kp 64]] [[kp 69]]
abbrev s205_0 (b:LI) (p:Int) (LJ:LC) (kind:Int) (v0:Int×Int):St:=⟨[(0,.ptr 1000000 0),(1,.data TCS LJ),(2,dI kind),(6,.ptr 6 0),(7,dI v0.1)],[(1000000,.box [.data TBy b,dI v0.2]),(6,.box [dI Z0,dI Z0,dI Z0,dI Z0,.data Ty.str (⟨#[]⟩:ByteArray)])]⟩
abbrev LP205_0 (b:LI) (p:Int) (LJ:LC) (kind:Int) (m:Nat) (st_:St) (K:KX):Prop:=True/\de (s205_0 b p LJ kind) (F.jr b p LJ kind) (fun v0:Int×Int=>True) (bz (fun e0:Int=>True->K (.exit 0) (⟨[(0,.ptr 1000000 0),(2,dI kind),(6,.ptr 6 0)],[(1000000,.box [.data TBy b,dI e0]),(6,.box [dI Z0,dI Z0,dI Z0,dI Z0,.data Ty.str (⟨#[]⟩:ByteArray)])]⟩:St)) (fun q0:Int×Int=>K .ret (⟨[(6,.ptr 6 0)],[(1000000,.box [.data TBy b,dI q0.1]),(6,.box [dI Z2,dI q0.2,dI Z0,dI Z0,.data Ty.str (⟨#[]⟩:ByteArray)])]⟩:St))) m st_
def L205 (b:LI) (p:Int) (LJ:LC) (kind:Int):bK:=lp1 0 (LP205_0 b p LJ kind)
theorem vc205 (b:LI) (p:Int) (LJ:LC) (kind:Int) (K:KA):vcT C205 (L205 b p LJ kind) ann205 f205 [.ptr 1000000 0,.data TCS LJ,dI kind] [(1000000,.box [.data TBy b,dI p])] (.dat aD) K =
 (∃m_,True/\de (s205_0 b p LJ kind) (F.jr b p LJ kind) (fun v0:Int×Int=>True) (bz (fun e0:Int=>True->(Sm TBy b)/\(M.ay b)/\(0<=e0)/\(e0<=998000000000000)/\(LD (M.kY b e0 (kind,(false,()))) fun r1=>K (.data aD (Z1,(Z0,(r1.1,())))) [(1000000,.box [.data TBy b,dI r1.2])])) (fun q0:Int×Int=>K (.data aD (Z2,(q0.2,((Z0,(Z0,((⟨#[]⟩:ByteArray),()))),())))) [(1000000,.box [.data TBy b,dI q0.1])])) m_ (s205_0 b p LJ kind (Z0,p))):=by kernel_rfl
abbrev S205l0_0 (b:LI) (p:Int) (LJ:LC) (kind:Int)  (v0:Int×Int) (m:Nat) (K:KX):Prop:=K (.exit 0) (⟨[(0,.ptr 1000000 0),(2,dI kind),(6,.ptr 6 0)],[(1000000,.box [.data TBy b,dI v0.2]),(6,.box [dI Z0,dI Z0,dI Z0,dI Z0,.data Ty.str (⟨#[]⟩:ByteArray)])]⟩:St)
theorem lvc205_0 (b:LI) (p:Int) (LJ:LC) (kind:Int)  (v0:Int×Int) (m:Nat) (K:KX):lvT C205 (L205 b p LJ kind) ann205 f205 0 0 (s205_0 b p LJ kind v0) m K =
 (cond ((decide (v0.1<Z4))==true) (cond (decide (Z0<(LJ.length:Int))) ((Sm TBy b)/\(M.ay b)/\(0<=v0.2)/\(v0.2<=1000000000000000)/\(LD (M.pick b v0.2 (LJ.length:Int)) fun r2=>(0<=r2.1)/\(r2.1<(LJ.length:Int))/\cond ((decide ((nC LJ r2.1).1=kind))==true) ((Sm TBy b)/\(M.ay b)/\(0<=r2.2)/\(r2.2<=1000000000000000)/\(LD (M.pick b r2.2 Z3) fun r3=>cond (decide (Z0<r3.1)) (K .ret (⟨[(6,.ptr 6 0)],[(1000000,.box [.data TBy b,dI r3.2]),(6,.box [dI Z2,dI r2.1,dI Z0,dI Z0,.data Ty.str (⟨#[]⟩:ByteArray)])]⟩:St)) (nxT (LP205_0 b p LJ kind) m K (s205_0 b p LJ kind (wrap64 (v0.1+Z1),r3.2))))) (nxT (LP205_0 b p LJ kind) m K (s205_0 b p LJ kind (wrap64 (v0.1+Z1),r2.2))))) (S205l0_0  b p LJ kind v0 m K)) (S205l0_0  b p LJ kind v0 m K)):=by kernel_rfl
theorem con205_ok:bt P 205 c205:=bA C205 func205 (kC con67_ok (kC con187_ok kN)) fun args hp K h0=>by
 unfold c205 at h0
 dsimp only at h0
 obtain⟨b,p,rfl,h00⟩:=fq h0
 obtain⟨a0,a1,a2,rfl,_,h1⟩:=gq h00
 obtain⟨rfl,h2⟩:=dw h1
 obtain⟨LJ,rfl,h3⟩:=aP h2
 obtain⟨kind,rfl,h4⟩:=aP h3
 obtain⟨h_b,LP,p0,p1,p2,hK⟩:=h4
 have h:ok (F.jY b p LJ kind) (fun r=>K (.data aD r.1) [(1000000,.box [.data TBy b,dI r.2])]):=aA (F.yE b p LJ kind h_b LP p0 p1 p2) (hK _ rfl)
 refine⟨rfl,ann205,(L205 b p LJ kind),(.dat aD),(bW (i0:=0) (by kernel_rfl) ?_),?_⟩
 ·rintro _ _ K ⟨hc0,v0,rfl,hv0,h⟩
  exact cast (lvc205_0 _ _ _ _ _ _ _).symm (cC h (fun m1 hm0 h=>(oC h (fun _ h=>(oC h (fun _ h=>⟨h_b,(oG h fun g1 h=>(oG h fun _ h=>(oG h fun _ h=>(oL h fun _ _ h=>(oG h fun _ h=>(oG h fun _ h=>(oC h (fun _ h=>⟨h_b,⟨g1,(oG h fun _ h=>(oG h fun _ h=>(oL h fun _ _ h=>(oC h (fun _ h=>h) fun _ h=>(aW (fun _ hm=>⟨hc0,hm⟩) hm0 _ rfl trivial h)))))⟩⟩) fun _ h=>(aW (fun _ hm=>⟨hc0,hm⟩) hm0 _ rfl trivial h))))))))⟩) fun _ h=>((cB h :) trivial))) fun _ h=>((cB h :) trivial))))
 ·rw[vc205]
  exact(bJ (fun m hm=>⟨trivial,hm⟩) _ rfl trivial (bn h (fun e0 h hv0=>⟨h_b,⟨p0,(oG h fun _ h=>(oG h fun _ h=>(oL h fun _ _ h=>h)))⟩⟩) (fun q0 h=>h)))
def c160r (n_:Nat):Con:=⟨[.any,.dat TCS,.dat aE,.dat aE],fun args hp K=>hpR (fun b p=>DB (fun a0 a1 a2 a3=>mc a0 (dA TCS a1 fun LJ=>dA aE a2 fun kind=>dA aE a3 fun deep=>(Sm TBy b)/\(Sm TCS LJ)/\(M.ay b)/\(0<=p)/\(p+40 * (M.eB deep:Int)<=996000000000000)/\(deep<=3)/\(deep.toNat<n_)/\(LD (M.cv n_ b p LJ kind deep) fun r=>K (.own 0 none) [(0,.arr .sh aD r.1),(1000000,.box [.data TBy b,dI r.2])]))) args []) hp,.plain,true⟩
abbrev C160 (n_:Nat):Ctx:=cx [(67,c67),(205,c205),(160,c160r n_)] 111 [] 0 false
def ann160:=an [[kp 15],[kp 65551],[kp 256],[kp 8388623],[kp 256],[kp 1099511627791],[kp 256],[kp 140737488355339],[kp 422212465065995],[kp 256],[.keep [0,1,3,47,67]],[kp 256],[.keep [0,1,3,77]],[kp 256],[kp 523],[kp 256]] []
theorem vc160 (n_:Nat) (b:LI) (p:Int) (LJ:LC) (kind:Int) (deep:Int) (K:KA):vcT (C160 n_) aB ann160 f160 [.ptr 1000000 0,.data TCS LJ,dI kind,dI deep] [(1000000,.box [.data TBy b,dI p])] .raw K =
 (cond ((decide (deep<Z1))==false) ((Sm TBy b)/\(M.ay b)/\(0<=p)/\(p<=1000000000000000)/\(LD (M.pick b p Z4) fun r1=>cond (decide (r1.1=Z0)) ((Sm TBy b)/\(Sm TCS LJ)/\(M.ay b)/\(0<=r1.2)/\(r1.2<=997000000000000)/\(LD (M.fM b r1.2 LJ kind) fun r2=>K (.own 0 none) [(0,.arr .sh aD [r2.1]),(1000000,.box [.data TBy b,dI r2.2])])) (cond (decide (kind=Z1)) ((Sm TBy b)/\(Sm TCS LJ)/\(M.ay b)/\(0<=r1.2)/\(r1.2+40 * (M.eB (wrap64 (deep-Z1)):Int)<=996000000000000)/\((wrap64 (deep-Z1))<=3)/\((wrap64 (deep-Z1)).toNat<n_)/\(LD (M.cv n_ b r1.2 LJ kind (wrap64 (deep-Z1))) fun r3=>(Sm TBy b)/\(Sm TCS LJ)/\(M.ay b)/\(0<=r3.2)/\(r3.2<=997000000000000)/\(LD (M.fM b r3.2 LJ kind) fun r4=>((r3.1.length+[r4.1].length) * 48<=lim)/\(((r3.1++[r4.1]).length+([(Z3,(Z0,((Z0,(Z0,((⟨#[]⟩:ByteArray),()))),())))]:List aD.D).length) * 48<=lim)/\K (.own 0 none) [(0,.arr .sh aD ((r3.1++[r4.1])++[(Z3,(Z0,((Z0,(Z0,((⟨#[]⟩:ByteArray),()))),())))])),(1000000,.box [.data TBy b,dI r4.2])]))) (cond (decide (kind=Z2)) ((Sm TBy b)/\(Sm TCS LJ)/\(M.ay b)/\(0<=r1.2)/\(r1.2<=997000000000000)/\(LD (M.fM b r1.2 LJ kind) fun r5=>K (.own 0 none) [(0,.arr .sh aD [r5.1]),(1000000,.box [.data TBy b,dI r5.2])])) ((Sm TBy b)/\(M.ay b)/\(0<=r1.2)/\(r1.2<=1000000000000000)/\(LD (M.pick b r1.2 Z6) fun r6=>cond (decide (r6.1=Z0)) ((Sm TBy b)/\(Sm TCS LJ)/\(M.ay b)/\(0<=r6.2)/\(r6.2+40 * (M.eB (wrap64 (deep-Z1)):Int)<=996000000000000)/\((wrap64 (deep-Z1))<=3)/\((wrap64 (deep-Z1)).toNat<n_)/\(LD (M.cv n_ b r6.2 LJ Z3 (wrap64 (deep-Z1))) fun r7=>(Sm TBy b)/\(Sm TCS LJ)/\(M.ay b)/\(0<=r7.2)/\(r7.2+40 * (M.eB (wrap64 (deep-Z2)):Int)<=996000000000000)/\((wrap64 (deep-Z2))<=3)/\((wrap64 (deep-Z2)).toNat<n_)/\(LD (M.cv n_ b r7.2 LJ Z3 (wrap64 (deep-Z2))) fun r8=>((r7.1.length+r8.1.length) * 48<=lim)/\(Sm TBy b)/\(M.ay b)/\(0<=r8.2)/\(r8.2<=1000000000000000)/\(LD (M.pick b r8.2 Z2) fun r9=>(((r7.1++r8.1).length+([(wrap64 (Z5+r9.1),(Z0,((Z0,(Z0,((⟨#[]⟩:ByteArray),()))),())))]:List aD.D).length) * 48<=lim)/\K (.own 0 none) [(0,.arr .sh aD ((r7.1++r8.1)++[(wrap64 (Z5+r9.1),(Z0,((Z0,(Z0,((⟨#[]⟩:ByteArray),()))),())))])),(1000000,.box [.data TBy b,dI r9.2])])))) (cond (decide (r6.1=Z1)) ((Sm TBy b)/\(Sm TCS LJ)/\(M.ay b)/\(0<=r6.2)/\(r6.2+40 * (M.eB (wrap64 (deep-Z1)):Int)<=996000000000000)/\((wrap64 (deep-Z1))<=3)/\((wrap64 (deep-Z1)).toNat<n_)/\(LD (M.cv n_ b r6.2 LJ Z3 (wrap64 (deep-Z1))) fun r10=>((r10.1.length+([((7:Int),(Z0,((Z0,(Z0,((⟨#[]⟩:ByteArray),()))),())))]:List aD.D).length) * 48<=lim)/\K (.own 0 none) [(0,.arr .sh aD (r10.1++[((7:Int),(Z0,((Z0,(Z0,((⟨#[]⟩:ByteArray),()))),())))])),(1000000,.box [.data TBy b,dI r10.2])])) (cond (decide (r6.1=Z2)) ((Sm TBy b)/\(M.ay b)/\(0<=r6.2)/\(r6.2<=1000000000000000)/\(LD (M.pick b r6.2 Z3) fun r11=>(Sm TBy b)/\(Sm TCS LJ)/\(M.ay b)/\(0<=r11.2)/\(r11.2+40 * (M.eB (wrap64 (deep-Z1)):Int)<=996000000000000)/\((wrap64 (deep-Z1))<=3)/\((wrap64 (deep-Z1)).toNat<n_)/\(LD (M.cv n_ b r11.2 LJ (wrap64 (Z1+r11.1)) (wrap64 (deep-Z1))) fun r12=>((r12.1.length+([((8:Int),(Z0,((Z0,(Z0,((⟨#[]⟩:ByteArray),()))),())))]:List aD.D).length) * 48<=lim)/\K (.own 0 none) [(0,.arr .sh aD (r12.1++[((8:Int),(Z0,((Z0,(Z0,((⟨#[]⟩:ByteArray),()))),())))])),(1000000,.box [.data TBy b,dI r12.2])]))) ((Sm TBy b)/\(M.ay b)/\(0<=r6.2)/\(r6.2<=1000000000000000)/\(LD (M.pick b r6.2 Z3) fun r13=>(Sm TBy b)/\(Sm TCS LJ)/\(M.ay b)/\(0<=r13.2)/\(r13.2+40 * (M.eB (wrap64 (deep-Z1)):Int)<=996000000000000)/\((wrap64 (deep-Z1))<=3)/\((wrap64 (deep-Z1)).toNat<n_)/\(LD (M.cv n_ b r13.2 LJ (wrap64 (Z1+r13.1)) (wrap64 (deep-Z1))) fun r14=>(Sm TBy b)/\(Sm TCS LJ)/\(M.ay b)/\(0<=r14.2)/\(r14.2<=997000000000000)/\(LD (M.fM b r14.2 LJ (wrap64 (Z1+r13.1))) fun r15=>((r14.1.length+[r15.1].length) * 48<=lim)/\(Sm TBy b)/\(M.ay b)/\(0<=r15.2)/\(r15.2<=1000000000000000)/\(LD (M.pick b r15.2 Z4) fun r16=>(((r14.1++[r15.1]).length+([(Z4,(wrap64 (Z1+r16.1),((Z0,(Z0,((⟨#[]⟩:ByteArray),()))),())))]:List aD.D).length) * 48<=lim)/\K (.own 0 none) [(0,.arr .sh aD ((r14.1++[r15.1])++[(Z4,(wrap64 (Z1+r16.1),((Z0,(Z0,((⟨#[]⟩:ByteArray),()))),())))])),(1000000,.box [.data TBy b,dI r16.2])]))))))))))))) ((Sm TBy b)/\(Sm TCS LJ)/\(M.ay b)/\(0<=p)/\(p<=997000000000000)/\(LD (M.fM b p LJ kind) fun r2=>K (.own 0 none) [(0,.arr .sh aD [r2.1]),(1000000,.box [.data TBy b,dI r2.2])]))):=by kernel_rfl
theorem con160r_ok:∀n_,bt P 160 (c160r n_)
 | 0=>bA (cx [] 111 [] 0 false) func160 kN fun args hp K h0=>by
  unfold c160r at h0
  dsimp only at h0
  obtain⟨b,p,rfl,h00⟩:=fq h0
  obtain⟨a0,a1,a2,a3,rfl,_,h1⟩:=tT h00
  obtain⟨rfl,h2⟩:=dw h1
  obtain⟨LJ,rfl,h3⟩:=aP h2
  obtain⟨kind,rfl,h4⟩:=aP h3
  obtain⟨deep,rfl,h5⟩:=aP h4
  obtain⟨h_b,LP,p0,p1,p2,p3,p4,_⟩:=h5
  exact absurd p4 (Nat.not_lt_zero _)
 | n_+1=>(fun ih=>bA (C160 n_) func160 (kC con67_ok (kC con205_ok (kC ih kN))) fun args hp K h0=>by
  unfold c160r at h0
  dsimp only at h0
  obtain⟨b,p,rfl,h00⟩:=fq h0
  obtain⟨a0,a1,a2,a3,rfl,_,h1⟩:=tT h00
  obtain⟨rfl,h2⟩:=dw h1
  obtain⟨LJ,rfl,h3⟩:=aP h2
  obtain⟨kind,rfl,h4⟩:=aP h3
  obtain⟨deep,rfl,h5⟩:=aP h4
  obtain⟨h_b,LP,p0,p1,p2,p3,p4,hK⟩:=h5
  have h:ok (F.mm n_ b p LJ kind deep) (fun r=>K (.own 0 none) [(0,.arr .sh aD r.1),(1000000,.box [.data TBy b,dI r.2])]):=aA (F.yG n_ b p LJ kind deep h_b LP p0 p1 p2 p3 p4) (hK _ rfl)
  refine⟨rfl,ann160,aB,.raw,(aL (by kernel_rfl)),?_⟩
  ·rw[vc160]
   exact(oC h (fun _ h=>⟨h_b,⟨p0,⟨p1,(oG h fun _ h=>(oL h fun _ _ h=>(oC h (fun _ h=>⟨h_b,⟨LP,⟨p0,(oG h fun _ h=>(oG h fun _ h=>(oL h fun _ _ h=>h)))⟩⟩⟩) fun _ h=>(oC h (fun _ h=>⟨h_b,⟨LP,⟨p0,(oG h fun _ h=>(oG h fun _ h=>(oG h fun _ h=>(oG h fun _ h=>(oL h fun _ _ h=>⟨h_b,⟨LP,⟨p0,(oG h fun _ h=>(oG h fun _ h=>(oL h fun _ _ h=>(oG h fun _ h=>(oG h fun _ h=>h)))))⟩⟩⟩)))))⟩⟩⟩) fun _ h=>(oC h (fun _ h=>⟨h_b,⟨LP,⟨p0,(oG h fun _ h=>(oG h fun _ h=>(oL h fun _ _ h=>h)))⟩⟩⟩) fun _ h=>⟨h_b,⟨p0,(oG h fun _ h=>(oG h fun _ h=>(oL h fun _ _ h=>(oC h (fun _ h=>⟨h_b,⟨LP,⟨p0,(oG h fun _ h=>(oG h fun _ h=>(oG h fun _ h=>(oG h fun _ h=>(oL h fun _ _ h=>⟨h_b,⟨LP,⟨p0,(oG h fun _ h=>(oG h fun _ h=>(oG h fun _ h=>(oG h fun _ h=>(oL h fun _ _ h=>(oG h fun _ h=>⟨h_b,⟨p0,(oG h fun _ h=>(oG h fun _ h=>(oL h fun _ _ h=>(oG h fun _ h=>h))))⟩⟩))))))⟩⟩⟩)))))⟩⟩⟩) fun _ h=>(oC h (fun _ h=>⟨h_b,⟨LP,⟨p0,(oG h fun _ h=>(oG h fun _ h=>(oG h fun _ h=>(oG h fun _ h=>(oL h fun _ _ h=>(oG h fun _ h=>h))))))⟩⟩⟩) fun _ h=>(oC h (fun _ h=>⟨h_b,⟨p0,(oG h fun _ h=>(oG h fun _ h=>(oL h fun _ _ h=>⟨h_b,⟨LP,⟨p0,(oG h fun _ h=>(oG h fun _ h=>(oG h fun _ h=>(oG h fun _ h=>(oL h fun _ _ h=>(oG h fun _ h=>h))))))⟩⟩⟩)))⟩⟩) fun _ h=>⟨h_b,⟨p0,(oG h fun _ h=>(oG h fun _ h=>(oL h fun _ _ h=>⟨h_b,⟨LP,⟨p0,(oG h fun _ h=>(oG h fun _ h=>(oG h fun _ h=>(oG h fun _ h=>(oL h fun _ _ h=>⟨h_b,⟨LP,⟨p0,(oG h fun _ h=>(oG h fun _ h=>(oL h fun _ _ h=>(oG h fun _ h=>⟨h_b,⟨p0,(oG h fun _ h=>(oG h fun _ h=>(oL h fun _ _ h=>(oG h fun _ h=>h))))⟩⟩))))⟩⟩⟩)))))⟩⟩⟩)))⟩⟩))))))⟩⟩)))))⟩⟩⟩) fun _ h=>⟨h_b,⟨LP,⟨p0,⟨p1,(oG h fun _ h=>(oL h fun _ _ h=>h))⟩⟩⟩⟩)) (con160r_ok n_)
def c160:Con:=c160r 64
theorem con160_ok:bt P 160 c160:=con160r_ok 64
def c143:Con:=⟨[.dat aE,.dat aE,.dat aE],fun args hp K=>g3 (pD aE) (pD aE) (pD aE) (fun n low high=>K (dB (M.inR n low high)) []) args hp,.plain,false⟩
abbrev C143:Ctx:=cx [] 15 [] 0 false
def ann143:=an [[kp 7],[kp 64]] []
theorem vc143 (n:Int) (low:Int) (high:Int) (K:KA):vcT C143 aB ann143 f143 [dI n,dI low,dI high] [] (.dat Ty.bool) K =
 (cond ((decide (low<=n))==true) (K (dB (decide (n<=high))) []) (K (dB false) [])):=by kernel_rfl
theorem con143_ok:bt P 143 c143:=bA C143 func143 kN fun args hp K h0=>by
 obtain⟨n,low,high,rfl,rfl,hK⟩:=g3e h0
 have h:ok (F.wX n low high) (fun r=>K (dB r) []):=aA (F.Cw n low high) hK
 refine⟨rfl,ann143,aB,(.dat Ty.bool),(aL (by kernel_rfl)),?_⟩
 ·rw[vc143]
  exact(oC h (fun _ h=>h) fun _ h=>h)
def c178:Con:=⟨[.dat TCS],fun args hp K=>g1 (pD TCS) (fun LJ=>(Sm TCS LJ)/\K (dB (M.cm LJ)) []) args hp,.plain,false⟩
abbrev C178:Ctx:=cx [(143,c143)] 20 [] 0 false
def ann178:=an [[kp 1],[kp 9],[kp 137],[kp 9],[kp 65545],[kp 4],[kp 4]] [[kp 1]]
abbrev s178_0 (LJ:LC) (i0:Int) (v0:Unit):St:=⟨[(0,.data TCS LJ),(3,dI i0)],[]⟩
abbrev LP178_0 (LJ:LC) (m:Nat) (st_:St) (K:KX):Prop:=True/\cw (t:=ag) (s178_0 LJ) LJ (F.gX LJ) (fun v0:Unit=>True) (bz (fun v0:Unit=>True->K (.exit 0) (⟨[(0,.data TCS LJ)],[]⟩:St)) (fun q0:Unit=>K .ret (⟨[(2,dB false)],[]⟩:St))) m st_
def L178 (LJ:LC):bK:=lp1 0 (LP178_0 LJ)
theorem vc178 (LJ:LC) (K:KA):vcT C178 (L178 LJ) ann178 f178 [.data TCS LJ] [] (.dat Ty.bool) K =
 (∃m_,True/\cw (t:=ag) (s178_0 LJ) LJ (F.gX LJ) (fun v0:Unit=>True) (bz (fun v0:Unit=>True->K (dB (decide ((LJ.length:Int)<=Z4))) []) (fun q0:Unit=>K (dB false) [])) m_ (s178_0 LJ Z0 ())):=by kernel_rfl
theorem lvc178_0 (LJ:LC)  (i0:Int) (v0:Unit) (m:Nat) (K:KX):lvT C178 (L178 LJ) ann178 f178 0 0 (s178_0 LJ i0 v0) m K =
 (cond (decide (i0<(LJ.length:Int))) ((0<=i0)/\(i0<(LJ.length:Int))/\cond (!(M.inR (nC LJ i0).1 Z1 Z3)) (K .ret (⟨[(2,dB false)],[]⟩:St)) (nxT (LP178_0 LJ) m K (s178_0 LJ (wrap64 (i0+Z1)) ()))) (K (.exit 0) (⟨[(0,.data TCS LJ)],[]⟩:St))):=by kernel_rfl
theorem con178_ok:bt P 178 c178:=bA C178 func178 (kC con143_ok kN) fun args hp K h0=>by
 obtain⟨LJ,rfl,rfl,LP,hK⟩:=g1e h0
 have h:ok (F.mQ LJ) (fun r=>K (dB r) []):=aA (F.uY LJ LP) hK
 refine⟨rfl,ann178,(L178 LJ),(.dat Ty.bool),(bW (i0:=0) (by kernel_rfl) ?_),?_⟩
 ·rintro _ _ K ⟨hc0,i0,v0,rfl,hl0,rfl,hv0,h⟩
  exact cast (lvc178_0 _ _ _ _ _).symm (bD (t:=ag) hl0 h (fun ht0 h=>⟨hl0,⟨ht0,(oC h (fun _ h=>h) fun _ h=>(br (t:=ag) (fun _ hm=>⟨hc0,hm⟩) _ rfl hl0 ht0 (bC LP) trivial h))⟩⟩) fun h=>(h trivial))
 ·rw[vc178]
  exact(bu (t:=ag) (fun m hm=>⟨trivial,hm⟩) _ rfl trivial (bn h (fun v0 h hv0=>h) (fun q0 h=>h)))
def c249:Con:=⟨[.dat Ty.str],fun args hp K=>g1 (pD Ty.str) (fun s=>(Sm Ty.str s)/\K (dB (M.text s)) []) args hp,.plain,false⟩
abbrev C249:Ctx:=cx [] 23 [] 0 false
def ann249:=an [[kp 1],[kp 9],[kp 137],[kp 9],[kp 524297],[kp 4],[kp 4]] [[kp 1]]
abbrev s249_0 (s:ByteArray) (i0:Int) (v0:Unit):St:=⟨[(0,.data Ty.str s),(3,dI i0)],[]⟩
abbrev LP249_0 (s:ByteArray) (m:Nat) (st_:St) (K:KX):Prop:=True/\dc (s249_0 s) Z0 (s.size:Int) (F.jT s) (fun v0:Unit=>True) (bz (fun v0:Unit=>True->K (.exit 0) (⟨[(0,.data Ty.str s)],[]⟩:St)) (fun q0:Unit=>K .ret (⟨[(2,dB false)],[]⟩:St))) m st_
def L249 (s:ByteArray):bK:=lp1 0 (LP249_0 s)
theorem vc249 (s:ByteArray) (K:KA):vcT C249 (L249 s) ann249 f249 [.data Ty.str s] [] (.dat Ty.bool) K =
 (∃m_,True/\dc (s249_0 s) Z0 (s.size:Int) (F.jT s) (fun v0:Unit=>True) (bz (fun v0:Unit=>True->K (dB (decide ((s.size:Int)<=Z6))) []) (fun q0:Unit=>K (dB false) [])) m_ (s249_0 s Z0 ())):=by kernel_rfl
theorem lvc249_0 (s:ByteArray)  (i0:Int) (v0:Unit) (m:Nat) (K:KX):lvT C249 (L249 s) ann249 f249 0 0 (s249_0 s i0 v0) m K =
 (cond (decide (i0<(s.size:Int))) ((0<=i0)/\(i0<(s.size:Int))/\cond ((decide (((s.get! i0.toNat).toNat:Int)<(97:Int)))==false) ((0<=i0)/\(i0<(s.size:Int))/\cond (decide ((122:Int)<((s.get! i0.toNat).toNat:Int))) (K .ret (⟨[(2,dB false)],[]⟩:St)) (nxT (LP249_0 s) m K (s249_0 s (wrap64 (i0+Z1)) ()))) (K .ret (⟨[(2,dB false)],[]⟩:St))) (K (.exit 0) (⟨[(0,.data Ty.str s)],[]⟩:St))):=by kernel_rfl
theorem con249_ok:bt P 249 c249:=bA C249 func249 kN fun args hp K h0=>by
 obtain⟨s,rfl,rfl,h_s,hK⟩:=g1e h0
 have h:ok (F.rI s) (fun r=>K (dB r) []):=aA (F.As s h_s) hK
 refine⟨rfl,ann249,(L249 s),(.dat Ty.bool),(bW (i0:=0) (by kernel_rfl) ?_),?_⟩
 ·rintro _ _ K ⟨hc0,i0,v0,rfl,hl0,rfl,hv0,h⟩
  exact cast (lvc249_0 _ _ _ _ _).symm (ct h (fun ht0 h=>⟨hl0,⟨ht0,(oC h (fun _ h=>⟨hl0,⟨ht0,(oC h (fun _ h=>h) fun _ h=>(aV (fun _ hm=>⟨hc0,hm⟩) _ rfl hl0 iR ht0 (JR h_s) trivial h))⟩⟩) fun _ h=>h)⟩⟩) fun h=>(h trivial))
 ·rw[vc249]
  exact(bT (fun m hm=>⟨trivial,hm⟩) Z0 _ rfl (Int.natCast_nonneg 0) trivial (bn h (fun v0 h hv0=>h) (fun q0 h=>h)))
def c223:Con:=⟨[.dat af],fun args hp K=>g1 (pD af) (fun v=>(Sm af v)/\K (dB (M.aY v)) []) args hp,.plain,false⟩
abbrev C223:Ctx:=cx [(143,c143),(249,c249)] 45 [] 0 false
def ann223:=an [[.fixRow 1 af,kp 2],[kp 18],[kp 50],[kp 4],[kp 32786],[kp 4],[kp 33554450],[kp 4],[.keep [1,35]],[kp 4],[kp 4]] []
theorem vc223 (v:af.D) (K:KA):vcT C223 aB ann223 f223 [.data af v] [] (.dat Ty.bool) K =
 (cond (decide (v.1=Z0)) (cond ((decide (v.2.1=Z0))==true) (K (dB (decide (v.2.2.1=(⟨#[]⟩:ByteArray)))) []) (K (dB false) [])) (cond (decide (v.1=Z1)) (cond ((M.inR v.2.1 (-9999:Int) (9999:Int))==true) (K (dB (decide (v.2.2.1=(⟨#[]⟩:ByteArray)))) []) (K (dB false) [])) (cond (decide (v.1=Z2)) (cond ((decide (v.2.1=Z0))==true) ((Sm Ty.str v.2.2.1)/\K (dB (M.text v.2.2.1)) []) (K (dB false) [])) (cond (decide (v.1=Z3)) (cond ((M.inR v.2.1 Z0 Z1)==true) (K (dB (decide (v.2.2.1=(⟨#[]⟩:ByteArray)))) []) (K (dB false) [])) (K (dB false) []))))):=by kernel_rfl
theorem con223_ok:bt P 223 c223:=bA C223 func223 (kC con143_ok (kC con249_ok kN)) fun args hp K h0=>by
 obtain⟨v,rfl,rfl,h_v,hK⟩:=g1e h0
 have h:ok (F.qt v) (fun r=>K (dB r) []):=aA (F.ye v h_v) hK
 refine⟨rfl,ann223,aB,(.dat Ty.bool),(aL (by kernel_rfl)),?_⟩
 ·rw[vc223]
  exact(oC h (fun _ h=>(oC h (fun _ h=>h) fun _ h=>h)) fun _ h=>(oC h (fun _ h=>(oC h (fun _ h=>h) fun _ h=>h)) fun _ h=>(oC h (fun _ h=>(oC h (fun _ h=>⟨h_v.2.2.1,h⟩) fun _ h=>h)) fun _ h=>(oC h (fun _ h=>(oC h (fun _ h=>h) fun _ h=>h)) fun _ h=>h))))
def c196:Con:=⟨[.dat TCS,.mv,.dat aD],fun args hp K=>hpN 0 .sh aE (fun LM=>rK (fun a0 a1 a2=>dA TCS a0 fun LJ=>Hz 0 a1 (dA aD a2 fun p=>(Sm TCS LJ)/\(Sm (Ty.sl aE) LM)/\(Sm aD p)/\(LM.length<=1000)/\(LD (M.wY LJ LM p) fun r=>K (.tup [.own 0 none,dB r.2]) [(0,.arr .sh aE r.1)]))) args []) hp,.mv,false⟩
abbrev C196:Ctx:=cx [(143,c143),(223,c223)] 191 [] 0 true
def ann196:=an [[.fixRow 5 aD,kp 35],[kp 291],[kp 137438953763],[kp 192],[kp 1099511628067],[kp 3298534883619],[.keep [1,5,52]],[kp 192],[kp 192],[kp 1152922604118475043],[.keep [0,1,5,68]],[kp 192],[kp 192],[.keep [1,5,8,40,79]],[kp 770],[kp 192],[.keep [1,5,8,40,107]],[kp 1282],[kp 192],[.keep [1,8,40,137]],[.keep [1,8,40,137]],[kp 2306],[kp 192],[.keep [1,8,40,166]],[kp 192],[.keep [1,8,179]],[kp 192],[kp 192]] []
abbrev S196_0 (LJ:LC) (LM:LI) (p:aD.D) (K:KA):Prop:=(0<=Z0)/\(Z0<=(bL (wrap64 ((LM.length:Int)-Z2)) Z0))/\((bL (wrap64 ((LM.length:Int)-Z2)) Z0)<=(LM.length:Int))/\((bL (wrap64 ((LM.length:Int)-Z2)) Z0)=(bL (wrap64 ((LM.length:Int)-Z2)) Z0))/\(Z0=0)/\(((bL (wrap64 ((LM.length:Int)-Z2)) Z0).toNat+[Z1].length) * 8<=lim)/\K (.tup [.own 0 none,dB false]) [(0,.arr .sh aE (LM.take (bL (wrap64 ((LM.length:Int)-Z2)) Z0).toNat++[Z1]))]
abbrev S196_1 (LJ:LC) (LM:LI) (p:aD.D) (K:KA):Prop:=(0<=Z0)/\(Z0<=(bL (wrap64 ((LM.length:Int)-Z2)) Z0))/\((bL (wrap64 ((LM.length:Int)-Z2)) Z0)<=(LM.length:Int))/\((bL (wrap64 ((LM.length:Int)-Z2)) Z0)=(bL (wrap64 ((LM.length:Int)-Z2)) Z0))/\(Z0=0)/\(((bL (wrap64 ((LM.length:Int)-Z2)) Z0).toNat+[Z3].length) * 8<=lim)/\K (.tup [.own 0 none,dB false]) [(0,.arr .sh aE (LM.take (bL (wrap64 ((LM.length:Int)-Z2)) Z0).toNat++[Z3]))]
abbrev S196_2 (LJ:LC) (LM:LI) (p:aD.D) (K:KA):Prop:=(S196_1 LJ LM p K)
abbrev S196_3 (LJ:LC) (LM:LI) (p:aD.D) (K:KA):Prop:=cond ((decide (Z1<(LM.length:Int)))==true) ((0<=wrap64 ((LM.length:Int)-Z1))/\(wrap64 ((LM.length:Int)-Z1)<(LM.length:Int))/\cond ((decide ((nI LM (wrap64 ((LM.length:Int)-Z1)))=Z3))==true) ((0<=wrap64 ((LM.length:Int)-Z2))/\(wrap64 ((LM.length:Int)-Z2)<(LM.length:Int))/\(0<=Z0)/\(Z0<=(bL (wrap64 ((LM.length:Int)-Z2)) Z0))/\((bL (wrap64 ((LM.length:Int)-Z2)) Z0)<=(LM.length:Int))/\((bL (wrap64 ((LM.length:Int)-Z2)) Z0)=(bL (wrap64 ((LM.length:Int)-Z2)) Z0))/\(Z0=0)/\(((bL (wrap64 ((LM.length:Int)-Z2)) Z0).toNat+[Z3].length) * 8<=lim)/\K (.tup [.own 0 none,dB (decide ((nI LM (wrap64 ((LM.length:Int)-Z2)))=Z3))]) [(0,.arr .sh aE (LM.take (bL (wrap64 ((LM.length:Int)-Z2)) Z0).toNat++[Z3]))]) (S196_2 LJ LM p K)) (S196_2 LJ LM p K)
abbrev S196_4 (LJ:LC) (LM:LI) (p:aD.D) (K:KA):Prop:=cond (decide (p.1=(7:Int))) (cond ((decide (Z0<(LM.length:Int)))==true) ((0<=wrap64 ((LM.length:Int)-Z1))/\(wrap64 ((LM.length:Int)-Z1)<(LM.length:Int))/\K (.tup [.own 0 none,dB (decide ((nI LM (wrap64 ((LM.length:Int)-Z1)))=Z3))]) [(0,.arr .sh aE LM)]) (K (.tup [.own 0 none,dB false]) [(0,.arr .sh aE LM)])) (cond (decide (p.1=(8:Int))) ((0<=Z0)/\(Z0<=(bL (wrap64 ((LM.length:Int)-Z1)) Z0))/\((bL (wrap64 ((LM.length:Int)-Z1)) Z0)<=(LM.length:Int))/\((bL (wrap64 ((LM.length:Int)-Z1)) Z0)=(bL (wrap64 ((LM.length:Int)-Z1)) Z0))/\(Z0=0)/\(((bL (wrap64 ((LM.length:Int)-Z1)) Z0).toNat+[Z3].length) * 8<=lim)/\K (.tup [.own 0 none,dB (decide (Z0<(LM.length:Int)))]) [(0,.arr .sh aE (LM.take (bL (wrap64 ((LM.length:Int)-Z1)) Z0).toNat++[Z3]))]) (K (.tup [.own 0 none,dB false]) [(0,.arr .sh aE LM)]))
abbrev S196_5 (LJ:LC) (LM:LI) (p:aD.D) (K:KA):Prop:=cond (decide (p.1=Z1)) ((Sm af p.2.2.1)/\cond ((!(M.aY p.2.2.1))==false) (cond (decide (p.2.2.1.1=Z0)) (K (.tup [.own 0 none,dB false]) [(0,.arr .sh aE LM)]) (((LM.length+[p.2.2.1.1].length) * 8<=lim)/\K (.tup [.own 0 none,dB true]) [(0,.arr .sh aE (LM++[p.2.2.1.1]))])) (K (.tup [.own 0 none,dB false]) [(0,.arr .sh aE LM)])) (cond (decide (p.1=Z2)) (cond (!(M.inR p.2.1 Z0 (wrap64 ((LJ.length:Int)-Z1)))) (K (.tup [.own 0 none,dB false]) [(0,.arr .sh aE LM)]) ((0<=p.2.1)/\(p.2.1<(LJ.length:Int))/\((LM.length+[(nC LJ p.2.1).1].length) * 8<=lim)/\K (.tup [.own 0 none,dB true]) [(0,.arr .sh aE (LM++[(nC LJ p.2.1).1]))])) (cond (decide (p.1=Z3)) (cond ((decide (Z1<(LM.length:Int)))==true) ((0<=wrap64 ((LM.length:Int)-Z1))/\(wrap64 ((LM.length:Int)-Z1)<(LM.length:Int))/\cond ((decide ((nI LM (wrap64 ((LM.length:Int)-Z1)))=Z1))==true) ((0<=wrap64 ((LM.length:Int)-Z2))/\(wrap64 ((LM.length:Int)-Z2)<(LM.length:Int))/\(0<=Z0)/\(Z0<=(bL (wrap64 ((LM.length:Int)-Z2)) Z0))/\((bL (wrap64 ((LM.length:Int)-Z2)) Z0)<=(LM.length:Int))/\((bL (wrap64 ((LM.length:Int)-Z2)) Z0)=(bL (wrap64 ((LM.length:Int)-Z2)) Z0))/\(Z0=0)/\(((bL (wrap64 ((LM.length:Int)-Z2)) Z0).toNat+[Z1].length) * 8<=lim)/\K (.tup [.own 0 none,dB (decide ((nI LM (wrap64 ((LM.length:Int)-Z2)))=Z1))]) [(0,.arr .sh aE (LM.take (bL (wrap64 ((LM.length:Int)-Z2)) Z0).toNat++[Z1]))]) (S196_0 LJ LM p K)) (S196_0 LJ LM p K)) (cond (decide (p.1=Z4)) (cond ((decide (Z1<(LM.length:Int)))==true) ((0<=wrap64 ((LM.length:Int)-Z1))/\(wrap64 ((LM.length:Int)-Z1)<(LM.length:Int))/\(0<=wrap64 ((LM.length:Int)-Z2))/\(wrap64 ((LM.length:Int)-Z2)<(LM.length:Int))/\cond ((decide ((nI LM (wrap64 ((LM.length:Int)-Z1)))=(nI LM (wrap64 ((LM.length:Int)-Z2)))))==true) ((0<=Z0)/\(Z0<=(bL (wrap64 ((LM.length:Int)-Z2)) Z0))/\((bL (wrap64 ((LM.length:Int)-Z2)) Z0)<=(LM.length:Int))/\((bL (wrap64 ((LM.length:Int)-Z2)) Z0)=(bL (wrap64 ((LM.length:Int)-Z2)) Z0))/\(Z0=0)/\(((bL (wrap64 ((LM.length:Int)-Z2)) Z0).toNat+[Z3].length) * 8<=lim)/\K (.tup [.own 0 none,dB (M.inR p.2.1 Z1 Z4)]) [(0,.arr .sh aE (LM.take (bL (wrap64 ((LM.length:Int)-Z2)) Z0).toNat++[Z3]))]) (S196_2 LJ LM p K)) (S196_2 LJ LM p K)) (cond (decide (p.1=Z5)) (cond (decide (p.1=Z5)) (S196_3 LJ LM p K) (S196_4 LJ LM p K)) (cond (decide (p.1=Z6)) (S196_3 LJ LM p K) (S196_4 LJ LM p K))))))
abbrev S196_6 (LJ:LC) (LM:LI) (p:aD.D) (K:KA):Prop:=cond ((!decide (p.1=Z2))==true) (cond ((!decide (p.1=Z4))==true) (cond (!decide (p.2.1=Z0)) (K (.tup [.own 0 none,dB false]) [(0,.arr .sh aE LM)]) (S196_5 LJ LM p K)) (S196_5 LJ LM p K)) (S196_5 LJ LM p K)
theorem vc196 (LJ:LC) (LM:LI) (p:aD.D) (K:KA):vcT C196 aB ann196 f196 [.data TCS LJ,.own 0 none,.data aD p] [(0,.arr .sh aE LM)] .raw K =
 (cond ((!decide (p.1=Z1))==true) (cond ((!(Ty.beq af p.2.2.1 (Z0,(Z0,((⟨#[]⟩:ByteArray),())))))==false) (S196_6 LJ LM p K) (K (.tup [.own 0 none,dB false]) [(0,.arr .sh aE LM)])) (S196_6 LJ LM p K)):=by kernel_rfl
theorem con196_ok:bt P 196 c196:=bA C196 func196 (kC con143_ok (kC con223_ok kN)) fun args hp K h0=>by
 unfold c196 at h0
 dsimp only at h0
 obtain⟨LM,rfl,h00⟩:=lJ (n:=0) (d:=.sh) (t:=aE) h0
 obtain⟨a0,a1,a2,rfl,_,h1⟩:=gq h00
 obtain⟨LJ,rfl,h2⟩:=aP h1
 obtain⟨rfl,h3⟩:=Fa h2
 obtain⟨p,rfl,h4⟩:=aP h3
 obtain⟨LP,h_kinds,h_p,p0,hK⟩:=h4
 have h:ok (F.lD LJ LM p) (fun r=>K (.tup [.own 0 none,dB r.2]) [(0,.arr .sh aE r.1)]):=aA (F.zF LJ LM p LP h_kinds h_p p0) (hK _ rfl)
 refine⟨rfl,ann196,aB,.raw,(aL (by kernel_rfl)),?_⟩
 ·rw[vc196]
  exact(oC h (fun b_1 h=>(oC h (fun _ h=>(oC h (fun b_3 h=>(oC h (fun b_4 h=>(oC h (fun _ h=>h) fun _ h=>(dR (bnt (bet b_1)) (dR (bnt (bet b_3)) (oC h (fun _ h=>(oC h (fun _ h=>(oG h fun _ h=>(oG h fun _ h=>(oC h (fun _ h=>(oG h fun _ h=>(oG h fun _ h=>⟨(Int.natCast_nonneg 0),(oG h fun _ h=>(oG h fun _ h=>⟨rfl,⟨rfl,(oG h fun _ h=>h)⟩⟩))⟩))) fun _ h=>⟨(Int.natCast_nonneg 0),(oG h fun _ h=>(oG h fun _ h=>⟨rfl,⟨rfl,(oG h fun _ h=>h)⟩⟩))⟩)))) fun _ h=>⟨(Int.natCast_nonneg 0),(oG h fun _ h=>(oG h fun _ h=>⟨rfl,⟨rfl,(oG h fun _ h=>h)⟩⟩))⟩)) fun _ h=>(dR (bnt (bet b_4)) (oC h (fun b_25 h=>(bO b_25 (oC h (fun _ h=>(oG h fun _ h=>(oG h fun _ h=>(oC h (fun _ h=>(oG h fun _ h=>(oG h fun _ h=>⟨(Int.natCast_nonneg 0),(oG h fun _ h=>(oG h fun _ h=>⟨rfl,⟨rfl,(oG h fun _ h=>h)⟩⟩))⟩))) fun _ h=>⟨(Int.natCast_nonneg 0),(oG h fun _ h=>(oG h fun _ h=>⟨rfl,⟨rfl,(oG h fun _ h=>h)⟩⟩))⟩)))) fun _ h=>⟨(Int.natCast_nonneg 0),(oG h fun _ h=>(oG h fun _ h=>⟨rfl,⟨rfl,(oG h fun _ h=>h)⟩⟩))⟩))) fun _ h=>(oC h (fun _ h=>(oC h (fun _ h=>(oG h fun _ h=>(oG h fun _ h=>(oC h (fun _ h=>(oG h fun _ h=>(oG h fun _ h=>⟨(Int.natCast_nonneg 0),(oG h fun _ h=>(oG h fun _ h=>⟨rfl,⟨rfl,(oG h fun _ h=>h)⟩⟩))⟩))) fun _ h=>⟨(Int.natCast_nonneg 0),(oG h fun _ h=>(oG h fun _ h=>⟨rfl,⟨rfl,(oG h fun _ h=>h)⟩⟩))⟩)))) fun _ h=>⟨(Int.natCast_nonneg 0),(oG h fun _ h=>(oG h fun _ h=>⟨rfl,⟨rfl,(oG h fun _ h=>h)⟩⟩))⟩)) fun _ h=>(oC h (fun _ h=>(oC h (fun _ h=>(oG h fun _ h=>(oG h fun _ h=>h))) fun _ h=>h)) fun _ h=>(oC h (fun _ h=>⟨(Int.natCast_nonneg 0),(oG h fun _ h=>(oG h fun _ h=>⟨rfl,⟨rfl,(oG h fun _ h=>h)⟩⟩))⟩) fun _ h=>h)))))))))) fun b_4 h=>(dR (bnt (bet b_1)) (dR (bnt (bet b_3)) (dR (cY (bnf (bef b_4)) (by decide)) (bO (bnf (bef b_4)) (oC h (fun _ h=>(oG h fun _ h=>(oG h fun _ h=>(oG h fun _ h=>(oG h fun _ h=>(oC h (fun _ h=>⟨(Int.natCast_nonneg 0),(oG h fun _ h=>(oG h fun _ h=>⟨rfl,⟨rfl,(oG h fun _ h=>h)⟩⟩))⟩) fun _ h=>⟨(Int.natCast_nonneg 0),(oG h fun _ h=>(oG h fun _ h=>⟨rfl,⟨rfl,(oG h fun _ h=>h)⟩⟩))⟩)))))) fun _ h=>⟨(Int.natCast_nonneg 0),(oG h fun _ h=>(oG h fun _ h=>⟨rfl,⟨rfl,(oG h fun _ h=>h)⟩⟩))⟩))))))) fun b_3 h=>(dR (bnt (bet b_1)) (bO (bnf (bef b_3)) (oC h (fun _ h=>h) fun b_110 h=>⟨(fk (bnf b_110)),⟨(kB (bnf b_110)),⟨(vi h_kinds (HB (t:=aE) trivial) rfl),h⟩⟩⟩))))) fun _ h=>h)) fun b_1 h=>(bO (uet (unt (cY (bnf (bef b_1)) (by decide)))) (bO (uet (unt (cY (bnf (bef b_1)) (by decide)))) (oC h (fun _ h=>h) fun _ h=>(bO (bnf (bef b_1)) ⟨h_p.2.2.1,(oC h (fun _ h=>(oC h (fun _ h=>h) fun _ h=>⟨(vi h_kinds (HB (t:=aE) trivial) rfl),h⟩)) fun _ h=>h)⟩)))))
def c147:Con:=⟨[.dat TCS,.dat TPS],fun args hp K=>g2 (pD TCS) (pD TPS) (fun LJ e=>(Sm TCS LJ)/\(Sm TPS e)/\K (dI (M.bR LJ e)) []) args hp,.plain,false⟩
abbrev C147:Ctx:=cx [(178,c178),(196,c196)] 46 [] 0 false
def ann147:=an [[kp 3],[kp 32771],[kp 16],[kp 35],[kp 99],[kp 227],[kp 8388835],[kp 227],[kp 227],[.keep [5,42]],[kp 16],[kp 16]] [[kp 96]]
abbrev s147_0 (LJ:LC) (e:LPt) (v0:Bool×Int×LI):St:=⟨[(0,.data TCS LJ),(1,.data TPS e),(5,.own 16 none),(6,dB v0.1),(7,dI v0.2.1)],[(16,.arr .sh aE v0.2.2)]⟩
abbrev LP147_0 (LJ:LC) (e:LPt) (m:Nat) (st_:St) (K:KX):Prop:=True/\de (s147_0 LJ e) (F.dy LJ e) (fun v0:Bool×Int×LI=>True) (fun e0:Bool×LI=>True->K (.exit 0) (⟨[(5,.own 16 none),(6,dB e0.1)],[(16,.arr .sh aE e0.2)]⟩:St)) m st_
def L147 (LJ:LC) (e:LPt):bK:=lp1 0 (LP147_0 LJ e)
theorem vc147 (LJ:LC) (e:LPt) (K:KA):vcT C147 (L147 LJ e) ann147 f147 [.data TCS LJ,.data TPS e] [] (.dat aE) K =
 ((Sm TCS LJ)/\cond ((!(M.cm LJ))==false) (cond (decide ((12:Int)<(e.length:Int))) (K (dI (-1:Int)) []) (∃m_,True/\de (s147_0 LJ e) (F.dy LJ e) (fun v0:Bool×Int×LI=>True) (fun e0:Bool×LI=>True->cond ((!e0.1)==false) (cond (!decide ((e0.2.length:Int)=Z1)) (K (dI (-1:Int)) []) ((0<=Z0)/\(Z0<(e0.2.length:Int))/\K (dI (nI e0.2 Z0)) [])) (K (dI (-1:Int)) [])) m_ (s147_0 LJ e (true,Z0,[])))) (K (dI (-1:Int)) [])):=by kernel_rfl
theorem lvc147_0 (LJ:LC) (e:LPt)  (v0:Bool×Int×LI) (m:Nat) (K:KX):lvT C147 (L147 LJ e) ann147 f147 0 0 (s147_0 LJ e v0) m K =
 (cond ((decide (v0.2.1<(e.length:Int)))==true) (cond v0.1 ((0<=v0.2.1)/\(v0.2.1<(e.length:Int))/\(Sm TCS LJ)/\(Sm (Ty.sl aE) v0.2.2)/\(Sm aD (nP e v0.2.1))/\(v0.2.2.length<=1000)/\(LD (M.wY LJ v0.2.2 (nP e v0.2.1)) fun r1=>(nxT (LP147_0 LJ e) m K (s147_0 LJ e (r1.2,wrap64 (v0.2.1+Z1),r1.1))))) (K (.exit 0) (⟨[(5,.own 16 none),(6,dB v0.1)],[(16,.arr .sh aE v0.2.2)]⟩:St))) (K (.exit 0) (⟨[(5,.own 16 none),(6,dB v0.1)],[(16,.arr .sh aE v0.2.2)]⟩:St))):=by kernel_rfl
theorem con147_ok:bt P 147 c147:=bA C147 func147 (kC con178_ok (kC con196_ok kN)) fun args hp K h0=>by
 obtain⟨LJ,e,rfl,rfl,LP,h_e,hK⟩:=g2e h0
 have h:ok (F.oM LJ e) (fun r=>K (dI r) []):=aA (F.wD LJ e LP h_e) hK
 refine⟨rfl,ann147,(L147 LJ e),(.dat aE),(bW (i0:=0) (by kernel_rfl) ?_),?_⟩
 ·rintro _ _ K ⟨hc0,v0,rfl,hv0,h⟩
  exact cast (lvc147_0 _ _ _ _ _).symm (cC h (fun m1 hm0 h=>(oC h (fun _ h=>(oC h (fun _ h=>(oG h fun _ h=>(oG h fun _ h=>⟨LP,(oG h fun _ h=>⟨(aO h_e v0.2.1),(oG h fun _ h=>(oL h fun _ _ h=>(aW (fun _ hm=>⟨hc0,hm⟩) hm0 _ rfl trivial h)))⟩)⟩))) fun _ h=>((cB h :) trivial))) fun _ h=>((cB h :) trivial))))
 ·rw[vc147]
  exact⟨LP,(oC h (fun _ h=>(oC h (fun _ h=>h) fun _ h=>(bJ (fun m hm=>⟨trivial,hm⟩) _ rfl trivial (eR h (fun e0 h hv0=>(oC h (fun _ h=>(oC h (fun _ h=>h) fun _ h=>⟨(Int.natCast_nonneg 0),(oG h fun _ h=>h)⟩)) fun _ h=>h)))))) fun _ h=>h)⟩
def c233:Con:=⟨[.dat ah],fun args hp K=>g1 (pD ah) (fun s=>(Sm ah s)/\K (dB (M.bM s)) []) args hp,.plain,false⟩
abbrev C233:Ctx:=cx [] 68 [] 0 false
def ann233:=an [[.fixRow 1 ah,kp 2],[kp 10],[kp 26],[kp 58],[kp 4]] []
abbrev S233_0 (s:ah.D) (K:KA):Prop:=cond ((decide (s.1=Z3))==false) (K (dB (decide ((s.2.2.2.2.2.1.length:Int)=Z0))) []) (K (dB true) [])
abbrev S233_1 (s:ah.D) (K:KA):Prop:=cond ((decide (s.1=Z4))==false) (cond ((decide ((s.2.2.2.2.1.length:Int)=Z0))==true) (S233_0 s K) (K (dB false) [])) (S233_0 s K)
abbrev S233_2 (s:ah.D) (K:KA):Prop:=cond ((decide (s.1=Z1))==false) (cond ((decide (s.2.2.2.1=Z0))==true) (S233_1 s K) (K (dB false) [])) (S233_1 s K)
abbrev S233_3 (s:ah.D) (K:KA):Prop:=cond ((decide (s.1=Z5))==false) (cond ((decide (s.2.2.1=Z0))==true) (S233_2 s K) (K (dB false) [])) (S233_2 s K)
abbrev S233_4 (s:ah.D) (K:KA):Prop:=cond ((decide (s.1=Z1))==false) (cond ((decide (s.2.2.2.1=Z0))==true) (S233_0 s K) (K (dB false) [])) (S233_0 s K)
abbrev S233_5 (s:ah.D) (K:KA):Prop:=cond ((decide (s.1=Z5))==false) (cond ((decide (s.2.2.1=Z0))==true) (S233_4 s K) (K (dB false) [])) (S233_4 s K)
theorem vc233 (s:ah.D) (K:KA):vcT C233 aB ann233 f233 [.data ah s] [] (.dat Ty.bool) K =
 (cond ((decide (s.1=Z4))==false) (cond ((decide (s.1=Z2))==false) (cond ((!(decide (s.1=Z1)))==false) (cond ((decide (s.2.1=Z0))==true) (S233_3 s K) (K (dB false) [])) (S233_3 s K)) (cond ((!(decide (s.1=Z1)))==false) (cond ((decide (s.2.1=Z0))==true) (S233_5 s K) (K (dB false) [])) (S233_5 s K))) (cond ((decide (s.1=Z2))==false) (cond ((!(decide (s.1=Z1)))==false) (cond ((decide (s.2.1=Z0))==true) (S233_2 s K) (K (dB false) [])) (S233_2 s K)) (cond ((!(decide (s.1=Z1)))==false) (cond ((decide (s.2.1=Z0))==true) (S233_4 s K) (K (dB false) [])) (S233_4 s K)))):=by kernel_rfl
theorem con233_ok:bt P 233 c233:=bA C233 func233 kN fun args hp K h0=>by
 obtain⟨s,rfl,rfl,h_s,hK⟩:=g1e h0
 have h:ok (F.pe s) (fun r=>K (dB r) []):=aA (F.wK s h_s) hK
 refine⟨rfl,ann233,aB,(.dat Ty.bool),(aL (by kernel_rfl)),?_⟩
 ·rw[vc233]
  exact(oC h (fun b_1 h=>(oC h (fun _ h=>(oC h (fun b_3 h=>(oC h (fun _ h=>(bO (ugt (cY (bnf (bgt b_3)) (by decide))) (oC h (fun _ h=>(dR (ugf (bnf (bgt b_3))) (bO (ugt (bgt b_1)) (oC h (fun _ h=>(bO (ugt (cY (bnf (bgt b_3)) (by decide))) h)) fun _ h=>h)))) fun _ h=>h))) fun _ h=>h)) fun b_3 h=>(oC h (fun _ h=>(oC h (fun _ h=>(bO (ugt (bnt (bgf b_3))) (oC h (fun _ h=>(bO (ugt (bgt b_1)) (oC h (fun _ h=>(oC h (fun _ h=>h) fun _ h=>h)) fun _ h=>h))) fun _ h=>h))) fun _ h=>h)) fun b_27 h=>(bO (ugt (bnt (bgf b_3))) (oC h (fun _ h=>(bO (ugt (bgt b_1)) (oC h (fun _ h=>(bO (ugt (cY (bgf b_27) (by decide))) h)) fun _ h=>h))) fun _ h=>h))))) fun b_2 h=>(dR (ugf (unt (cY (bgf b_2) (by decide)))) (bO (ugt (cY (bgf b_2) (by decide))) (oC h (fun _ h=>(bO (ugt (cY (bgf b_2) (by decide))) (oC h (fun _ h=>(bO (ugt (cY (bgf b_2) (by decide))) h)) fun _ h=>h))) fun _ h=>h))))) fun b_1 h=>(bO (ugt (cY (bgf b_1) (by decide))) (dR (ugf (unt (cY (bgf b_1) (by decide)))) (bO (ugt (cY (bgf b_1) (by decide))) (oC h (fun _ h=>(dR (ugf (bgf b_1)) (bO (ugt (cY (bgf b_1) (by decide))) h))) fun _ h=>h)))))
def c204:Con:=⟨[.dat TTb,.lent TCS,.dat ah],fun args hp K=>g3 (pD TTb) (pB TCS) (pD ah) (fun LK LN s=>(Sm TTb LK)/\(Sm (Ty.sl TCS) LN)/\(Sm ah s)/\(LD (M.ga LK LN s) fun r=>K (.tup [.data TCS r.1,dB r.2]) [])) args hp,.plain,false⟩
abbrev C204:Ctx:=cx [(143,c143),(147,c147),(233,c233)] 185 [] 0 false
def ann204:=an [[.fixRow 5 ah,kp 35],[kp 32803],[kp 192],[kp 524323],[kp 67108897],[kp 192],[kp 192],[.keep [1,5,51]],[kp 192],[kp 290],[.keep [1,5,8,61]],[kp 6917529027641082146],[kp 192],[.keep [1,5,8,61,70]],[kp 800],[kp 1824],[.keep [5,8,9,10,77]],[kp 1824],[.keep [5,8,9,10,89]],[kp 192],[kp 1824],[kp 192],[.keep [1,5,8,61,106]],[kp 2080],[kp 192],[.keep [1,5,8,61,126]],[.keep [1,5,8,136]],[kp 192],[kp 4386],[.keep [1,5,8,12,141]],[kp 4386],[.keep [1,5,8,12,158]],[kp 192],[kp 4386],[kp 192],[.keep [8,181]],[kp 192],[kp 192]] [[],[kp 512],[],[kp 256]]
abbrev s204_1 (LK:LTb) (LN:(List LC)) (s:ah.D) (i1:Int) (v1:LC):St:=⟨[(5,.adr ah s),(8,.own 53 none),(9,.own 72 none),(10,dI i1)],[(53,.arr .sh ag ([]++(@nth TCS LN s.2.1))),(72,.arr .sh ag v1)]⟩
abbrev LP204_1 (LK:LTb) (LN:(List LC)) (s:ah.D) (m:Nat) (st_:St) (K:KX):Prop:=True/\cw (t:=aE) (s204_1 LK LN s) s.2.2.2.2.2.1 (F.gW LK LN s) (fun v1:LC=>True) (bz (fun v1:LC=>True->K (.exit 1) (⟨[(9,.own 72 none)],[(72,.arr .sh ag v1)]⟩:St)) (fun q1:Unit=>K .ret (⟨[(6,.own 90 none),(7,dB false)],[(90,.arr .sh ag [])]⟩:St))) m st_
abbrev s204_3 (LK:LTb) (LN:(List LC)) (s:ah.D) (v3:Int×LC):St:=⟨[(1,.brw TCS LN),(5,.adr ah s),(8,.own 53 none),(12,dI v3.1)],[(53,.arr .sh ag v3.2)]⟩
abbrev LP204_3 (LK:LTb) (LN:(List LC)) (s:ah.D) (m:Nat) (st_:St) (K:KX):Prop:=True/\de (s204_3 LK LN s) (F.eO LK LN s) (fun v3:Int×LC=>True) (bz (fun e3:LC=>True->K (.exit 3) (⟨[(8,.own 53 none)],[(53,.arr .sh ag e3)]⟩:St)) (fun q3:Unit=>K .ret (⟨[(6,.own 159 none),(7,dB false)],[(159,.arr .sh ag [])]⟩:St))) m st_
def L204 (LK:LTb) (LN:(List LC)) (s:ah.D):bK:=lp2 1 (LP204_1 LK LN s) 3 (LP204_3 LK LN s)
theorem vc204 (LK:LTb) (LN:(List LC)) (s:ah.D) (K:KA):vcT C204 (L204 LK LN s) ann204 f204 [.data TTb LK,.brw TCS LN,.data ah s] [] (.tup [TCS,Ty.bool]) K =
 ((Sm ah s)/\cond (!(M.bM s)) (K (.tup [.data TCS [],dB false]) []) (cond (decide (s.1=Z1)) (cond (!(M.inR s.2.2.2.1 Z0 (wrap64 ((LK.length:Int)-Z1)))) (K (.tup [.data TCS [],dB false]) []) ((0<=s.2.2.2.1)/\(s.2.2.2.1<(LK.length:Int))/\((([]:List ag.D).length+(nT LK s.2.2.2.1).1.length) * 16<=lim)/\K (.tup [.data TCS ([]++(nT LK s.2.2.2.1).1),dB true]) [])) (cond ((!(M.inR s.2.1 Z0 (wrap64 ((LN.length:Int)-Z1))))==false) (cond (!(M.inR s.2.2.1 Z0 (wrap64 ((LN.length:Int)-Z1)))) (K (.tup [.data TCS [],dB false]) []) ((0<=s.2.1)/\(s.2.1<(LN.length:Int))/\((([]:List ag.D).length+(@nth TCS LN s.2.1).length) * 16<=lim)/\cond (decide (s.1=Z2)) ((Sm TCS ([]++(@nth TCS LN s.2.1)))/\(Sm TPS s.2.2.2.2.1)/\K (.tup [.data TCS ([]++(@nth TCS LN s.2.1)),dB (decide ((M.bR ([]++(@nth TCS LN s.2.1)) s.2.2.2.2.1)=Z3))]) []) (cond (decide (s.1=Z3)) (∃m_,True/\cw (t:=aE) (s204_1 LK LN s) s.2.2.2.2.2.1 (F.gW LK LN s) (fun v1:LC=>True) (bz (fun v1:LC=>True->K (.tup [.data TCS v1,dB (decide ((v1.length:Int)<=Z4))]) []) (fun q1:Unit=>K (.tup [.data TCS [],dB false]) [])) m_ (s204_1 LK LN s Z0 [])) (cond (decide (s.1=Z4)) ((0<=s.2.2.1)/\(s.2.2.1<(LN.length:Int))/\((([]++(@nth TCS LN s.2.1)).length+(@nth TCS LN s.2.2.1).length) * 16<=lim)/\cond ((decide (((([]++(@nth TCS LN s.2.1))++(@nth TCS LN s.2.2.1)).length:Int)<=Z4))==true) ((Sm TCS (([]++(@nth TCS LN s.2.1))++(@nth TCS LN s.2.2.1)))/\(Sm TPS s.2.2.2.2.1)/\K (.tup [.data TCS (([]++(@nth TCS LN s.2.1))++(@nth TCS LN s.2.2.1)),dB (decide ((M.bR (([]++(@nth TCS LN s.2.1))++(@nth TCS LN s.2.2.1)) s.2.2.2.2.1)=Z3))]) []) (K (.tup [.data TCS (([]++(@nth TCS LN s.2.1))++(@nth TCS LN s.2.2.1)),dB false]) [])) (cond (decide (s.1=Z5)) ((0<=s.2.2.1)/\(s.2.2.1<(LN.length:Int))/\cond (!decide ((([]++(@nth TCS LN s.2.1)).length:Int)=((@nth TCS LN s.2.2.1).length:Int))) (K (.tup [.data TCS [],dB false]) []) (∃m_,True/\de (s204_3 LK LN s) (F.eO LK LN s) (fun v3:Int×LC=>True) (bz (fun e3:LC=>True->K (.tup [.data TCS e3,dB true]) []) (fun q3:Unit=>K (.tup [.data TCS [],dB false]) [])) m_ (s204_3 LK LN s (Z0,([]++(@nth TCS LN s.2.1)))))) (cond (decide (s.1=Z6)) (K (.tup [.data TCS ([]++(@nth TCS LN s.2.1)),dB true]) []) (K (.tup [.data TCS [],dB false]) []))))))) (K (.tup [.data TCS [],dB false]) [])))):=by kernel_rfl
theorem lvc204_0 (LK:LTb) (LN:(List LC)) (s:ah.D)  (i1:Int) (v1:LC) (m:Nat) (K:KX):lvT C204 (L204 LK LN s) ann204 f204 0 1 (s204_1 LK LN s i1 v1) m K =
 (cond (decide (i1<(s.2.2.2.2.2.1.length:Int))) ((0<=i1)/\(i1<(s.2.2.2.2.2.1.length:Int))/\cond (!(M.inR (nI s.2.2.2.2.2.1 i1) Z0 (wrap64 ((([]++(@nth TCS LN s.2.1)).length:Int)-Z1)))) (K .ret (⟨[(6,.own 90 none),(7,dB false)],[(90,.arr .sh ag [])]⟩:St)) ((0<=i1)/\(i1<(s.2.2.2.2.2.1.length:Int))/\(0<=(nI s.2.2.2.2.2.1 i1))/\((nI s.2.2.2.2.2.1 i1)<(([]++(@nth TCS LN s.2.1)).length:Int))/\((v1.length+([(nC ([]++(@nth TCS LN s.2.1)) (nI s.2.2.2.2.2.1 i1))]:List ag.D).length) * 16<=lim)/\(nxT (LP204_1 LK LN s) m K (s204_1 LK LN s (wrap64 (i1+Z1)) (v1++[(nC ([]++(@nth TCS LN s.2.1)) (nI s.2.2.2.2.2.1 i1))]))))) (K (.exit 1) (⟨[(9,.own 72 none)],[(72,.arr .sh ag v1)]⟩:St))):=by kernel_rfl
theorem lvc204_1 (LK:LTb) (LN:(List LC)) (s:ah.D)  (v3:Int×LC) (m:Nat) (K:KX):lvT C204 (L204 LK LN s) ann204 f204 1 3 (s204_3 LK LN s v3) m K =
 (cond (decide (v3.1<(v3.2.length:Int))) ((0<=v3.1)/\(v3.1<(v3.2.length:Int))/\(0<=s.2.2.1)/\(s.2.2.1<(LN.length:Int))/\(0<=v3.1)/\(v3.1<((@nth TCS LN s.2.2.1).length:Int))/\cond (!decide ((nC v3.2 v3.1).1=(nC (@nth TCS LN s.2.2.1) v3.1).1)) (K .ret (⟨[(6,.own 159 none),(7,dB false)],[(159,.arr .sh ag [])]⟩:St)) ((0<=v3.1)/\(v3.1<(v3.2.length:Int))/\cond ((nC v3.2 v3.1).2.1==false) ((0<=s.2.2.1)/\(s.2.2.1<(LN.length:Int))/\(0<=v3.1)/\(v3.1<((@nth TCS LN s.2.2.1).length:Int))/\(0<=v3.1)/\(v3.1<(v3.2.length:Int))/\(let y1:LC:=(v3.2.set v3.1.toNat ((nC v3.2 v3.1).1,(nC (@nth TCS LN s.2.2.1) v3.1).2));(nxT (LP204_3 LK LN s) m K (s204_3 LK LN s (wrap64 (v3.1+Z1),y1))))) ((0<=v3.1)/\(v3.1<(v3.2.length:Int))/\(nxT (LP204_3 LK LN s) m K (s204_3 LK LN s (wrap64 (v3.1+Z1),(v3.2.set v3.1.toNat ((nC v3.2 v3.1).1,(true,()))))))))) (K (.exit 3) (⟨[(8,.own 53 none)],[(53,.arr .sh ag v3.2)]⟩:St))):=by kernel_rfl
theorem con204_ok:bt P 204 c204:=bA C204 func204 (kC con143_ok (kC con147_ok (kC con233_ok kN))) fun args hp K h0=>by
 obtain⟨LK,LN,s,rfl,rfl,LO,h_ahead,h_s,hK⟩:=g3e h0
 have h:ok (F.iz LK LN s) (fun r=>K (.tup [.data TCS r.1,dB r.2]) []):=aA (F.uR LK LN s LO h_ahead h_s) (hK _ rfl)
 refine⟨rfl,ann204,(L204 LK LN s),(.tup [TCS,Ty.bool]),(qa (i0:=1) (i1:=3) (by kernel_rfl) ?_ ?_),?_⟩
 ·rintro _ _ K ⟨hc1,i1,v1,rfl,hl1,rfl,hv1,h⟩
  exact cast (lvc204_0 _ _ _ _ _ _ _).symm (bD (t:=aE) hl1 h (fun ht1 h=>⟨hl1,⟨ht1,(oC h (fun _ h=>h) fun b_22 h=>⟨hl1,⟨ht1,⟨(fk (bnf b_22)),⟨(kB (bnf b_22)),(oG h fun _ h=>(br (t:=aE) (fun _ hm=>⟨hc1,hm⟩) _ rfl hl1 ht1 (bC h_s.2.2.2.2.2.1) trivial h))⟩⟩⟩⟩)⟩⟩) fun h=>(h trivial))
 ·rintro _ _ K ⟨hc3,v3,rfl,hv3,h⟩
  exact cast (lvc204_1 _ _ _ _ _ _).symm (cC h (fun m1 hm3 h=>(oC h (fun _ h=>(oG h fun g1 h=>(oG h fun g2 h=>(oG h fun g3 h=>(oG h fun g4 h=>⟨g1,(oG h fun g5 h=>(oC h (fun _ h=>h) fun _ h=>⟨g1,⟨g2,(oC h (fun _ h=>⟨g3,⟨g4,⟨g1,⟨g5,⟨g1,⟨g2,(have h:=cI h _ rfl;(aW (fun _ hm=>⟨hc3,hm⟩) hm3 _ rfl trivial h))⟩⟩⟩⟩⟩⟩) fun _ h=>⟨g1,⟨g2,(aW (fun _ hm=>⟨hc3,hm⟩) hm3 _ rfl trivial h)⟩⟩)⟩⟩))⟩))))) fun _ h=>((cB h :) trivial))))
 ·rw[vc204]
  exact⟨h_s,(oC h (fun _ h=>h) fun _ h=>(oC h (fun _ h=>(oC h (fun _ h=>h) fun b_3 h=>⟨(fk (bnf b_3)),⟨(kB (bnf b_3)),⟨(vi (kJ ag) (aO LO s.2.2.2.1).1 rfl),h⟩⟩⟩)) fun _ h=>(oC h (fun b_4 h=>(oC h (fun _ h=>h) fun b_5 h=>⟨(fk (bnf (bgt b_4))),⟨(kB (bnf (bgt b_4))),⟨(vi (kJ ag) (aO h_ahead s.2.1) rfl),(oC h (fun _ h=>(oG h fun _ h=>⟨h_s.2.2.2.2.1,h⟩)) fun _ h=>(oC h (fun _ h=>(bu (t:=aE) (fun m hm=>⟨trivial,hm⟩) _ rfl trivial (bn h (fun v1 h hv1=>h) (fun q1 h=>h)))) fun _ h=>(oC h (fun _ h=>⟨(fk (bnf b_5)),⟨(kB (bnf b_5)),(oG h fun _ h=>(oC h (fun _ h=>(oG h fun _ h=>⟨h_s.2.2.2.2.1,h⟩)) fun _ h=>h))⟩⟩) fun _ h=>(oC h (fun _ h=>⟨(fk (bnf b_5)),⟨(kB (bnf b_5)),(oC h (fun _ h=>h) fun _ h=>(bJ (fun m hm=>⟨trivial,hm⟩) _ rfl trivial (bn h (fun e3 h hv3=>h) (fun q3 h=>h))))⟩⟩) fun _ h=>(oC h (fun _ h=>h) fun _ h=>h)))))⟩⟩⟩)) fun _ h=>h)))⟩
def c232:Con:=⟨[.lent aE,.dat ah],fun args hp K=>g2 (pB aE) (pD ah) (fun LN s=>(Sm (Ty.sl aE) LN)/\(Sm ah s)/\(M.pg (LN.length:Int) s)/\K (dI (M.aN LN s)) []) args hp,.plain,false⟩
abbrev C232:Ctx:=cx [] 40 [] 0 false
def ann232:=an [[.fixRow 3 ah,kp 9],[kp 73],[kp 201],[kp 16],[kp 585],[kp 16],[kp 4194313],[kp 16],[kp 16]] []
theorem vc232 (LN:LI) (s:ah.D) (K:KA):vcT C232 aB ann232 f232 [.brw aE LN,.data ah s] [] (.dat aE) K =
 (cond (decide (s.1=Z1)) (K (dI Z6) []) (cond (decide (s.1=Z4)) ((0<=s.2.1)/\(s.2.1<(LN.length:Int))/\(0<=s.2.2.1)/\(s.2.2.1<(LN.length:Int))/\K (dI (wrap64 ((nI LN s.2.1) * (nI LN s.2.2.1)))) []) (cond (decide (s.1=Z5)) ((0<=s.2.1)/\(s.2.1<(LN.length:Int))/\(0<=s.2.2.1)/\(s.2.2.1<(LN.length:Int))/\K (dI (wrap64 ((nI LN s.2.1)+(nI LN s.2.2.1)))) []) ((0<=s.2.1)/\(s.2.1<(LN.length:Int))/\K (dI (nI LN s.2.1)) [])))):=by kernel_rfl
theorem con232_ok:bt P 232 c232:=bA C232 func232 kN fun args hp K h0=>by
 obtain⟨LN,s,rfl,rfl,h_ahead,h_s,p0,hK⟩:=g2e h0
 have h:ok (F.rL LN s) (fun r=>K (dI r) []):=aA (F.zh LN s h_ahead h_s p0) hK
 refine⟨rfl,ann232,aB,(.dat aE),(aL (by kernel_rfl)),?_⟩
 ·rw[vc232]
  exact(oC h (fun _ h=>h) fun _ h=>(oC h (fun _ h=>(oG h fun _ h=>(oG h fun _ h=>(oG h fun _ h=>(oG h fun _ h=>h))))) fun _ h=>(oC h (fun _ h=>(oG h fun _ h=>(oG h fun _ h=>(oG h fun _ h=>(oG h fun _ h=>h))))) fun _ h=>(oG h fun _ h=>(oG h fun _ h=>h)))))
def c203:Con:=⟨[.dat TTb,.lent ah],fun args hp K=>g2 (pD TTb) (pB ah) (fun LK plan=>(Sm TTb LK)/\(Sm TSS plan)/\(LD (M.dM LK plan) fun r=>K (.tup [.data (Ty.sl TCS) r.1,dB r.2]) [])) args hp,.plain,false⟩
abbrev C203:Ctx:=cx [(204,c204),(232,c232)] 52 [] 0 false
def ann203:=an [[kp 3],[kp 67],[kp 195],[kp 451],[kp 65987],[kp 451],[kp 1987],[kp 1073742787],[.freeze 31,kp 48],[kp 451],[kp 451],[kp 562949953421763],[.freeze 50,kp 48],[kp 48]] [[kp 64]]
abbrev s203_0 (LK:LTb) (plan:LS) (i0:Int) (v0:(List LC)×LI):St:=⟨[(0,.data TTb LK),(1,.brw ah plan),(6,.own 11 none),(7,.own 12 none),(8,dI i0)],[(11,.arr .sh TCS v0.1),(12,.arr .sh aE v0.2)]⟩
abbrev LP203_0 (LK:LTb) (plan:LS) (m:Nat) (st_:St) (K:KX):Prop:=True/\dc (s203_0 LK plan) Z0 (plan.length:Int) (F.ji LK plan) (fun v0:(List LC)×LI=>True) (bz (fun v0:(List LC)×LI=>True->K (.exit 0) (⟨[(6,.own 11 none)],[(11,.arr .sh TCS v0.1)]⟩:St)) (fun q0:Unit=>K .ret (⟨[(4,.data (Ty.sl TCS) []),(5,dB false)],[]⟩:St))) m st_
def L203 (LK:LTb) (plan:LS):bK:=lp1 0 (LP203_0 LK plan)
theorem vc203 (LK:LTb) (plan:LS) (K:KA):vcT C203 (L203 LK plan) ann203 f203 [.data TTb LK,.brw ah plan] [] (.tup [(Ty.sl TCS),Ty.bool]) K =
 (∃m_,True/\dc (s203_0 LK plan) Z0 (plan.length:Int) (F.ji LK plan) (fun v0:(List LC)×LI=>True) (bz (fun v0:(List LC)×LI=>True->K (.tup [.data (Ty.sl TCS) v0.1,dB true]) []) (fun q0:Unit=>K (.tup [.data (Ty.sl TCS) [],dB false]) [])) m_ (s203_0 LK plan Z0 ([],[]))):=by kernel_rfl
theorem lvc203_0 (LK:LTb) (plan:LS)  (i0:Int) (v0:(List LC)×LI) (m:Nat) (K:KX):lvT C203 (L203 LK plan) ann203 f203 0 0 (s203_0 LK plan i0 v0) m K =
 (cond (decide (i0<(plan.length:Int))) ((0<=i0)/\(i0<(plan.length:Int))/\(Sm TTb LK)/\(Sm (Ty.sl TCS) v0.1)/\(Sm ah (nS plan i0))/\(LD (M.ga LK v0.1 (nS plan i0)) fun r1=>cond (!r1.2) (K .ret (⟨[(4,.data (Ty.sl TCS) []),(5,dB false)],[]⟩:St)) (((v0.1.length+[r1.1].length) * 24<=lim)/\(0<=i0)/\(i0<(plan.length:Int))/\(Sm (Ty.sl aE) v0.2)/\(Sm ah (nS plan i0))/\(M.pg (v0.2.length:Int) (nS plan i0))/\((v0.2.length+[(M.aN v0.2 (nS plan i0))].length) * 8<=lim)/\(0<=i0)/\(i0<((v0.2++[(M.aN v0.2 (nS plan i0))]).length:Int))/\cond (decide ((300:Int)<(nI (v0.2++[(M.aN v0.2 (nS plan i0))]) i0))) (K .ret (⟨[(4,.data (Ty.sl TCS) []),(5,dB false)],[]⟩:St)) (nxT (LP203_0 LK plan) m K (s203_0 LK plan (wrap64 (i0+Z1)) ((v0.1++[r1.1]),(v0.2++[(M.aN v0.2 (nS plan i0))]))))))) (K (.exit 0) (⟨[(6,.own 11 none)],[(11,.arr .sh TCS v0.1)]⟩:St))):=by kernel_rfl
theorem con203_ok:bt P 203 c203:=bA C203 func203 (kC con204_ok (kC con232_ok kN)) fun args hp K h0=>by
 obtain⟨LK,plan,rfl,rfl,LO,LQ,hK⟩:=g2e h0
 have h:ok (F.uf LK plan) (fun r=>K (.tup [.data (Ty.sl TCS) r.1,dB r.2]) []):=aA (F.Bp LK plan LO LQ) (hK _ rfl)
 refine⟨rfl,ann203,(L203 LK plan),(.tup [(Ty.sl TCS),Ty.bool]),(bW (i0:=0) (by kernel_rfl) ?_),?_⟩
 ·rintro _ _ K ⟨hc0,i0,v0,rfl,hl0,rfl,hv0,h⟩
  exact cast (lvc203_0 _ _ _ _ _ _).symm (ct h (fun ht0 h=>⟨hl0,⟨ht0,⟨LO,(oG h fun _ h=>⟨(aO LQ i0),(oL h fun _ _ h=>(oC h (fun _ h=>h) fun _ h=>(oG h fun _ h=>⟨hl0,⟨ht0,(oG h fun _ h=>⟨(aO LQ i0),(oG h fun _ h=>(oG h fun _ h=>⟨hl0,(oG h fun _ h=>(oC h (fun _ h=>h) fun _ h=>(aV (fun _ hm=>⟨hc0,hm⟩) _ rfl hl0 iR ht0 (bC LQ) trivial h)))⟩))⟩)⟩⟩)))⟩)⟩⟩⟩) fun h=>(h trivial))
 ·rw[vc203]
  exact(bT (fun m hm=>⟨trivial,hm⟩) Z0 _ rfl (Int.natCast_nonneg 0) trivial (bn h (fun v0 h hv0=>h) (fun q0 h=>h)))
def c159:Con:=⟨[.any,.dat TTb],fun args hp K=>hpR (fun b p=>args2 (fun a0 a1=>mc a0 (dA TTb a1 fun LK=>(Sm TBy b)/\(Sm TTb LK)/\(M.ay b)/\(0<=p)/\(p<=995000000000000)/\(∀t∈LK,M.iY t)/\(LD (M.kR b p LK) fun r=>K (.own 0 none) [(0,.arr .sh ah r.1),(1000000,.box [.data TBy b,dI r.2])]))) args []) hp,.plain,true⟩
abbrev C159:Ctx:=cx [(67,c67),(160,c160),(203,c203),(204,c204)] 165 [] 0 true
def ann159:=an [[kp 3],[.weak 26,kp 35],[kp 99],[kp 1073741923],[kp 99],[kp 483],[kp 1099511628003],[kp 16],[kp 739],[kp 1763],[kp 2251799813687011],[kp 1763],[kp 3811],[kp 288230376151715555],[kp 864691128455139043],[kp 2147],[kp 590584040734857367267],[kp 3299],[.mineC .sh 11 5 800181 aE,kp 7395],[kp 19342813113834066795306211],[kp 7395],[kp 7395],[kp 633825300114402931124503318243],[kp 633825300114402931124503318243],[kp 11491],[kp 27747],[kp 332306998946228968225951765070113891],[kp 2147],[kp 42535295865117307933210056305122741987],[.mineC .sh 11 4 800180 aD,.freeze 800180,.mineC .sh 11 5 800182 aE,.freeze 800182,kp 36579],[.keep [0,1,5,6,7,9,10,11,15,129]],[kp 36579],[.fixRow 16 ah,kp 102115],[kp 364259],[.keep [0,1,5,6,7,9,10,11,15,16,142]],[kp 36579],[.keep [0,1,5,6,10,11,144]],[kp 2147],[kp 1050723],[.keep [0,1,5,6,11,159]],[kp 99],[kp 16]] [[kp 32],[],[.freeze 67,.freeze 123,.freeze 800181,.mineC .sh 11 4 800180 aD,.freeze 800180,.mineC .sh 11 5 800182 aE,.freeze 800182,kp 2147],[kp 2147],[],[kp 2147]]
abbrev s159_0 (b:LI) (p:Int) (LK:LTb) (v0:Int×Int×LS):St:=⟨[(0,.ptr 1000000 0),(1,.data TTb LK),(5,.own 26 none),(6,dI v0.1)],[(1000000,.box [.data TBy b,dI v0.2.1]),(26,.arr .sh ah v0.2.2)]⟩
abbrev LP159_0 (b:LI) (p:Int) (LK:LTb) (m:Nat) (st_:St) (K:KX):Prop:=True/\de (s159_0 b p LK) (F.jq b p LK) (fun v0:Int×Int×LS=>True) (bz (fun e0:Int×LS=>True->K (.exit 0) (⟨[(5,.own 26 none)],[(1000000,.box [.data TBy b,dI e0.1]),(26,.arr .sh ah e0.2)]⟩:St)) (fun q0:Int×LS=>K .ret (⟨[(4,.own 26 none)],[(1000000,.box [.data TBy b,dI q0.1]),(26,.arr .sh ah q0.2)]⟩:St))) m st_
abbrev s159_2 (b:LI) (p:Int) (LK:LTb) (c2_0:Int) (c2_1:(List LC)) (c2_2:Int) (c2_3:Int) (c2_4:Int) (c2_5:Int) (c2_6:LS) (c2_7:Int) (v2:Unit):St:=⟨[(0,.ptr 1000000 0),(1,.data TTb LK),(5,.own 26 none),(6,dI c2_0),(7,.data (Ty.sl TCS) c2_1),(9,dI c2_2),(10,dI c2_3),(11,.ptr 11 0),(58,dI c2_4)],[(1000000,.box [.data TBy b,dI c2_5]),(26,.arr .sh ah c2_6),(11,.box [dI Z1,dI Z0,dI Z0,dI c2_7,.cst (.slice none 0 0),.cst (.slice none 0 0)])]⟩
abbrev LP159_2 (b:LI) (p:Int) (LK:LTb) (m:Nat) (st_:St) (K:KX):Prop:=∃c2_0:Int,∃c2_1:(List LC),∃c2_2:Int,∃c2_3:Int,∃c2_4:Int,∃c2_5:Int,∃c2_6:LS,∃c2_7:Int,True/\de (s159_2 b p LK c2_0 c2_1 c2_2 c2_3 c2_4 c2_5 c2_6 c2_7) (F.eU b p LK c2_0 c2_1 c2_2 c2_3 c2_4 c2_5 c2_6 c2_7) (fun v2:Unit=>True) (fun e2:Int×Int×Int×Int×Int×LPt×LI=>True->K (.exit 2) (⟨[(0,.ptr 1000000 0),(1,.data TTb LK),(5,.own 26 none),(6,dI c2_0),(11,.ptr 11 0)],[(1000000,.box [.data TBy b,dI e2.1]),(26,.arr .sh ah c2_6),(11,.box [dI e2.2.1,dI e2.2.2.1,dI e2.2.2.2.1,dI e2.2.2.2.2.1,.data TPS e2.2.2.2.2.2.1,.data (Ty.sl aE) e2.2.2.2.2.2.2])]⟩:St)) m st_
abbrev s159_3 (b:LI) (p:Int) (LK:LTb) (c3_0:Int) (c3_1:(List LC)) (c3_2:Int) (c3_3:LS) (c3_4:Int) (v3:Int×Int×LI):St:=⟨[(0,.ptr 1000000 0),(1,.data TTb LK),(5,.own 26 none),(6,dI c3_0),(7,.data (Ty.sl TCS) c3_1),(10,dI c3_2),(11,.ptr 11 0),(12,dI v3.1)],[(1000000,.box [.data TBy b,dI v3.2.1]),(26,.arr .sh ah c3_3),(11,.box [dI Z3,dI c3_4,dI Z0,dI Z0,.cst (.slice none 0 0),.own 800181 none]),(800181,.arr .sh aE v3.2.2)]⟩
abbrev LP159_3 (b:LI) (p:Int) (LK:LTb) (m:Nat) (st_:St) (K:KX):Prop:=∃c3_0:Int,∃c3_1:(List LC),∃c3_2:Int,∃c3_3:LS,∃c3_4:Int,True/\de (s159_3 b p LK c3_0 c3_1 c3_2 c3_3 c3_4) (F.gA b p LK c3_0 c3_1 c3_2 c3_3 c3_4) (fun v3:Int×Int×LI=>True) (fun e3:Int×LI=>True->K (.exit 3) (⟨[(0,.ptr 1000000 0),(1,.data TTb LK),(5,.own 26 none),(6,dI c3_0),(11,.ptr 11 0)],[(1000000,.box [.data TBy b,dI e3.1]),(26,.arr .sh ah c3_3),(11,.box [dI Z3,dI c3_4,dI Z0,dI Z0,.cst (.slice none 0 0),.own 800181 none]),(800181,.arr .sh aE e3.2)]⟩:St)) m st_
abbrev s159_5 (b:LI) (p:Int) (LK:LTb) (c5_0:Int) (c5_1:(List LC)) (c5_2:Int) (c5_3:Int) (c5_4:Int) (c5_5:LS) (i5:Int) (v5:Int×Int×Int×Int):St:=⟨[(0,.ptr 1000000 0),(1,.data TTb LK),(5,.own 26 none),(6,dI c5_0),(7,.data (Ty.sl TCS) c5_1),(9,dI c5_2),(10,dI c5_3),(11,.ptr 11 0),(15,dI i5)],[(1000000,.box [.data TBy b,dI c5_4]),(26,.arr .sh ah c5_5),(11,.box [dI v5.1,dI v5.2.1,dI v5.2.2.1,dI v5.2.2.2,.data TPS [],.data (Ty.sl aE) []])]⟩
abbrev LP159_5 (b:LI) (p:Int) (LK:LTb) (m:Nat) (st_:St) (K:KX):Prop:=∃c5_0:Int,∃c5_1:(List LC),∃c5_2:Int,∃c5_3:Int,∃c5_4:Int,∃c5_5:LS,(c5_2<=eS/\True)/\dc (s159_5 b p LK c5_0 c5_1 c5_2 c5_3 c5_4 c5_5) Z0 c5_2 (F.gE b p LK c5_0 c5_1 c5_2 c5_3 c5_4 c5_5) (fun v5:Int×Int×Int×Int=>True) (bz (fun v5:Int×Int×Int×Int=>True->K (.exit 5) (⟨[(0,.ptr 1000000 0),(1,.data TTb LK),(5,.own 26 none),(6,dI c5_0),(11,.ptr 11 0)],[(1000000,.box [.data TBy b,dI c5_4]),(26,.arr .sh ah c5_5),(11,.box [dI v5.1,dI v5.2.1,dI v5.2.2.1,dI v5.2.2.2,.data TPS [],.data (Ty.sl aE) []])]⟩:St)) (fun _=>False)) m st_
def L159 (b:LI) (p:Int) (LK:LTb):bK:=fun id m st_ K=>match id with
 | 0=>LP159_0 b p LK m st_ K
 | 2=>LP159_2 b p LK m st_ K
 | 3=>LP159_3 b p LK m st_ K
 | 5=>LP159_5 b p LK m st_ K
 | _=>False
theorem vc159 (b:LI) (p:Int) (LK:LTb) (K:KA):vcT C159 (L159 b p LK) ann159 (qY [(1000002,true)] f159) [.ptr 1000000 0,.data TTb LK] [(1000000,.box [.data TBy b,dI p])] .raw K =
 ((Sm TBy b)/\(M.ay b)/\(0<=p)/\(p<=1000000000000000)/\(LD (M.pick b p (LK.length:Int)) fun r1=>(Sm TBy b)/\(M.ay b)/\(0<=r1.2)/\(r1.2<=1000000000000000)/\(LD (M.pick b r1.2 Z6) fun r2=>(∃m_,True/\de (s159_0 b p LK) (F.jq b p LK) (fun v0:Int×Int×LS=>True) (bz (fun e0:Int×LS=>True->K (.own 0 none) [(0,.arr .sh ah e0.2),(1000000,.box [.data TBy b,dI e0.1])]) (fun q0:Int×LS=>K (.own 0 none) [(0,.arr .sh ah q0.2),(1000000,.box [.data TBy b,dI q0.1])])) m_ (s159_0 b p LK (r2.1,r2.2,[(Z1,(Z0,(Z0,(r1.1,([],([],()))))))])))))):=by kernel_rfl
theorem lvc159_0 (b:LI) (p:Int) (LK:LTb)  (v0:Int×Int×LS) (m:Nat) (K:KX):lvT C159 (L159 b p LK) ann159 (qY [(1000002,true)] f159) 0 0 (s159_0 b p LK v0) m K =
 (cond (decide (Z0<v0.1)) ((Sm TTb LK)/\(Sm TSS v0.2.2)/\(LD (M.dM LK v0.2.2) fun r3=>cond (!r3.2) (K .ret (⟨[(4,.own 26 none)],[(1000000,.box [.data TBy b,dI v0.2.1]),(26,.arr .sh ah v0.2.2)]⟩:St)) ((Sm TBy b)/\(M.ay b)/\(0<=v0.2.1)/\(v0.2.1<=1000000000000000)/\(LD (M.pick b v0.2.1 Z5) fun r4=>(Z4≠0)/\cond (decide (wrap64 (wrap64 ((v0.2.2.length:Int)-Z1)-(wrap64 (r4.1.tdiv Z4)))<Z0)) ((Sm TBy b)/\(M.ay b)/\(0<=r4.2)/\(r4.2<=1000000000000000)/\(LD (M.pick b r4.2 (LK.length:Int)) fun r5=>(Sm TBy b)/\(M.ay b)/\(0<=r5.2)/\(r5.2<=1000000000000000)/\(LD (M.pick b r5.2 (7:Int)) fun r6=>(∃m_,∃c2_0:Int,∃c2_1:(List LC),∃c2_2:Int,∃c2_3:Int,∃c2_4:Int,∃c2_5:Int,∃c2_6:LS,∃c2_7:Int,True/\de (s159_2 b p LK c2_0 c2_1 c2_2 c2_3 c2_4 c2_5 c2_6 c2_7) (F.eU b p LK c2_0 c2_1 c2_2 c2_3 c2_4 c2_5 c2_6 c2_7) (fun v2:Unit=>True) (fun e2:Int×Int×Int×Int×Int×LPt×LI=>True->Q3 (((([]:List ah.D).length+c2_6.length) * 80<=lim)/\((([]++c2_6).length+[(e2.2.1,(e2.2.2.1,(e2.2.2.2.1,(e2.2.2.2.2.1,(e2.2.2.2.2.2.1,(e2.2.2.2.2.2.2,()))))))].length) * 80<=lim)/\(Sm TTb LK)/\(Sm TSS (([]++c2_6)++[(e2.2.1,(e2.2.2.1,(e2.2.2.2.1,(e2.2.2.2.2.1,(e2.2.2.2.2.2.1,(e2.2.2.2.2.2.2,()))))))]))/\(LD (M.dM LK (([]++c2_6)++[(e2.2.1,(e2.2.2.1,(e2.2.2.2.1,(e2.2.2.2.2.1,(e2.2.2.2.2.2.1,(e2.2.2.2.2.2.2,()))))))])) fun r7=>cond r7.2 (((c2_6.length+[(e2.2.1,(e2.2.2.1,(e2.2.2.2.1,(e2.2.2.2.2.1,(e2.2.2.2.2.2.1,(e2.2.2.2.2.2.2,()))))))].length) * 80<=lim)/\(nxT (LP159_0 b p LK) m K (s159_0 b p LK (wrap64 (c2_0-Z1),e2.1,(c2_6++[(e2.2.1,(e2.2.2.1,(e2.2.2.2.1,(e2.2.2.2.2.1,(e2.2.2.2.2.2.1,(e2.2.2.2.2.2.2,()))))))]))))) (nxT (LP159_0 b p LK) m K (s159_0 b p LK (wrap64 (c2_0-Z1),e2.1,c2_6)))))) m_ (s159_2 b p LK v0.1 r3.1 (v0.2.2.length:Int) Z0 r6.1 r6.2 v0.2.2 r5.1 ()))))) ((Sm TBy b)/\(M.ay b)/\(0<=r4.2)/\(r4.2<=1000000000000000)/\(LD (M.pick b r4.2 (LK.length:Int)) fun r5=>(Sm TBy b)/\(M.ay b)/\(0<=r5.2)/\(r5.2<=1000000000000000)/\(LD (M.pick b r5.2 (7:Int)) fun r6=>(∃m_,∃c2_0:Int,∃c2_1:(List LC),∃c2_2:Int,∃c2_3:Int,∃c2_4:Int,∃c2_5:Int,∃c2_6:LS,∃c2_7:Int,True/\de (s159_2 b p LK c2_0 c2_1 c2_2 c2_3 c2_4 c2_5 c2_6 c2_7) (F.eU b p LK c2_0 c2_1 c2_2 c2_3 c2_4 c2_5 c2_6 c2_7) (fun v2:Unit=>True) (fun e2:Int×Int×Int×Int×Int×LPt×LI=>True->Q3 (((([]:List ah.D).length+c2_6.length) * 80<=lim)/\((([]++c2_6).length+[(e2.2.1,(e2.2.2.1,(e2.2.2.2.1,(e2.2.2.2.2.1,(e2.2.2.2.2.2.1,(e2.2.2.2.2.2.2,()))))))].length) * 80<=lim)/\(Sm TTb LK)/\(Sm TSS (([]++c2_6)++[(e2.2.1,(e2.2.2.1,(e2.2.2.2.1,(e2.2.2.2.2.1,(e2.2.2.2.2.2.1,(e2.2.2.2.2.2.2,()))))))]))/\(LD (M.dM LK (([]++c2_6)++[(e2.2.1,(e2.2.2.1,(e2.2.2.2.1,(e2.2.2.2.2.1,(e2.2.2.2.2.2.1,(e2.2.2.2.2.2.2,()))))))])) fun r7=>cond r7.2 (((c2_6.length+[(e2.2.1,(e2.2.2.1,(e2.2.2.2.1,(e2.2.2.2.2.1,(e2.2.2.2.2.2.1,(e2.2.2.2.2.2.2,()))))))].length) * 80<=lim)/\(nxT (LP159_0 b p LK) m K (s159_0 b p LK (wrap64 (c2_0-Z1),e2.1,(c2_6++[(e2.2.1,(e2.2.2.1,(e2.2.2.2.1,(e2.2.2.2.2.1,(e2.2.2.2.2.2.1,(e2.2.2.2.2.2.2,()))))))]))))) (nxT (LP159_0 b p LK) m K (s159_0 b p LK (wrap64 (c2_0-Z1),e2.1,c2_6)))))) m_ (s159_2 b p LK v0.1 r3.1 (v0.2.2.length:Int) (wrap64 (wrap64 ((v0.2.2.length:Int)-Z1)-(wrap64 (r4.1.tdiv Z4)))) r6.1 r6.2 v0.2.2 r5.1 ()))))))))) (K (.exit 0) (⟨[(5,.own 26 none)],[(1000000,.box [.data TBy b,dI v0.2.1]),(26,.arr .sh ah v0.2.2)]⟩:St))):=by kernel_rfl
abbrev S159l2_0 (b:LI) (p:Int) (LK:LTb) (c2_0:Int) (c2_1:(List LC)) (c2_2:Int) (c2_3:Int) (c2_4:Int) (c2_5:Int) (c2_6:LS) (c2_7:Int) (v2:Unit) (m:Nat) (K:KX):Prop:=(Sm TBy b)/\(M.ay b)/\(0<=c2_5)/\(c2_5<=1000000000000000)/\(LD (M.pick b c2_5 c2_2) fun r8=>(0<=c2_3)/\(c2_3<(c2_1.length:Int))/\(0<=r8.1)/\(r8.1<(c2_1.length:Int))/\((([]:List ag.D).length+(@nth TCS c2_1 c2_3).length) * 16<=lim)/\((([]++(@nth TCS c2_1 c2_3)).length+(@nth TCS c2_1 r8.1).length) * 16<=lim)/\cond (decide (((([]++(@nth TCS c2_1 c2_3))++(@nth TCS c2_1 r8.1)).length:Int)<=Z4)) ((Sm TBy b)/\(Sm TCS (([]++(@nth TCS c2_1 c2_3))++(@nth TCS c2_1 r8.1)))/\(M.ay b)/\(0<=r8.2)/\(r8.2+40 * (M.eB Z2:Int)<=996000000000000)/\(Z2<=3)/\(Z2.toNat<64)/\(LD (M.cv 64 b r8.2 (([]++(@nth TCS c2_1 c2_3))++(@nth TCS c2_1 r8.1)) Z3 Z2) fun r9=>K (.exit 2) (⟨[(0,.ptr 1000000 0),(1,.data TTb LK),(5,.own 26 none),(6,dI c2_0),(11,.ptr 11 0)],[(1000000,.box [.data TBy b,dI r9.2]),(26,.arr .sh ah c2_6),(11,.box [dI Z4,dI c2_3,dI r8.1,dI Z0,.data TPS r9.1,.data (Ty.sl aE) []])]⟩:St))) (K (.exit 2) (⟨[(0,.ptr 1000000 0),(1,.data TTb LK),(5,.own 26 none),(6,dI c2_0),(11,.ptr 11 0)],[(1000000,.box [.data TBy b,dI r8.2]),(26,.arr .sh ah c2_6),(11,.box [dI Z1,dI Z0,dI Z0,dI c2_7,.data TPS [],.data (Ty.sl aE) []])]⟩:St)))
abbrev S159l2_1 (b:LI) (p:Int) (LK:LTb) (c2_0:Int) (c2_1:(List LC)) (c2_2:Int) (c2_3:Int) (c2_4:Int) (c2_5:Int) (c2_6:LS) (c2_7:Int) (v2:Unit) (m:Nat) (K:KX):Prop:=cond (decide (c2_4=Z4)) (∃m_,∃c5_0:Int,∃c5_1:(List LC),∃c5_2:Int,∃c5_3:Int,∃c5_4:Int,∃c5_5:LS,(c5_2<=eS/\True)/\dc (s159_5 b p LK c5_0 c5_1 c5_2 c5_3 c5_4 c5_5) Z0 c5_2 (F.gE b p LK c5_0 c5_1 c5_2 c5_3 c5_4 c5_5) (fun v5:Int×Int×Int×Int=>True) (bz (fun v5:Int×Int×Int×Int=>True->K (.exit 2) (⟨[(0,.ptr 1000000 0),(1,.data TTb LK),(5,.own 26 none),(6,dI c5_0),(11,.ptr 11 0)],[(1000000,.box [.data TBy b,dI c5_4]),(26,.arr .sh ah c5_5),(11,.box [dI v5.1,dI v5.2.1,dI v5.2.2.1,dI v5.2.2.2,.data TPS [],.data (Ty.sl aE) []])]⟩:St)) (fun _=>False)) m_ (s159_5 b p LK c2_0 c2_1 c2_2 c2_3 c2_5 c2_6 Z0 (Z1,Z0,Z0,c2_7))) (cond (decide (c2_4=Z5)) (K (.exit 2) (⟨[(0,.ptr 1000000 0),(1,.data TTb LK),(5,.own 26 none),(6,dI c2_0),(11,.ptr 11 0)],[(1000000,.box [.data TBy b,dI c2_5]),(26,.arr .sh ah c2_6),(11,.box [dI Z6,dI c2_3,dI Z0,dI Z0,.data TPS [],.data (Ty.sl aE) []])]⟩:St)) (K (.exit 2) (⟨[(0,.ptr 1000000 0),(1,.data TTb LK),(5,.own 26 none),(6,dI c2_0),(11,.ptr 11 0)],[(1000000,.box [.data TBy b,dI c2_5]),(26,.arr .sh ah c2_6),(11,.box [dI Z1,dI Z0,dI Z0,dI c2_7,.data TPS [],.data (Ty.sl aE) []])]⟩:St)))
theorem lvc159_1 (b:LI) (p:Int) (LK:LTb) (c2_0:Int) (c2_1:(List LC)) (c2_2:Int) (c2_3:Int) (c2_4:Int) (c2_5:Int) (c2_6:LS) (c2_7:Int) (v2:Unit) (m:Nat) (K:KX):lvT C159 (L159 b p LK) ann159 (qY [(1000002,true)] f159) 1 2 (s159_2 b p LK c2_0 c2_1 c2_2 c2_3 c2_4 c2_5 c2_6 c2_7 v2) m K =
 (cond (decide (c2_4=Z0)) ((0<=c2_3)/\(c2_3<(c2_1.length:Int))/\(Sm TBy b)/\(Sm TCS (@nth TCS c2_1 c2_3))/\(M.ay b)/\(0<=c2_5)/\(c2_5+40 * (M.eB Z2:Int)<=996000000000000)/\(Z2<=3)/\(Z2.toNat<64)/\(LD (M.cv 64 b c2_5 (@nth TCS c2_1 c2_3) Z3 Z2) fun r10=>K (.exit 2) (⟨[(0,.ptr 1000000 0),(1,.data TTb LK),(5,.own 26 none),(6,dI c2_0),(11,.ptr 11 0)],[(1000000,.box [.data TBy b,dI r10.2]),(26,.arr .sh ah c2_6),(11,.box [dI Z2,dI c2_3,dI Z0,dI Z0,.data TPS r10.1,.data (Ty.sl aE) []])]⟩:St))) (cond (decide (c2_4=Z1)) ((Sm TBy b)/\(M.ay b)/\(0<=c2_5)/\(c2_5<=1000000000000000)/\(LD (M.pick b c2_5 Z3) fun r11=>(∃m_,∃c3_0:Int,∃c3_1:(List LC),∃c3_2:Int,∃c3_3:LS,∃c3_4:Int,True/\de (s159_3 b p LK c3_0 c3_1 c3_2 c3_3 c3_4) (F.gA b p LK c3_0 c3_1 c3_2 c3_3 c3_4) (fun v3:Int×Int×LI=>True) (fun e3:Int×LI=>True->K (.exit 2) (⟨[(0,.ptr 1000000 0),(1,.data TTb LK),(5,.own 26 none),(6,dI c3_0),(11,.ptr 11 0)],[(1000000,.box [.data TBy b,dI e3.1]),(26,.arr .sh ah c3_3),(11,.box [dI Z3,dI c3_4,dI Z0,dI Z0,.data TPS [],.data (Ty.sl aE) e3.2])]⟩:St)) m_ (s159_3 b p LK c2_0 c2_1 c2_3 c2_6 c2_3 (r11.1,r11.2,[]))))) (cond (decide (c2_4=Z2)) (cond (decide (c2_4=Z2)) (S159l2_0  b p LK c2_0 c2_1 c2_2 c2_3 c2_4 c2_5 c2_6 c2_7 v2 m K) (S159l2_1  b p LK c2_0 c2_1 c2_2 c2_3 c2_4 c2_5 c2_6 c2_7 v2 m K)) (cond (decide (c2_4=Z3)) (S159l2_0  b p LK c2_0 c2_1 c2_2 c2_3 c2_4 c2_5 c2_6 c2_7 v2 m K) (S159l2_1  b p LK c2_0 c2_1 c2_2 c2_3 c2_4 c2_5 c2_6 c2_7 v2 m K))))):=by kernel_rfl
abbrev S159l3_0 (b:LI) (p:Int) (LK:LTb) (c3_0:Int) (c3_1:(List LC)) (c3_2:Int) (c3_3:LS) (c3_4:Int) (v3:Int×Int×LI) (m:Nat) (K:KX):Prop:=K (.exit 3) (⟨[(0,.ptr 1000000 0),(1,.data TTb LK),(5,.own 26 none),(6,dI c3_0),(11,.ptr 11 0)],[(1000000,.box [.data TBy b,dI v3.2.1]),(26,.arr .sh ah c3_3),(11,.box [dI Z3,dI c3_4,dI Z0,dI Z0,.cst (.slice none 0 0),.own 800181 none]),(800181,.arr .sh aE v3.2.2)]⟩:St)
theorem lvc159_2 (b:LI) (p:Int) (LK:LTb) (c3_0:Int) (c3_1:(List LC)) (c3_2:Int) (c3_3:LS) (c3_4:Int) (v3:Int×Int×LI) (m:Nat) (K:KX):lvT C159 (L159 b p LK) ann159 (qY [(1000002,true)] f159) 2 3 (s159_3 b p LK c3_0 c3_1 c3_2 c3_3 c3_4 v3) m K =
 (cond ((decide (Z0<=v3.1))==true) ((0<=c3_2)/\(c3_2<(c3_1.length:Int))/\cond (decide (Z0<((@nth TCS c3_1 c3_2).length:Int))) ((0<=c3_2)/\(c3_2<(c3_1.length:Int))/\((Sm TBy b)/\(M.ay b)/\(0<=v3.2.1)/\(v3.2.1<=1000000000000000)/\(LD (M.pick b v3.2.1 ((@nth TCS c3_1 c3_2).length:Int)) fun r12=>((v3.2.2.length+[r12.1].length) * 8<=lim)/\(nxT (LP159_3 b p LK) m K (s159_3 b p LK c3_0 c3_1 c3_2 c3_3 c3_4 (wrap64 (v3.1-Z1),r12.2,(v3.2.2++[r12.1]))))))/\((Sm TBy b)/\(M.ay b)/\(0<=v3.2.1)/\(v3.2.1<=1000000000000000)/\(LD (M.pick b v3.2.1 ((@nth TCS c3_1 c3_2).length:Int)) fun r12=>Q0 (((v3.2.2.length+[r12.1].length) * 8<=lim)/\(nxT (LP159_3 b p LK) m K (s159_3 b p LK c3_0 c3_1 c3_2 c3_3 c3_4 (wrap64 (v3.1-Z1),r12.2,(v3.2.2++[r12.1])))))))) (S159l3_0  b p LK c3_0 c3_1 c3_2 c3_3 c3_4 v3 m K)) (S159l3_0  b p LK c3_0 c3_1 c3_2 c3_3 c3_4 v3 m K)):=by kernel_rfl
theorem lvc159_3 (b:LI) (p:Int) (LK:LTb) (c5_0:Int) (c5_1:(List LC)) (c5_2:Int) (c5_3:Int) (c5_4:Int) (c5_5:LS) (i5:Int) (v5:Int×Int×Int×Int) (m:Nat) (K:KX):lvT C159 (L159 b p LK) ann159 (qY [(1000002,true)] f159) 3 5 (s159_5 b p LK c5_0 c5_1 c5_2 c5_3 c5_4 c5_5 i5 v5) m K =
 (cond (decide (i5<c5_2)) ((Sm TTb LK)/\(Sm (Ty.sl TCS) c5_1)/\(Sm ah (Z5,(c5_3,(i5,(Z0,([],([],())))))))/\(LD (M.ga LK c5_1 (Z5,(c5_3,(i5,(Z0,([],([],()))))))) fun r13=>cond r13.2 (nxT (LP159_5 b p LK) m K (s159_5 b p LK c5_0 c5_1 c5_2 c5_3 c5_4 c5_5 (wrap64 (i5+Z1)) (Z5,c5_3,i5,Z0))) (nxT (LP159_5 b p LK) m K (s159_5 b p LK c5_0 c5_1 c5_2 c5_3 c5_4 c5_5 (wrap64 (i5+Z1)) (v5.1,v5.2.1,v5.2.2.1,v5.2.2.2))))) (K (.exit 5) (⟨[(0,.ptr 1000000 0),(1,.data TTb LK),(5,.own 26 none),(6,dI c5_0),(11,.ptr 11 0)],[(1000000,.box [.data TBy b,dI c5_4]),(26,.arr .sh ah c5_5),(11,.box [dI v5.1,dI v5.2.1,dI v5.2.2.1,dI v5.2.2.2,.data TPS [],.data (Ty.sl aE) []])]⟩:St))):=by kernel_rfl
theorem con159_ok:bt P 159 c159:=Gt [(1000002,true)] C159 func159 (kC con67_ok (kC con160_ok (kC con203_ok (kC con204_ok kN)))) fun args hp K h0=>by
 unfold c159 at h0
 dsimp only at h0
 obtain⟨b,p,rfl,h00⟩:=fq h0
 obtain⟨a0,a1,rfl,_,h1⟩:=bZ h00
 obtain⟨rfl,h2⟩:=dw h1
 obtain⟨LK,rfl,h3⟩:=aP h2
 obtain⟨h_b,LO,p0,p1,p2,p3,hK⟩:=h3
 have h:ok (F.jS b p LK) (fun r=>K (.own 0 none) [(0,.arr .sh ah r.1),(1000000,.box [.data TBy b,dI r.2])]):=aA (F.yH b p LK h_b LO p0 p1 p2 p3) (hK _ rfl)
 refine⟨rfl,ann159,(L159 b p LK),.raw,(FY (i0:=0) (i1:=2) (i2:=3) (i3:=5) (by kernel_rfl) ?_ ?_ ?_ ?_),?_⟩
 ·rintro _ _ K ⟨hc0,v0,rfl,hv0,h⟩
  exact cast (lvc159_0 _ _ _ _ _ _).symm (cC h (fun m1 hm0 h=>(oC h (fun _ h=>⟨LO,(oG h fun _ h=>(oL h fun r3 _ h=>(oC h (fun _ h=>h) fun _ h=>⟨h_b,(oG h fun g1 h=>(oG h fun _ h=>(oG h fun _ h=>(oL h fun r4 _ h=>⟨(by decide),(oC h (fun _ h=>⟨h_b,⟨g1,(oG h fun _ h=>(oG h fun _ h=>(oL h fun r5 _ h=>⟨h_b,⟨g1,(oG h fun _ h=>(oG h fun _ h=>(oL h fun r6 _ h=>(bJ (fun m hm=>⟨v0.1,r3.1,(v0.2.2.length:Int),Z0,r6.1,r6.2,v0.2.2,r5.1,trivial,hm⟩) _ rfl trivial (eR h (fun e2 h hv2=>(q3 (oG h fun _ h=>(oG h fun _ h=>⟨LO,(oG h fun _ h=>(oL h fun _ _ h=>(oC h (fun _ h=>(oG h fun _ h=>(aW (fun _ hm=>⟨hc0,hm⟩) hm0 _ rfl trivial h))) fun _ h=>(aW (fun _ hm=>⟨hc0,hm⟩) hm0 _ rfl trivial h))))⟩)))))))))⟩⟩)))⟩⟩) fun _ h=>⟨h_b,⟨g1,(oG h fun _ h=>(oG h fun _ h=>(oL h fun r5 _ h=>⟨h_b,⟨g1,(oG h fun _ h=>(oG h fun _ h=>(oL h fun r6 _ h=>(bJ (fun m hm=>⟨v0.1,r3.1,(v0.2.2.length:Int),(wrap64 (wrap64 ((v0.2.2.length:Int)-Z1)-(wrap64 (r4.1.tdiv Z4)))),r6.1,r6.2,v0.2.2,r5.1,trivial,hm⟩) _ rfl trivial (eR h (fun e2 h hv2=>(q3 (oG h fun _ h=>(oG h fun _ h=>⟨LO,(oG h fun _ h=>(oL h fun _ _ h=>(oC h (fun _ h=>(oG h fun _ h=>(aW (fun _ hm=>⟨hc0,hm⟩) hm0 _ rfl trivial h))) fun _ h=>(aW (fun _ hm=>⟨hc0,hm⟩) hm0 _ rfl trivial h))))⟩)))))))))⟩⟩)))⟩⟩)⟩))))⟩)))⟩) fun _ h=>((cB h :) trivial))))
 ·rintro _ _ K ⟨c2_0,c2_1,c2_2,c2_3,c2_4,c2_5,c2_6,c2_7,hc2,v2,rfl,hv2,h⟩
  exact cast (lvc159_1 _ _ _ _ _ _ _ _ _ _ _ _ _ _).symm (cC h (fun m1 hm2 h=>(oC h (fun _ h=>(oG h fun _ h=>(oG h fun _ h=>⟨h_b,(oG h fun _ h=>(oG h fun _ h=>(oG h fun _ h=>(oG h fun _ h=>(oG h fun _ h=>(oG h fun _ h=>(oL h fun _ _ h=>((cB h :) trivial))))))))⟩))) fun _ h=>(oC h (fun _ h=>⟨h_b,(oG h fun _ h=>(oG h fun _ h=>(oG h fun _ h=>(oL h fun _ _ h=>(bJ (fun m hm=>⟨c2_0,c2_1,c2_3,c2_6,c2_3,trivial,hm⟩) _ rfl trivial (eR h (fun e3 h hv3=>((cB h :) trivial))))))))⟩) fun _ h=>(oC h (fun b_41 h=>(bO b_41 ⟨h_b,(oG h fun g2 h=>(oG h fun _ h=>(oG h fun _ h=>(oL h fun _ _ h=>(oG h fun _ h=>(oG h fun _ h=>(oG h fun _ h=>(oG h fun _ h=>(oG h fun _ h=>(oG h fun _ h=>(oC h (fun _ h=>⟨h_b,(oG h fun _ h=>⟨g2,(oG h fun _ h=>(oG h fun _ h=>(oG h fun _ h=>(oG h fun _ h=>(oL h fun _ _ h=>((cB h :) trivial))))))⟩)⟩) fun _ h=>((cB h :) trivial))))))))))))⟩)) fun _ h=>(oC h (fun _ h=>⟨h_b,(oG h fun g3 h=>(oG h fun _ h=>(oG h fun _ h=>(oL h fun _ _ h=>(oG h fun _ h=>(oG h fun _ h=>(oG h fun _ h=>(oG h fun _ h=>(oG h fun _ h=>(oG h fun _ h=>(oC h (fun _ h=>⟨h_b,(oG h fun _ h=>⟨g3,(oG h fun _ h=>(oG h fun _ h=>(oG h fun _ h=>(oG h fun _ h=>(oL h fun _ _ h=>((cB h :) trivial))))))⟩)⟩) fun _ h=>((cB h :) trivial))))))))))))⟩) fun _ h=>(oC h (fun _ h=>(have hi_0:=(aC h).1;have h:=(aC h).2;(bT (fun m hm=>⟨c2_0,c2_1,c2_2,c2_3,c2_5,c2_6,⟨hi_0,trivial⟩,hm⟩) Z0 _ rfl (Int.natCast_nonneg 0) trivial (bn h (fun v5 h hv5=>((cB h :) trivial)) (fun _ h=>h.elim))))) fun _ h=>(oC h (fun _ h=>((cB h :) trivial)) fun _ h=>((cB h :) trivial)))))))))
 ·rintro _ _ K ⟨c3_0,c3_1,c3_2,c3_3,c3_4,hc3,v3,rfl,hv3,h⟩
  exact cast (lvc159_2 _ _ _ _ _ _ _ _ _ _ _).symm (cC h (fun m1 hm3 h=>(oC h (fun _ h=>(oG h fun g4 h=>(oG h fun g5 h=>(oC h (fun _ h=>⟨g4,⟨g5,((fun(g3_0:M.ay b)=>(fun(g3_1:0<=v3.2.1)=>(fun(g3_2:v3.2.1<=1000000000000000)=>(fun(g3_3:(v3.2.2.length+[(M.pick b v3.2.1 ((@nth TCS c3_1 c3_2).length:Int)).1].length) * 8<=lim)=>⟨⟨h_b,⟨g3_0,have g6:=g3_0;⟨g3_1,have g7:=g3_1;⟨g3_2,have g8:=g3_2;(fun r12 er12=>(have g9:(v3.2.2.length+[r12.1].length) * 8<=lim:=(by rw[er12];exact g3_3);⟨g9,(have h:=(aC (cI (aC (aC (aC h).2).2).2 r12 er12)).2;(aW (fun _ hm=>⟨c3_0,c3_1,c3_2,c3_3,c3_4,hc3,hm⟩) hm3 _ rfl trivial h))⟩))⟩⟩⟩⟩,⟨h_b,⟨g3_0,have g10:=g3_0;⟨g3_1,have g11:=g3_1;⟨g3_2,have g12:=g3_2;(fun r12 er12=>(q0 (have g13:(v3.2.2.length+[r12.1].length) * 8<=lim:=(by rw[er12];exact g3_3);⟨g13,(have h:=(aC (cI (aC (aC (aC h).2).2).2 r12 er12)).2;(aW (fun _ hm=>⟨c3_0,c3_1,c3_2,c3_3,c3_4,hc3,hm⟩) hm3 _ rfl trivial h))⟩)))⟩⟩⟩⟩⟩) (aC (cI (aC (aC (aC h).2).2).2 _ rfl)).1) (aC (aC (aC h).2).2).1) (aC (aC h).2).1) (aC h).1)⟩⟩) fun _ h=>((cB h :) trivial))))) fun _ h=>((cB h :) trivial))))
 ·rintro _ _ K ⟨c5_0,c5_1,c5_2,c5_3,c5_4,c5_5,hc5,i5,v5,rfl,hl5,rfl,hv5,h⟩
  exact cast (lvc159_3 _ _ _ _ _ _ _ _ _ _ _ _ _).symm (ct h (fun ht5 h=>⟨LO,(oG h fun _ h=>⟨(show Sm ah _ from⟨trivial,(show Sm (Ty.pair aE (Ty.pair aE (Ty.pair aE (Ty.pair TPS (Ty.pair (Ty.sl aE) Ty.unit))))) _ from⟨trivial,(show Sm (Ty.pair aE (Ty.pair aE (Ty.pair TPS (Ty.pair (Ty.sl aE) Ty.unit)))) _ from⟨trivial,(show Sm (Ty.pair aE (Ty.pair TPS (Ty.pair (Ty.sl aE) Ty.unit))) _ from⟨trivial,(show Sm (Ty.pair TPS (Ty.pair (Ty.sl aE) Ty.unit)) _ from⟨(kJ aD),(show Sm (Ty.pair (Ty.sl aE) Ty.unit) _ from⟨(kJ aE),trivial⟩)⟩)⟩)⟩)⟩)⟩),(oL h fun _ _ h=>(oC h (fun _ h=>(aV (fun _ hm=>⟨c5_0,c5_1,c5_2,c5_3,c5_4,c5_5,hc5,hm⟩) _ rfl hl5 iR ht5 hc5.1 trivial h)) fun _ h=>(aV (fun _ hm=>⟨c5_0,c5_1,c5_2,c5_3,c5_4,c5_5,hc5,hm⟩) _ rfl hl5 iR ht5 hc5.1 trivial h)))⟩)⟩) fun h=>(h trivial))
 ·rw[vc159]
  exact⟨h_b,⟨p0,⟨p1,(oG h fun _ h=>(oL h fun _ _ h=>⟨h_b,⟨p0,(oG h fun _ h=>(oG h fun _ h=>(oL h fun _ _ h=>(bJ (fun m hm=>⟨trivial,hm⟩) _ rfl trivial (bn h (fun e0 h hv0=>h) (fun q0 h=>h))))))⟩⟩))⟩⟩⟩
def c91:Con:=⟨[.any],fun args hp K=>hpR (fun b p=>args1 (fun a0=>mc a0 ((Sm TBy b)/\(M.ay b)/\(0<=p)/\(p<=994000000000000)/\(LD (M.eW b p) fun r=>K (.tup [.data TTb r.1,.data TSS r.2.1]) [(1000000,.box [.data TBy b,dI r.2.2])]))) args []) hp,.plain,true⟩
abbrev C91:Ctx:=cx [(67,c67),(126,c126),(159,c159)] 20 [] 0 false
def ann91:=an [[kp 1],[.weak 7,kp 17],[kp 49],[kp 12]] []
theorem vc91 (b:LI) (p:Int) (K:KA):vcT C91 aB ann91 f91 [.ptr 1000000 0] [(1000000,.box [.data TBy b,dI p])] (.tup [TTb,TSS]) K =
 ((Sm TBy b)/\(M.ay b)/\(0<=p)/\(p<=995000000000000)/\(Z0=0)/\(LD (M.fh b p Z0) fun r1=>(Sm TBy b)/\(Sm TTb r1.1)/\(M.ay b)/\(0<=r1.2)/\(r1.2<=995000000000000)/\(∀t∈r1.1,M.iY t)/\(LD (M.kR b r1.2 r1.1) fun r2=>(Sm TBy b)/\(M.ay b)/\(0<=r2.2)/\(r2.2<=1000000000000000)/\(LD (M.pick b r2.2 (Hs (r2.1.length:Int) Z4)) fun r3=>(0<=Z0)/\(Z0<=wrap64 (Z1+r3.1))/\(wrap64 (Z1+r3.1)<=(r2.1.length:Int))/\(wrap64 (Z1+r3.1)=wrap64 (Z1+r3.1))/\K (.tup [.data TTb r1.1,.data TSS (aj r2.1 (some (Z0,wrap64 (Z1+r3.1))))]) [(1000000,.box [.data TBy b,dI r3.2])])))):=by kernel_rfl
theorem con91_ok:bt P 91 c91:=bA C91 func91 (kC con67_ok (kC con126_ok (kC con159_ok kN))) fun args hp K h0=>by
 unfold c91 at h0
 dsimp only at h0
 obtain⟨b,p,rfl,h00⟩:=fq h0
 obtain⟨a0,rfl,_,h1⟩:=zd h00
 obtain⟨rfl,h2⟩:=dw h1
 obtain⟨h_b,p0,p1,p2,hK⟩:=h2
 have h:ok (F.jg b p) (fun r=>K (.tup [.data TTb r.1,.data TSS r.2.1]) [(1000000,.box [.data TBy b,dI r.2.2])]):=aA (F.wH b p h_b p0 p1 p2) (hK _ rfl)
 refine⟨rfl,ann91,aB,(.tup [TTb,TSS]),(aL (by kernel_rfl)),?_⟩
 ·rw[vc91]
  exact⟨h_b,⟨p0,⟨p1,(oG h fun _ h=>(oG h fun _ h=>(oL h fun _ _ h=>⟨h_b,(oG h fun _ h=>⟨p0,(oG h fun _ h=>(oG h fun _ h=>(oG h fun _ h=>(oL h fun _ _ h=>⟨h_b,⟨p0,(oG h fun _ h=>(oG h fun _ h=>(oL h fun _ _ h=>⟨(Int.natCast_nonneg 0),(oG h fun _ h=>(oG h fun _ h=>⟨rfl,h⟩))⟩)))⟩⟩))))⟩)⟩)))⟩⟩⟩
def c92:Con:=⟨[.any,.dat TTb,.dat aE],fun args hp K=>hpR (fun b p=>rK (fun a0 a1 a2=>mc a0 (dA TTb a1 fun LK=>dA aE a2 fun n=>(Sm TBy b)/\(Sm TTb LK)/\(M.ay b)/\(0<=p)/\(p<=994000000000000)/\(LK.length<=3)/\(LD (M.fX b p LK n) fun r=>K (.own 0 none) [(0,.arr .sh aI r.1),(1000000,.box [.data TBy b,dI r.2])]))) args []) hp,.plain,true⟩
abbrev C92:Ctx:=cx [(67,c67),(129,c129),(160,c160)] 73 [] 0 false
def ann92:=an [[kp 7],[kp 135],[kp 391],[kp 8583],[kp 391],[kp 262535],[kp 391],[kp 274877907073],[kp 1099511627905],[kp 128],[kp 141836999983233],[kp 128],[.keep [0,7,55]],[kp 128],[kp 64]] [[kp 133]]
abbrev s92_0 (b:LI) (p:Int) (LK:LTb) (n:Int) (i0:Int) (v0:Int×LG):St:=⟨[(0,.ptr 1000000 0),(1,.data TTb LK),(2,dI n),(7,.own 9 none),(8,dI i0)],[(1000000,.box [.data TBy b,dI v0.1]),(9,.arr .sh aI v0.2)]⟩
abbrev LP92_0 (b:LI) (p:Int) (LK:LTb) (n:Int) (m:Nat) (st_:St) (K:KX):Prop:=True/\dc (s92_0 b p LK n) Z0 (LK.length:Int) (F.gN b p LK n) (fun v0:Int×LG=>True) (bz (fun v0:Int×LG=>True->K (.exit 0) (⟨[(0,.ptr 1000000 0),(2,dI n),(7,.own 9 none)],[(1000000,.box [.data TBy b,dI v0.1]),(9,.arr .sh aI v0.2)]⟩:St)) (fun _=>False)) m st_
def L92 (b:LI) (p:Int) (LK:LTb) (n:Int):bK:=lp1 0 (LP92_0 b p LK n)
theorem vc92 (b:LI) (p:Int) (LK:LTb) (n:Int) (K:KA):vcT C92 (L92 b p LK n) ann92 f92 [.ptr 1000000 0,.data TTb LK,dI n] [(1000000,.box [.data TBy b,dI p])] .raw K =
 (∃m_,True/\dc (s92_0 b p LK n) Z0 (LK.length:Int) (F.gN b p LK n) (fun v0:Int×LG=>True) (bz (fun v0:Int×LG=>True->cond ((decide (Z0<(v0.2.length:Int)))==true) ((Sm TBy b)/\(M.ay b)/\(0<=v0.1)/\(v0.1<=999000000000000)/\(LD (M.odd b v0.1 n) fun r1=>cond r1.1 ((Sm TBy b)/\(M.ay b)/\(0<=r1.2)/\(r1.2<=1000000000000000)/\(LD (M.pick b r1.2 Z3) fun r2=>cond (decide (r2.1=Z0)) ((Sm TBy b)/\(M.ay b)/\(0<=r2.2)/\(r2.2<=1000000000000000)/\(LD (M.pick b r2.2 Z6) fun r3=>(0<=Z0)/\(Z0<(v0.2.length:Int))/\(let y1:LG:=(v0.2.set Z0.toNat (wrap64 (r3.1-Z1),(nG v0.2 Z0).2));K (.own 0 none) [(0,.arr .sh aI y1),(1000000,.box [.data TBy b,dI r3.2])]))) (cond (decide (r2.1=Z1)) ((0<=Z0)/\(Z0<(v0.2.length:Int))/\(0<=Z0)/\(Z0<(v0.2.length:Int))/\Q0 ((Sm TBy b)/\(M.ay b)/\(0<=r2.2)/\(r2.2<=1000000000000000)/\(LD (M.pick b r2.2 ((nG v0.2 Z0).2.1.length:Int)) fun r4=>(0<=Z0)/\(Z0<=r4.1)/\(r4.1<=((nG v0.2 Z0).2.1.length:Int))/\(r4.1=r4.1)/\(0<=Z0)/\(Z0<(v0.2.length:Int))/\(let y2:LG:=(v0.2.set Z0.toNat ((nG v0.2 Z0).1,((aj (nG v0.2 Z0).2.1 (some (Z0,r4.1))),())));K (.own 0 none) [(0,.arr .sh aI y2),(1000000,.box [.data TBy b,dI r4.2])])))) ((0<=Z0)/\(Z0<(v0.2.length:Int))/\((v0.2.length+[(nG v0.2 Z0)].length) * 32<=lim)/\K (.own 0 none) [(0,.arr .sh aI (v0.2++[(nG v0.2 Z0)])),(1000000,.box [.data TBy b,dI r2.2])])))) (K (.own 0 none) [(0,.arr .sh aI v0.2),(1000000,.box [.data TBy b,dI r1.2])]))) (K (.own 0 none) [(0,.arr .sh aI v0.2),(1000000,.box [.data TBy b,dI v0.1])])) (fun _=>False)) m_ (s92_0 b p LK n Z0 (p,[]))):=by kernel_rfl
theorem lvc92_0 (b:LI) (p:Int) (LK:LTb) (n:Int)  (i0:Int) (v0:Int×LG) (m:Nat) (K:KX):lvT C92 (L92 b p LK n) ann92 f92 0 0 (s92_0 b p LK n i0 v0) m K =
 (cond (decide (i0<(LK.length:Int))) ((Sm TBy b)/\(M.ay b)/\(0<=v0.1)/\(v0.1<=1000000000000000)/\(LD (M.pick b v0.1 Z3) fun r5=>cond (decide (Z0<r5.1)) ((0<=i0)/\(i0<(LK.length:Int))/\(Sm TBy b)/\(Sm TCS (nT LK i0).1)/\(M.ay b)/\(0<=r5.2)/\(r5.2+40 * (M.eB Z2:Int)<=996000000000000)/\(Z2<=3)/\(Z2.toNat<64)/\(LD (M.cv 64 b r5.2 (nT LK i0).1 Z3 Z2) fun r6=>((v0.2.length+[(i0,(r6.1,()))].length) * 32<=lim)/\(nxT (LP92_0 b p LK n) m K (s92_0 b p LK n (wrap64 (i0+Z1)) (r6.2,(v0.2++[(i0,(r6.1,()))])))))) (nxT (LP92_0 b p LK n) m K (s92_0 b p LK n (wrap64 (i0+Z1)) (r5.2,v0.2))))) (K (.exit 0) (⟨[(0,.ptr 1000000 0),(2,dI n),(7,.own 9 none)],[(1000000,.box [.data TBy b,dI v0.1]),(9,.arr .sh aI v0.2)]⟩:St))):=by kernel_rfl
theorem con92_ok:bt P 92 c92:=bA C92 func92 (kC con67_ok (kC con129_ok (kC con160_ok kN))) fun args hp K h0=>by
 unfold c92 at h0
 dsimp only at h0
 obtain⟨b,p,rfl,h00⟩:=fq h0
 obtain⟨a0,a1,a2,rfl,_,h1⟩:=gq h00
 obtain⟨rfl,h2⟩:=dw h1
 obtain⟨LK,rfl,h3⟩:=aP h2
 obtain⟨n,rfl,h4⟩:=aP h3
 obtain⟨h_b,LO,p0,p1,p2,p3,hK⟩:=h4
 have h:ok (F.ij b p LK n) (fun r=>K (.own 0 none) [(0,.arr .sh aI r.1),(1000000,.box [.data TBy b,dI r.2])]):=aA (F.vN b p LK n h_b LO p0 p1 p2 p3) (hK _ rfl)
 refine⟨rfl,ann92,(L92 b p LK n),.raw,(bW (i0:=0) (by kernel_rfl) ?_),?_⟩
 ·rintro _ _ K ⟨hc0,i0,v0,rfl,hl0,rfl,hv0,h⟩
  exact cast (lvc92_0 _ _ _ _ _ _ _ _).symm (ct h (fun ht0 h=>⟨h_b,(oG h fun g1 h=>(oG h fun _ h=>(oG h fun _ h=>(oL h fun _ _ h=>(oC h (fun _ h=>⟨hl0,⟨ht0,⟨h_b,⟨(aO LO i0).1,⟨g1,(oG h fun _ h=>(oG h fun _ h=>(oG h fun _ h=>(oG h fun _ h=>(oL h fun _ _ h=>(oG h fun _ h=>(aV (fun _ hm=>⟨hc0,hm⟩) _ rfl hl0 iR ht0 (bC LO) trivial h)))))))⟩⟩⟩⟩⟩) fun _ h=>(aV (fun _ hm=>⟨hc0,hm⟩) _ rfl hl0 iR ht0 (bC LO) trivial h))))))⟩) fun h=>(h trivial))
 ·rw[vc92]
  exact(bT (fun m hm=>⟨trivial,hm⟩) Z0 _ rfl (Int.natCast_nonneg 0) trivial (bn h (fun v0 h hv0=>(oC h (fun _ h=>⟨h_b,⟨p0,(oG h fun _ h=>(oG h fun _ h=>(oL h fun _ _ h=>(oC h (fun _ h=>⟨h_b,⟨p0,(oG h fun _ h=>(oG h fun _ h=>(oL h fun _ _ h=>(oC h (fun _ h=>⟨h_b,⟨p0,(oG h fun _ h=>(oG h fun _ h=>(oL h fun _ _ h=>⟨(Int.natCast_nonneg 0),(oG h fun _ h=>(have h:=cI h _ rfl;h))⟩)))⟩⟩) fun _ h=>(oC h (fun _ h=>⟨(Int.natCast_nonneg 0),(oG h fun g2 h=>⟨(Int.natCast_nonneg 0),⟨g2,(q0 (⟨h_b,⟨p0,(oG h fun _ h=>(oG h fun _ h=>(oL h fun _ _ h=>⟨(Int.natCast_nonneg 0),(oG h fun _ h=>(oG h fun _ h=>⟨rfl,⟨(Int.natCast_nonneg 0),⟨g2,(have h:=cI h _ rfl;h)⟩⟩⟩))⟩)))⟩⟩))⟩⟩)⟩) fun _ h=>⟨(Int.natCast_nonneg 0),(oG h fun _ h=>(oG h fun _ h=>h))⟩)))))⟩⟩) fun _ h=>h))))⟩⟩) fun _ h=>h)) (fun _ h=>h.elim)))
def c42:Con:=⟨[.dat TBy],fun args hp K=>g1 (pD TBy) (fun code=>(Sm TBy code)/\(M.ay code)/\(LD (M.cz code) fun r=>K (.tup [.data TTb r.1,.data TGS r.2.1,.data TSS r.2.2.1,.data aK r.2.2.2]) [])) args hp,.plain,false⟩
abbrev C42:Ctx:=cx [(68,c68),(91,c91),(92,c92)] 24 [(65,T65)] 0 false
def ann42:=an [[kp 33],[kp 96],[kp 480],[kp 60]] []
theorem vc42 (code:LI) (K:KA):vcT C42 aB ann42 f42 [.data TBy code] [] (.tup [TTb,TGS,TSS,aK]) K =
 (cond (decide ((2000:Int)<(code.length:Int))) ((0<=Z0)/\(Z0<=(2000:Int))/\((2000:Int)<=(code.length:Int))/\((2000:Int)=(2000:Int))/\(Sm TBy (aj code (some (Z0,(2000:Int)))))/\(M.ay (aj code (some (Z0,(2000:Int)))))/\(0<=Z0)/\(Z0<=994000000000000)/\(LD (M.eW (aj code (some (Z0,(2000:Int)))) Z0) fun r1=>(Sm TBy (aj code (some (Z0,(2000:Int)))))/\(Sm TTb r1.1)/\(M.ay (aj code (some (Z0,(2000:Int)))))/\(0<=r1.2.2)/\(r1.2.2<=994000000000000)/\(r1.1.length<=3)/\(LD (M.fX (aj code (some (Z0,(2000:Int)))) r1.2.2 r1.1 Z0) fun r2=>(Sm TBy (aj code (some (Z0,(2000:Int)))))/\(Sm TTb r1.1)/\(M.ay (aj code (some (Z0,(2000:Int)))))/\(0<=r2.2)/\(r2.2<=996000000000000)/\(∀t∈r1.1,M.iY t)/\(∀t∈r1.1,M.nH t)/\(1<=r1.1.length)/\(Z0=0)/\(LD (M.ff (aj code (some (Z0,(2000:Int)))) r2.2 r1.1 Z0) fun r3=>K (.tup [.data TTb r1.1,.data TGS r2.1,.data TSS r1.2.1,.data aK r3.1]) [])))) ((Sm TBy code)/\(M.ay code)/\(0<=Z0)/\(Z0<=994000000000000)/\(LD (M.eW code Z0) fun r1=>(Sm TBy code)/\(Sm TTb r1.1)/\(M.ay code)/\(0<=r1.2.2)/\(r1.2.2<=994000000000000)/\(r1.1.length<=3)/\(LD (M.fX code r1.2.2 r1.1 Z0) fun r2=>(Sm TBy code)/\(Sm TTb r1.1)/\(M.ay code)/\(0<=r2.2)/\(r2.2<=996000000000000)/\(∀t∈r1.1,M.iY t)/\(∀t∈r1.1,M.nH t)/\(1<=r1.1.length)/\(Z0=0)/\(LD (M.ff code r2.2 r1.1 Z0) fun r3=>K (.tup [.data TTb r1.1,.data TGS r2.1,.data TSS r1.2.1,.data aK r3.1]) []))))):=by kernel_rfl
theorem con42_ok:bt P 42 c42:=bA C42 func42 (kC con68_ok (kC con91_ok (kC con92_ok (kI inlOk65 kN)))) fun args hp K h0=>by
 obtain⟨code,rfl,rfl,h_code,p0,hK⟩:=g1e h0
 have h:ok (F.gd code) (fun r=>K (.tup [.data TTb r.1,.data TGS r.2.1,.data TSS r.2.2.1,.data aK r.2.2.2]) []):=aA (F.sU code h_code p0) (hK _ rfl)
 refine⟨rfl,ann42,aB,(.tup [TTb,TGS,TSS,aK]),(aL (by kernel_rfl)),?_⟩
 ·rw[vc42]
  exact(oC h (fun _ h=>⟨(Int.natCast_nonneg 0),(oG h fun _ h=>(oG h fun _ h=>⟨rfl,⟨(tV h_code _),(oG h fun g1 h=>(oG h fun _ h=>(oG h fun _ h=>(oL h fun _ _ h=>⟨(tV h_code _),(oG h fun g2 h=>⟨g1,(oG h fun _ h=>(oG h fun _ h=>(oG h fun _ h=>(oL h fun _ _ h=>⟨(tV h_code _),⟨g2,⟨g1,(oG h fun _ h=>(oG h fun _ h=>(oG h fun _ h=>(oG h fun _ h=>(oG h fun _ h=>(oG h fun _ h=>(oL h fun _ _ h=>h)))))))⟩⟩⟩))))⟩)⟩))))⟩⟩))⟩) fun _ h=>⟨h_code,⟨p0,(oG h fun _ h=>(oG h fun _ h=>(oL h fun _ _ h=>⟨h_code,(oG h fun g3 h=>⟨p0,(oG h fun _ h=>(oG h fun _ h=>(oG h fun _ h=>(oL h fun _ _ h=>⟨h_code,⟨g3,⟨p0,(oG h fun _ h=>(oG h fun _ h=>(oG h fun _ h=>(oG h fun _ h=>(oG h fun _ h=>(oG h fun _ h=>(oL h fun _ _ h=>h)))))))⟩⟩⟩))))⟩)⟩)))⟩⟩)
def c137:Con:=⟨[.dat ag],fun args hp K=>g1 (pD ag) (fun c=>K (dB (!M.eZ c)) []) args hp,.plain,false⟩
abbrev C137:Ctx:=cx [(132,c132)] 7 [] 0 false
def ann137:=an [[.fixRow 1 ag,kp 2],[kp 4]] []
theorem vc137 (c:ag.D) (K:KA):vcT C137 aB ann137 f137 [.data ag c] [] (.dat Ty.bool) K =
 (K (dB (!(M.inR c.1 Z1 Z3))) []):=by kernel_rfl
theorem con137_ok:bt P 137 c137:=bA C137 func137 (kC con132_ok kN) fun args hp K h0=>by
 obtain⟨c,rfl,rfl,hK⟩:=g1e h0
 have h:ok (F.pJ c) (fun r=>K (dB r) []):=aA (F.sZ c) hK
 refine⟨rfl,ann137,aB,(.dat Ty.bool),(aL (by kernel_rfl)),?_⟩
 ·rw[vc137]
  exact h
def c193:Con:=⟨[.lent ag,.any],fun args hp K=>args2 (fun a0 a1=>lF ag a0 fun xs=>jC 137 a1 (nj ((Sm TCS xs)/\K (dI (M.idx (t:=ag) (fun e=>!M.eZ e) xs)) []))) args hp,.plain,false⟩
abbrev C193:Ctx:=cx [(137,c137)] 19 [] 0 false
def ann193:=an [[kp 3],[kp 387],[kp 899],[kp 419],[kp 65955],[kp 16],[kp 387],[kp 16]] [[kp 0]]
abbrev s193_0 (xs:LC) (i0:Int) (v0:Unit):St:=⟨[(0,.brw ag xs),(1,.fn 137 []),(7,dI (xs.length:Int)),(8,dI i0)],[]⟩
abbrev LP193_0 (xs:LC) (m:Nat) (st_:St) (K:KX):Prop:=True/\dc (s193_0 xs) Z0 (xs.length:Int) (F.cZ xs) (fun v0:Unit=>True) (bz (fun v0:Unit=>True->K (.exit 0) (⟨[],[]⟩:St)) (fun q0:Int=>K .ret (⟨[(4,dI q0)],[]⟩:St))) m st_
def L193 (xs:LC):bK:=lp1 0 (LP193_0 xs)
theorem vc193 (xs:LC) (K:KA):vcT C193 (L193 xs) ann193 f193 [.brw ag xs,.fn 137 []] [] (.dat aE) K =
 (∃m_,True/\dc (s193_0 xs) Z0 (xs.length:Int) (F.cZ xs) (fun v0:Unit=>True) (bz (fun v0:Unit=>True->K (dI (-1:Int)) []) (fun q0:Int=>K (dI q0) [])) m_ (s193_0 xs Z0 ())):=by kernel_rfl
theorem lvc193_0 (xs:LC)  (i0:Int) (v0:Unit) (m:Nat) (K:KX):lvT C193 (L193 xs) ann193 f193 0 0 (s193_0 xs i0 v0) m K =
 (cond (decide (i0<(xs.length:Int))) ((0<=i0)/\(i0<(xs.length:Int))/\cond (!M.eZ (nC xs i0)) (K .ret (⟨[(4,dI i0)],[]⟩:St)) (nxT (LP193_0 xs) m K (s193_0 xs (wrap64 (i0+Z1)) ()))) (K (.exit 0) (⟨[],[]⟩:St))):=by kernel_rfl
theorem con193_ok:bt P 193 c193:=bA C193 func193 (kC con137_ok kN) fun args hp K h0=>by
 obtain⟨a0,a1,rfl,rfl,h1⟩:=bZ h0
 obtain⟨xs,rfl,h2⟩:=dx h1
 obtain⟨cs1,rfl,h3⟩:=cH h2
 obtain⟨rfl,h4⟩:=dJ h3
 obtain⟨h_xs,hK⟩:=h4
 have h:ok (F.ig xs) (fun r=>K (dI r) []):=aA (F.lG xs h_xs) hK
 refine⟨rfl,ann193,(L193 xs),(.dat aE),(bW (i0:=0) (by kernel_rfl) ?_),?_⟩
 ·rintro _ _ K ⟨hc0,i0,v0,rfl,hl0,rfl,hv0,h⟩
  exact cast (lvc193_0 _ _ _ _ _).symm (ct h (fun ht0 h=>⟨hl0,⟨ht0,(oC h (fun _ h=>h) fun _ h=>(aV (fun _ hm=>⟨hc0,hm⟩) _ rfl hl0 iR ht0 (bC h_xs) trivial h))⟩⟩) fun h=>(h trivial))
 ·rw[vc193]
  exact(bT (fun m hm=>⟨trivial,hm⟩) Z0 _ rfl (Int.natCast_nonneg 0) trivial (bn h (fun v0 h hv0=>h) (fun q0 h=>h)))
def c136:Con:=⟨[.lent ag,.any],fun args hp K=>args2 (fun a0 a1=>lF ag a0 fun xs=>jC 137 a1 (nj ((Sm TCS xs)/\K (dB (List.any xs (fun e=>!M.eZ e))) []))) args hp,.plain,false⟩
abbrev C136:Ctx:=cx [(137,c137),(193,c193)] 9 [] 0 false
def ann136:=an [[kp 3],[kp 16]] []
theorem vc136 (xs:LC) (K:KA):vcT C136 aB ann136 f136 [.brw ag xs,.fn 137 []] [] (.dat Ty.bool) K =
 ((Sm TCS xs)/\K (dB (decide (Z0<=(M.idx (t:=ag) (fun e=>!M.eZ e) xs)))) []):=by kernel_rfl
theorem con136_ok:bt P 136 c136:=bA C136 func136 (kC con137_ok (kC con193_ok kN)) fun args hp K h0=>by
 obtain⟨a0,a1,rfl,rfl,h1⟩:=bZ h0
 obtain⟨xs,rfl,h2⟩:=dx h1
 obtain⟨cs1,rfl,h3⟩:=cH h2
 obtain⟨rfl,h4⟩:=dJ h3
 obtain⟨h_xs,hK⟩:=h4
 have h:ok (F.eM xs) (fun r=>K (dB r) []):=aA (F.jU xs h_xs) hK
 refine⟨rfl,ann136,aB,(.dat Ty.bool),(aL (by kernel_rfl)),?_⟩
 ·rw[vc136]
  exact⟨h_xs,h⟩
def c75:Con:=⟨[.dat TCS],fun args hp K=>g1 (pD TCS) (fun LJ=>(Sm TCS LJ)/\K (dB (M.cm LJ)) []) args hp,.plain,false⟩
abbrev C75:Ctx:=cx [(136,c136)] 11 [] 0 false
def ann75:=an [[kp 1],[kp 4]] []
theorem vc75 (LJ:LC) (K:KA):vcT C75 aB ann75 f75 [.data TCS LJ] [] (.dat Ty.bool) K =
 (cond ((decide ((LJ.length:Int)<=Z4))==true) ((Sm TCS LJ)/\K (dB (!(List.any LJ (fun e=>!M.eZ e)))) []) (K (dB false) [])):=by kernel_rfl
theorem con75_ok:bt P 75 c75:=bA C75 func75 (kC con136_ok kN) fun args hp K h0=>by
 obtain⟨LJ,rfl,rfl,LP,hK⟩:=g1e h0
 have h:ok (F.mV LJ) (fun r=>K (dB r) []):=aA (F.uH LJ LP) hK
 refine⟨rfl,ann75,aB,(.dat Ty.bool),(aL (by kernel_rfl)),?_⟩
 ·rw[vc75]
  exact(oC h (fun _ h=>⟨LP,h⟩) fun _ h=>h)
def c211:Con:=⟨[.dat af],fun args hp K=>g1 (pD af) (fun v=>(Sm af v)/\K (dB (!M.aY v)) []) args hp,.plain,false⟩
abbrev C211:Ctx:=cx [(131,c131)] 6 [] 0 false
def ann211:=an [[.fixRow 1 af,kp 2],[kp 4]] []
theorem vc211 (v:af.D) (K:KA):vcT C211 aB ann211 f211 [.data af v] [] (.dat Ty.bool) K =
 ((Sm af v)/\K (dB (!(M.aY v))) []):=by kernel_rfl
theorem con211_ok:bt P 211 c211:=bA C211 func211 (kC con131_ok kN) fun args hp K h0=>by
 obtain⟨v,rfl,rfl,h_v,hK⟩:=g1e h0
 have h:ok (F.vc v) (fun r=>K (dB r) []):=aA (F.yo v h_v) hK
 refine⟨rfl,ann211,aB,(.dat Ty.bool),(aL (by kernel_rfl)),?_⟩
 ·rw[vc211]
  exact⟨h_v,h⟩
def c231:Con:=⟨[.lent af,.any],fun args hp K=>args2 (fun a0 a1=>lF af a0 fun xs=>jC 211 a1 (nj ((Sm TVS xs)/\K (dI (M.idx (t:=af) (fun e=>!M.aY e) xs)) []))) args hp,.plain,false⟩
abbrev C231:Ctx:=cx [(211,c211)] 19 [] 0 false
def ann231:=an [[kp 3],[kp 387],[kp 899],[kp 419],[kp 65955],[kp 16],[kp 387],[kp 16]] [[kp 0]]
abbrev s231_0 (xs:LV) (i0:Int) (v0:Unit):St:=⟨[(0,.brw af xs),(1,.fn 211 []),(7,dI (xs.length:Int)),(8,dI i0)],[]⟩
abbrev LP231_0 (xs:LV) (m:Nat) (st_:St) (K:KX):Prop:=True/\dc (s231_0 xs) Z0 (xs.length:Int) (F.dV xs) (fun v0:Unit=>True) (bz (fun v0:Unit=>True->K (.exit 0) (⟨[],[]⟩:St)) (fun q0:Int=>K .ret (⟨[(4,dI q0)],[]⟩:St))) m st_
def L231 (xs:LV):bK:=lp1 0 (LP231_0 xs)
theorem vc231 (xs:LV) (K:KA):vcT C231 (L231 xs) ann231 f231 [.brw af xs,.fn 211 []] [] (.dat aE) K =
 (∃m_,True/\dc (s231_0 xs) Z0 (xs.length:Int) (F.dV xs) (fun v0:Unit=>True) (bz (fun v0:Unit=>True->K (dI (-1:Int)) []) (fun q0:Int=>K (dI q0) [])) m_ (s231_0 xs Z0 ())):=by kernel_rfl
theorem lvc231_0 (xs:LV)  (i0:Int) (v0:Unit) (m:Nat) (K:KX):lvT C231 (L231 xs) ann231 f231 0 0 (s231_0 xs i0 v0) m K =
 (cond (decide (i0<(xs.length:Int))) ((0<=i0)/\(i0<(xs.length:Int))/\(Sm af (nV xs i0))/\cond (!M.aY (nV xs i0)) (K .ret (⟨[(4,dI i0)],[]⟩:St)) (nxT (LP231_0 xs) m K (s231_0 xs (wrap64 (i0+Z1)) ()))) (K (.exit 0) (⟨[],[]⟩:St))):=by kernel_rfl
theorem con231_ok:bt P 231 c231:=bA C231 func231 (kC con211_ok kN) fun args hp K h0=>by
 obtain⟨a0,a1,rfl,rfl,h1⟩:=bZ h0
 obtain⟨xs,rfl,h2⟩:=dx h1
 obtain⟨cs1,rfl,h3⟩:=cH h2
 obtain⟨rfl,h4⟩:=dJ h3
 obtain⟨h_xs,hK⟩:=h4
 have h:ok (F.jQ xs) (fun r=>K (dI r) []):=aA (F.nE xs h_xs) hK
 refine⟨rfl,ann231,(L231 xs),(.dat aE),(bW (i0:=0) (by kernel_rfl) ?_),?_⟩
 ·rintro _ _ K ⟨hc0,i0,v0,rfl,hl0,rfl,hv0,h⟩
  exact cast (lvc231_0 _ _ _ _ _).symm (ct h (fun ht0 h=>⟨hl0,⟨ht0,⟨(aO h_xs i0),(oC h (fun _ h=>h) fun _ h=>(aV (fun _ hm=>⟨hc0,hm⟩) _ rfl hl0 iR ht0 (bC h_xs) trivial h))⟩⟩⟩) fun h=>(h trivial))
 ·rw[vc231]
  exact(bT (fun m hm=>⟨trivial,hm⟩) Z0 _ rfl (Int.natCast_nonneg 0) trivial (bn h (fun v0 h hv0=>h) (fun q0 h=>h)))
def c199:Con:=⟨[.lent af,.any],fun args hp K=>args2 (fun a0 a1=>lF af a0 fun xs=>jC 211 a1 (nj ((Sm TVS xs)/\K (dB (List.any xs (fun e=>!M.aY e))) []))) args hp,.plain,false⟩
abbrev C199:Ctx:=cx [(211,c211),(231,c231)] 9 [] 0 false
def ann199:=an [[kp 3],[kp 16]] []
theorem vc199 (xs:LV) (K:KA):vcT C199 aB ann199 f199 [.brw af xs,.fn 211 []] [] (.dat Ty.bool) K =
 ((Sm TVS xs)/\K (dB (decide (Z0<=(M.idx (t:=af) (fun e=>!M.aY e) xs)))) []):=by kernel_rfl
theorem con199_ok:bt P 199 c199:=bA C199 func199 (kC con211_ok (kC con231_ok kN)) fun args hp K h0=>by
 obtain⟨a0,a1,rfl,rfl,h1⟩:=bZ h0
 obtain⟨xs,rfl,h2⟩:=dx h1
 obtain⟨cs1,rfl,h3⟩:=cH h2
 obtain⟨rfl,h4⟩:=dJ h3
 obtain⟨h_xs,hK⟩:=h4
 have h:ok (F.fA xs) (fun r=>K (dB r) []):=aA (F.lK xs h_xs) hK
 refine⟨rfl,ann199,aB,(.dat Ty.bool),(aL (by kernel_rfl)),?_⟩
 ·rw[vc199]
  exact⟨h_xs,h⟩
def c168:Con:=⟨[.dat TVS],fun args hp K=>g1 (pD TVS) (fun row=>(Sm TVS row)/\K (dB (M.zU row)) []) args hp,.plain,false⟩
abbrev C168:Ctx:=cx [(199,c199)] 11 [] 0 false
def ann168:=an [[kp 1],[kp 4]] []
theorem vc168 (row:LV) (K:KA):vcT C168 aB ann168 f168 [.data TVS row] [] (.dat Ty.bool) K =
 (cond ((decide ((row.length:Int)<=Z4))==true) ((Sm TVS row)/\K (dB (!(List.any row (fun e=>!M.aY e)))) []) (K (dB false) [])):=by kernel_rfl
theorem con168_ok:bt P 168 c168:=bA C168 func168 (kC con199_ok kN) fun args hp K h0=>by
 obtain⟨row,rfl,rfl,h_row,hK⟩:=g1e h0
 have h:ok (F.ux row) (fun r=>K (dB r) []):=aA (F.AN row h_row) hK
 refine⟨rfl,ann168,aB,(.dat Ty.bool),(aL (by kernel_rfl)),?_⟩
 ·rw[vc168]
  exact(oC h (fun _ h=>⟨h_row,h⟩) fun _ h=>h)
def c100:Con:=⟨[.dat TCS,.dat TVS],fun args hp K=>g2 (pD TCS) (pD TVS) (fun LJ row=>(Sm TCS LJ)/\(Sm TVS row)/\K (dB (M.cA LJ row)) []) args hp,.plain,false⟩
abbrev C100:Ctx:=cx [(75,c75),(168,c168)] 51 [] 0 false
def ann100:=an [[kp 3],[kp 2097155],[kp 16],[kp 29360129],[kp 62914561],[.fixRow 6 af,kp 29360225],[kp 562949982781441],[kp 16],[kp 29360129],[kp 16]] [[kp 0]]
abbrev s100_0 (LJ:LC) (row:LV) (i0:Int) (v0:Unit):St:=⟨[(0,.data TCS LJ),(22,.data TVS row),(23,dI (row.length:Int)),(24,dI i0)],[]⟩
abbrev LP100_0 (LJ:LC) (row:LV) (m:Nat) (st_:St) (K:KX):Prop:=True/\dc (s100_0 LJ row) Z0 (row.length:Int) (F.js LJ row) (fun v0:Unit=>True) (bz (fun v0:Unit=>True->K (.exit 0) (⟨[],[]⟩:St)) (fun q0:Unit=>K .ret (⟨[(4,dB false)],[]⟩:St))) m st_
def L100 (LJ:LC) (row:LV):bK:=lp1 0 (LP100_0 LJ row)
theorem vc100 (LJ:LC) (row:LV) (K:KA):vcT C100 (L100 LJ row) ann100 f100 [.data TCS LJ,.data TVS row] [] (.dat Ty.bool) K =
 ((Sm TCS LJ)/\cond ((!(M.cm LJ))==false) ((Sm TVS row)/\cond ((!(M.zU row))==false) (cond (!decide ((row.length:Int)=(LJ.length:Int))) (K (dB false) []) (∃m_,True/\dc (s100_0 LJ row) Z0 (row.length:Int) (F.js LJ row) (fun v0:Unit=>True) (bz (fun v0:Unit=>True->K (dB true) []) (fun q0:Unit=>K (dB false) [])) m_ (s100_0 LJ row Z0 ()))) (K (dB false) [])) (K (dB false) [])):=by kernel_rfl
theorem lvc100_0 (LJ:LC) (row:LV)  (i0:Int) (v0:Unit) (m:Nat) (K:KX):lvT C100 (L100 LJ row) ann100 f100 0 0 (s100_0 LJ row i0 v0) m K =
 (cond (decide (i0<(row.length:Int))) ((0<=i0)/\(i0<(row.length:Int))/\(0<=i0)/\(i0<(LJ.length:Int))/\cond ((!decide ((nV row i0).1=(nC LJ i0).1))==true) (cond ((!decide ((nV row i0).1=Z0))==false) ((0<=i0)/\(i0<(LJ.length:Int))/\cond (!(nC LJ i0).2.1) (K .ret (⟨[(4,dB false)],[]⟩:St)) (nxT (LP100_0 LJ row) m K (s100_0 LJ row (wrap64 (i0+Z1)) ()))) (K .ret (⟨[(4,dB false)],[]⟩:St))) (nxT (LP100_0 LJ row) m K (s100_0 LJ row (wrap64 (i0+Z1)) ()))) (K (.exit 0) (⟨[],[]⟩:St))):=by kernel_rfl
theorem con100_ok:bt P 100 c100:=bA C100 func100 (kC con75_ok (kC con168_ok kN)) fun args hp K h0=>by
 obtain⟨LJ,row,rfl,rfl,LP,h_row,hK⟩:=g2e h0
 have h:ok (F.qM LJ row) (fun r=>K (dB r) []):=aA (F.yC LJ row LP h_row) hK
 refine⟨rfl,ann100,(L100 LJ row),(.dat Ty.bool),(bW (i0:=0) (by kernel_rfl) ?_),?_⟩
 ·rintro _ _ K ⟨hc0,i0,v0,rfl,hl0,rfl,hv0,h⟩
  exact cast (lvc100_0 _ _ _ _ _ _).symm (ct h (fun ht0 h=>⟨hl0,⟨ht0,⟨hl0,(oG h fun g1 h=>(oC h (fun _ h=>(oC h (fun _ h=>⟨hl0,⟨g1,(oC h (fun _ h=>h) fun _ h=>(aV (fun _ hm=>⟨hc0,hm⟩) _ rfl hl0 iR ht0 (bC h_row) trivial h))⟩⟩) fun _ h=>h)) fun _ h=>(aV (fun _ hm=>⟨hc0,hm⟩) _ rfl hl0 iR ht0 (bC h_row) trivial h)))⟩⟩⟩) fun h=>(h trivial))
 ·rw[vc100]
  exact⟨LP,(oC h (fun _ h=>⟨h_row,(oC h (fun _ h=>(oC h (fun _ h=>h) fun _ h=>(bT (fun m hm=>⟨trivial,hm⟩) Z0 _ rfl (Int.natCast_nonneg 0) trivial (bn h (fun v0 h hv0=>h) (fun q0 h=>h))))) fun _ h=>h)⟩) fun _ h=>h)⟩
def c139:Con:=⟨[.dat TVS,.any],fun args hp K=>g2 (pD TVS) (pR TCS) (fun r LJ=>(Sm TVS r)/\(Sm TCS LJ)/\K (dB (!M.cA LJ r)) []) args hp,.plain,false⟩
abbrev C139:Ctx:=cx [(100,c100)] 8 [] 0 false
def ann139:=an [[kp 3],[kp 8]] []
theorem vc139 (r:LV) (LJ:LC) (K:KA):vcT C139 aB ann139 f139 [.data TVS r,.ref (.data TCS LJ)] [] (.dat Ty.bool) K =
 ((Sm TCS LJ)/\(Sm TVS r)/\K (dB (!(M.cA LJ r))) []):=by kernel_rfl
theorem con139_ok:bt P 139 c139:=bA C139 func139 (kC con100_ok kN) fun args hp K h0=>by
 obtain⟨r,LJ,rfl,rfl,h_r,LP,hK⟩:=g2e h0
 have h:ok (F.tw r LJ) (fun r=>K (dB r) []):=aA (F.wB r LJ h_r LP) hK
 refine⟨rfl,ann139,aB,(.dat Ty.bool),(aL (by kernel_rfl)),?_⟩
 ·rw[vc139]
  exact⟨LP,⟨h_r,h⟩⟩
def c158:Con:=⟨[.lent af,.lent af],fun args hp K=>g2 (pB af) (pB af) (fun xs ys=>(Sm TVS xs)/\(Sm TVS ys)/\K (dB (decide (xs=ys))) []) args hp,.plain,false⟩
abbrev C158:Ctx:=cx [] 26 [] 0 false
def ann158:=an [[kp 3],[kp 1027],[kp 16],[kp 12291],[kp 28675],[kp 12323],[kp 16789507],[kp 16],[kp 12291],[kp 16]] [[kp 0]]
abbrev s158_0 (xs:LV) (ys:LV) (i0:Int) (v0:Unit):St:=⟨[(0,.brw af xs),(1,.brw af ys),(12,dI (xs.length:Int)),(13,dI i0)],[]⟩
abbrev LP158_0 (xs:LV) (ys:LV) (m:Nat) (st_:St) (K:KX):Prop:=True/\dc (s158_0 xs ys) Z0 (xs.length:Int) (F.jm xs ys) (fun v0:Unit=>True) (bz (fun v0:Unit=>True->K (.exit 0) (⟨[],[]⟩:St)) (fun q0:Unit=>K .ret (⟨[(4,dB false)],[]⟩:St))) m st_
def L158 (xs:LV) (ys:LV):bK:=lp1 0 (LP158_0 xs ys)
theorem vc158 (xs:LV) (ys:LV) (K:KA):vcT C158 (L158 xs ys) ann158 f158 [.brw af xs,.brw af ys] [] (.dat Ty.bool) K =
 (cond (!decide ((xs.length:Int)=(ys.length:Int))) (K (dB false) []) (∃m_,True/\dc (s158_0 xs ys) Z0 (xs.length:Int) (F.jm xs ys) (fun v0:Unit=>True) (bz (fun v0:Unit=>True->K (dB true) []) (fun q0:Unit=>K (dB false) [])) m_ (s158_0 xs ys Z0 ()))):=by kernel_rfl
theorem lvc158_0 (xs:LV) (ys:LV)  (i0:Int) (v0:Unit) (m:Nat) (K:KX):lvT C158 (L158 xs ys) ann158 f158 0 0 (s158_0 xs ys i0 v0) m K =
 (cond (decide (i0<(xs.length:Int))) ((0<=i0)/\(i0<(xs.length:Int))/\(0<=i0)/\(i0<(ys.length:Int))/\cond (!(Ty.beq af (nV xs i0) (nV ys i0))) (K .ret (⟨[(4,dB false)],[]⟩:St)) (nxT (LP158_0 xs ys) m K (s158_0 xs ys (wrap64 (i0+Z1)) ()))) (K (.exit 0) (⟨[],[]⟩:St))):=by kernel_rfl
theorem con158_ok:bt P 158 c158:=bA C158 func158 kN fun args hp K h0=>by
 obtain⟨xs,ys,rfl,rfl,h_xs,h_ys,hK⟩:=g2e h0
 have h:ok (F.vF xs ys) (fun r=>K (dB r) []):=aA (F.yM xs ys h_xs h_ys) hK
 refine⟨rfl,ann158,(L158 xs ys),(.dat Ty.bool),(bW (i0:=0) (by kernel_rfl) ?_),?_⟩
 ·rintro _ _ K ⟨hc0,i0,v0,rfl,hl0,rfl,hv0,h⟩
  exact cast (lvc158_0 _ _ _ _ _ _).symm (ct h (fun ht0 h=>⟨hl0,⟨ht0,⟨hl0,(oG h fun _ h=>(oC h (fun _ h=>h) fun _ h=>(aV (fun _ hm=>⟨hc0,hm⟩) _ rfl hl0 iR ht0 (bC h_xs) trivial h)))⟩⟩⟩) fun h=>(h trivial))
 ·rw[vc158]
  exact(oC h (fun _ h=>h) fun _ h=>(bT (fun m hm=>⟨trivial,hm⟩) Z0 _ rfl (Int.natCast_nonneg 0) trivial (bn h (fun v0 h hv0=>h) (fun q0 h=>h))))
def c191:Con:=⟨[.dat TVS,.any],fun args hp K=>g2 (pD TVS) (pR TVS) (fun r row=>(Sm TVS r)/\(Sm TVS row)/\K (dB (decide (r=row))) []) args hp,.plain,false⟩
abbrev C191:Ctx:=cx [(158,c158)] 7 [] 0 false
def ann191:=an [[kp 3],[kp 8]] []
theorem vc191 (r:LV) (row:LV) (K:KA):vcT C191 aB ann191 f191 [.data TVS r,.ref (.data TVS row)] [] (.dat Ty.bool) K =
 ((Sm TVS r)/\(Sm TVS row)/\K (dB (decide (r=row))) []):=by kernel_rfl
theorem con191_ok:bt P 191 c191:=bA C191 func191 (kC con158_ok kN) fun args hp K h0=>by
 obtain⟨r,row,rfl,rfl,h_r,h_row,hK⟩:=g2e h0
 have h:ok (F.vt r row) (fun r=>K (dB r) []):=aA (F.yF r row h_r h_row) hK
 refine⟨rfl,ann191,aB,(.dat Ty.bool),(aL (by kernel_rfl)),?_⟩
 ·rw[vc191]
  exact⟨h_r,⟨h_row,h⟩⟩
def c190:Con:=⟨[.lent TVS,.any],fun args hp K=>(args2 (fun a0 a1=>lF TVS a0 fun xs=>jC 191 a1 (zM (fun b1_0=>xC TVS b1_0 fun k0=>(Sm (Ty.sl TVS) xs)/\(Sm TVS k0)/\K (dI (M.idx (t:=TVS) (fun e=>decide (e=k0)) xs)) []))) args hp)\/(args2 (fun a0 a1=>lF TVS a0 fun xs=>jC 139 a1 (zM (fun b1_0=>xC TCS b1_0 fun k0=>(Sm (Ty.sl TVS) xs)/\(Sm TCS k0)/\K (dI (M.idx (t:=TVS) (fun e=>!M.cA k0 e) xs)) []))) args hp),.plain,false⟩
abbrev C190:Ctx:=cx [(139,c139),(191,c191)] 19 [] 0 false
def ann190_v0:=an [[kp 3],[kp 387],[kp 899],[kp 419],[kp 65955],[kp 16],[kp 387],[kp 16]] [[kp 0]]
abbrev s190_0_v0 (xs:(List LV)) (k0:LV) (i0:Int) (v0:Unit):St:=⟨[(0,.brw TVS xs),(1,.fn 191 [.ref (.data TVS k0)]),(7,dI (xs.length:Int)),(8,dI i0)],[]⟩
abbrev LP190_0_v0 (xs:(List LV)) (k0:LV) (m:Nat) (st_:St) (K:KX):Prop:=True/\dc (s190_0_v0 xs k0) Z0 (xs.length:Int) (F.dX xs k0) (fun v0:Unit=>True) (bz (fun v0:Unit=>True->K (.exit 0) (⟨[],[]⟩:St)) (fun q0:Int=>K .ret (⟨[(4,dI q0)],[]⟩:St))) m st_
def L190_v0 (xs:(List LV)) (k0:LV):bK:=lp1 0 (LP190_0_v0 xs k0)
theorem vc190_v0 (xs:(List LV)) (k0:LV) (K:KA):vcT C190 (L190_v0 xs k0) ann190_v0 f190 [.brw TVS xs,.fn 191 [.ref (.data TVS k0)]] [] (.dat aE) K =
 (∃m_,True/\dc (s190_0_v0 xs k0) Z0 (xs.length:Int) (F.dX xs k0) (fun v0:Unit=>True) (bz (fun v0:Unit=>True->K (dI (-1:Int)) []) (fun q0:Int=>K (dI q0) [])) m_ (s190_0_v0 xs k0 Z0 ())):=by kernel_rfl
theorem lvc190_0_v0 (xs:(List LV)) (k0:LV)  (i0:Int) (v0:Unit) (m:Nat) (K:KX):lvT C190 (L190_v0 xs k0) ann190_v0 f190 0 0 (s190_0_v0 xs k0 i0 v0) m K =
 (cond (decide (i0<(xs.length:Int))) ((0<=i0)/\(i0<(xs.length:Int))/\(Sm TVS (@nth TVS xs i0))/\(Sm TVS k0)/\cond (decide ((@nth TVS xs i0)=k0)) (K .ret (⟨[(4,dI i0)],[]⟩:St)) (nxT (LP190_0_v0 xs k0) m K (s190_0_v0 xs k0 (wrap64 (i0+Z1)) ()))) (K (.exit 0) (⟨[],[]⟩:St))):=by kernel_rfl
def ann190_v1:=an [[kp 3],[kp 387],[kp 899],[kp 419],[kp 65955],[kp 16],[kp 387],[kp 16]] [[kp 0]]
abbrev s190_0_v1 (xs:(List LV)) (k0:LC) (i0:Int) (v0:Unit):St:=⟨[(0,.brw TVS xs),(1,.fn 139 [.ref (.data TCS k0)]),(7,dI (xs.length:Int)),(8,dI i0)],[]⟩
abbrev LP190_0_v1 (xs:(List LV)) (k0:LC) (m:Nat) (st_:St) (K:KX):Prop:=True/\dc (s190_0_v1 xs k0) Z0 (xs.length:Int) (F.dN xs k0) (fun v0:Unit=>True) (bz (fun v0:Unit=>True->K (.exit 0) (⟨[],[]⟩:St)) (fun q0:Int=>K .ret (⟨[(4,dI q0)],[]⟩:St))) m st_
def L190_v1 (xs:(List LV)) (k0:LC):bK:=lp1 0 (LP190_0_v1 xs k0)
theorem vc190_v1 (xs:(List LV)) (k0:LC) (K:KA):vcT C190 (L190_v1 xs k0) ann190_v1 f190 [.brw TVS xs,.fn 139 [.ref (.data TCS k0)]] [] (.dat aE) K =
 (∃m_,True/\dc (s190_0_v1 xs k0) Z0 (xs.length:Int) (F.dN xs k0) (fun v0:Unit=>True) (bz (fun v0:Unit=>True->K (dI (-1:Int)) []) (fun q0:Int=>K (dI q0) [])) m_ (s190_0_v1 xs k0 Z0 ())):=by kernel_rfl
theorem lvc190_0_v1 (xs:(List LV)) (k0:LC)  (i0:Int) (v0:Unit) (m:Nat) (K:KX):lvT C190 (L190_v1 xs k0) ann190_v1 f190 0 0 (s190_0_v1 xs k0 i0 v0) m K =
 (cond (decide (i0<(xs.length:Int))) ((0<=i0)/\(i0<(xs.length:Int))/\(Sm TVS (@nth TVS xs i0))/\(Sm TCS k0)/\cond (!M.cA k0 (@nth TVS xs i0)) (K .ret (⟨[(4,dI i0)],[]⟩:St)) (nxT (LP190_0_v1 xs k0) m K (s190_0_v1 xs k0 (wrap64 (i0+Z1)) ()))) (K (.exit 0) (⟨[],[]⟩:St))):=by kernel_rfl
theorem con190_ok:bt P 190 c190:=bA C190 func190 (kC con139_ok (kC con191_ok kN)) fun args hp K h0=>by
 rcases h0 with h0 | h0
 ·obtain⟨a0,a1,rfl,rfl,h1⟩:=bZ h0
  obtain⟨xs,rfl,h2⟩:=dx h1
  obtain⟨cs1,rfl,h3⟩:=cH h2
  obtain⟨b1_0,rfl,h4⟩:=nA h3
  obtain⟨k0,rfl,h5⟩:=kz h4
  obtain⟨h_xs,h_k0,hK⟩:=h5
  have h:ok (F.jN xs k0) (fun r=>K (dI r) []):=aA (F.nJ xs k0 h_xs h_k0) hK
  refine⟨rfl,ann190_v0,(L190_v0 xs k0),(.dat aE),(bW (i0:=0) (by kernel_rfl) ?_),?_⟩
  ·rintro _ _ K ⟨hc0,i0,v0,rfl,hl0,rfl,hv0,h⟩
   exact cast (lvc190_0_v0 _ _ _ _ _ _).symm (ct h (fun ht0 h=>⟨hl0,⟨ht0,⟨(aO h_xs i0),⟨h_k0,(oC h (fun _ h=>h) fun _ h=>(aV (fun _ hm=>⟨hc0,hm⟩) _ rfl hl0 iR ht0 (bC h_xs) trivial h))⟩⟩⟩⟩) fun h=>(h trivial))
  ·rw[vc190_v0]
   exact(bT (fun m hm=>⟨trivial,hm⟩) Z0 _ rfl (Int.natCast_nonneg 0) trivial (bn h (fun v0 h hv0=>h) (fun q0 h=>h)))
 ·obtain⟨a0,a1,rfl,rfl,h1⟩:=bZ h0
  obtain⟨xs,rfl,h2⟩:=dx h1
  obtain⟨cs1,rfl,h3⟩:=cH h2
  obtain⟨b1_0,rfl,h4⟩:=nA h3
  obtain⟨k0,rfl,h5⟩:=kz h4
  obtain⟨h_xs,h_k0,hK⟩:=h5
  have h:ok (F.jG xs k0) (fun r=>K (dI r) []):=aA (F.mN xs k0 h_xs h_k0) hK
  refine⟨rfl,ann190_v1,(L190_v1 xs k0),(.dat aE),(bW (i0:=0) (by kernel_rfl) ?_),?_⟩
  ·rintro _ _ K ⟨hc0,i0,v0,rfl,hl0,rfl,hv0,h⟩
   exact cast (lvc190_0_v1 _ _ _ _ _ _).symm (ct h (fun ht0 h=>⟨hl0,⟨ht0,⟨(aO h_xs i0),⟨h_k0,(oC h (fun _ h=>h) fun _ h=>(aV (fun _ hm=>⟨hc0,hm⟩) _ rfl hl0 iR ht0 (bC h_xs) trivial h))⟩⟩⟩⟩) fun h=>(h trivial))
  ·rw[vc190_v1]
   exact(bT (fun m hm=>⟨trivial,hm⟩) Z0 _ rfl (Int.natCast_nonneg 0) trivial (bn h (fun v0 h hv0=>h) (fun q0 h=>h)))
def c138:Con:=⟨[.lent TVS,.any],fun args hp K=>args2 (fun a0 a1=>lF TVS a0 fun xs=>jC 139 a1 (zM (fun b1_0=>xC TCS b1_0 fun k0=>(Sm (Ty.sl TVS) xs)/\(Sm TCS k0)/\K (dB (List.any xs (fun e=>!M.cA k0 e))) []))) args hp,.plain,false⟩
abbrev C138:Ctx:=cx [(139,c139),(190,c190)] 9 [] 0 false
def ann138:=an [[kp 3],[kp 16]] []
theorem vc138 (xs:(List LV)) (k0:LC) (K:KA):vcT C138 aB ann138 f138 [.brw TVS xs,.fn 139 [.ref (.data TCS k0)]] [] (.dat Ty.bool) K =
 (False\/((Sm (Ty.sl TVS) xs)/\(Sm TCS k0)/\K (dB (decide (Z0<=(M.idx (t:=TVS) (fun e=>!M.cA k0 e) xs)))) [])):=by kernel_rfl
theorem con138_ok:bt P 138 c138:=bA C138 func138 (kC con139_ok (kC con190_ok kN)) fun args hp K h0=>by
 obtain⟨a0,a1,rfl,rfl,h1⟩:=bZ h0
 obtain⟨xs,rfl,h2⟩:=dx h1
 obtain⟨cs1,rfl,h3⟩:=cH h2
 obtain⟨b1_0,rfl,h4⟩:=nA h3
 obtain⟨k0,rfl,h5⟩:=kz h4
 obtain⟨h_xs,h_k0,hK⟩:=h5
 have h:ok (F.fj xs k0) (fun r=>K (dB r) []):=aA (F.lA xs k0 h_xs h_k0) hK
 refine⟨rfl,ann138,aB,(.dat Ty.bool),(aL (by kernel_rfl)),?_⟩
 ·rw[vc138]
  exact(Or.inr (⟨h_xs,⟨h_k0,h⟩⟩))
def c76:Con:=⟨[.dat TCS,.dat (Ty.sl TVS)],fun args hp K=>g2 (pD TCS) (pD (Ty.sl TVS)) (fun LJ rows=>(Sm TCS LJ)/\(Sm (Ty.sl TVS) rows)/\K (dB (M.jV LJ rows)) []) args hp,.plain,false⟩
abbrev C76:Ctx:=cx [(75,c75),(138,c138),(139,c139)] 13 [] 0 false
def ann76:=an [[.fixBox 2,kp 6],[kp 16]] []
theorem vc76 (LJ:LC) (rows:(List LV)) (K:KA):vcT C76 aB ann76 f76 [.data TCS LJ,.data (Ty.sl TVS) rows] [] (.dat Ty.bool) K =
 ((Sm TCS LJ)/\cond ((M.cm LJ)==true) ((Sm (Ty.sl TVS) rows)/\(Sm TCS LJ)/\K (dB (!(List.any rows (fun e=>!M.cA LJ e)))) []) (K (dB false) [])):=by kernel_rfl
theorem con76_ok:bt P 76 c76:=bA C76 func76 (kC con75_ok (kC con138_ok (kC con139_ok kN))) fun args hp K h0=>by
 obtain⟨LJ,rows,rfl,rfl,LP,h_rows,hK⟩:=g2e h0
 have h:ok (F.rV LJ rows) (fun r=>K (dB r) []):=aA (F.ze LJ rows LP h_rows) hK
 refine⟨rfl,ann76,aB,(.dat Ty.bool),(aL (by kernel_rfl)),?_⟩
 ·rw[vc76]
  exact⟨LP,(oC h (fun _ h=>⟨h_rows,⟨LP,h⟩⟩) fun _ h=>h)⟩
def c74:Con:=⟨[.dat ai],fun args hp K=>g1 (pD ai) (fun t=>(Sm ai t)/\K (dB (!M.dU t)) []) args hp,.plain,false⟩
abbrev C74:Ctx:=cx [(75,c75),(76,c76)] 21 [] 0 false
def ann74:=an [[.fixRow 1 ai,kp 2],[kp 4]] []
theorem vc74 (t:ai.D) (K:KA):vcT C74 aB ann74 f74 [.data ai t] [] (.dat Ty.bool) K =
 ((Sm TCS t.1)/\cond ((!(M.cm t.1))==false) (cond ((decide (Z6<(t.2.1.length:Int)))==false) ((Sm TCS t.1)/\(Sm (Ty.sl TVS) t.2.1)/\K (dB (!(M.jV t.1 t.2.1))) []) (K (dB true) [])) (K (dB true) [])):=by kernel_rfl
theorem con74_ok:bt P 74 c74:=bA C74 func74 (kC con75_ok (kC con76_ok kN)) fun args hp K h0=>by
 obtain⟨t,rfl,rfl,h_t,hK⟩:=g1e h0
 have h:ok (F.lW t) (fun r=>K (dB r) []):=aA (F.uu t h_t) hK
 refine⟨rfl,ann74,aB,(.dat Ty.bool),(aL (by kernel_rfl)),?_⟩
 ·rw[vc74]
  exact⟨h_t.1,(oC h (fun _ h=>(oC h (fun _ h=>⟨h_t.1,⟨h_t.2.1,h⟩⟩) fun _ h=>h)) fun _ h=>h)⟩
def c135:Con:=⟨[.lent ai,.any],fun args hp K=>args2 (fun a0 a1=>lF ai a0 fun xs=>jC 74 a1 (nj ((Sm TTb xs)/\K (dI (M.idx (t:=ai) (fun e=>!M.dU e) xs)) []))) args hp,.plain,false⟩
abbrev C135:Ctx:=cx [(74,c74)] 19 [] 0 false
def ann135:=an [[kp 3],[kp 387],[kp 899],[kp 419],[kp 65955],[kp 16],[kp 387],[kp 16]] [[kp 0]]
abbrev s135_0 (xs:LTb) (i0:Int) (v0:Unit):St:=⟨[(0,.brw ai xs),(1,.fn 74 []),(7,dI (xs.length:Int)),(8,dI i0)],[]⟩
abbrev LP135_0 (xs:LTb) (m:Nat) (st_:St) (K:KX):Prop:=True/\dc (s135_0 xs) Z0 (xs.length:Int) (F.di xs) (fun v0:Unit=>True) (bz (fun v0:Unit=>True->K (.exit 0) (⟨[],[]⟩:St)) (fun q0:Int=>K .ret (⟨[(4,dI q0)],[]⟩:St))) m st_
def L135 (xs:LTb):bK:=lp1 0 (LP135_0 xs)
theorem vc135 (xs:LTb) (K:KA):vcT C135 (L135 xs) ann135 f135 [.brw ai xs,.fn 74 []] [] (.dat aE) K =
 (∃m_,True/\dc (s135_0 xs) Z0 (xs.length:Int) (F.di xs) (fun v0:Unit=>True) (bz (fun v0:Unit=>True->K (dI (-1:Int)) []) (fun q0:Int=>K (dI q0) [])) m_ (s135_0 xs Z0 ())):=by kernel_rfl
theorem lvc135_0 (xs:LTb)  (i0:Int) (v0:Unit) (m:Nat) (K:KX):lvT C135 (L135 xs) ann135 f135 0 0 (s135_0 xs i0 v0) m K =
 (cond (decide (i0<(xs.length:Int))) ((0<=i0)/\(i0<(xs.length:Int))/\(Sm ai (nT xs i0))/\cond (!M.dU (nT xs i0)) (K .ret (⟨[(4,dI i0)],[]⟩:St)) (nxT (LP135_0 xs) m K (s135_0 xs (wrap64 (i0+Z1)) ()))) (K (.exit 0) (⟨[],[]⟩:St))):=by kernel_rfl
theorem con135_ok:bt P 135 c135:=bA C135 func135 (kC con74_ok kN) fun args hp K h0=>by
 obtain⟨a0,a1,rfl,rfl,h1⟩:=bZ h0
 obtain⟨xs,rfl,h2⟩:=dx h1
 obtain⟨cs1,rfl,h3⟩:=cH h2
 obtain⟨rfl,h4⟩:=dJ h3
 obtain⟨h_xs,hK⟩:=h4
 have h:ok (F.iX xs) (fun r=>K (dI r) []):=aA (F.lQ xs h_xs) hK
 refine⟨rfl,ann135,(L135 xs),(.dat aE),(bW (i0:=0) (by kernel_rfl) ?_),?_⟩
 ·rintro _ _ K ⟨hc0,i0,v0,rfl,hl0,rfl,hv0,h⟩
  exact cast (lvc135_0 _ _ _ _ _).symm (ct h (fun ht0 h=>⟨hl0,⟨ht0,⟨(aO h_xs i0),(oC h (fun _ h=>h) fun _ h=>(aV (fun _ hm=>⟨hc0,hm⟩) _ rfl hl0 iR ht0 (bC h_xs) trivial h))⟩⟩⟩) fun h=>(h trivial))
 ·rw[vc135]
  exact(bT (fun m hm=>⟨trivial,hm⟩) Z0 _ rfl (Int.natCast_nonneg 0) trivial (bn h (fun v0 h hv0=>h) (fun q0 h=>h)))
def c73:Con:=⟨[.lent ai,.any],fun args hp K=>args2 (fun a0 a1=>lF ai a0 fun xs=>jC 74 a1 (nj ((Sm TTb xs)/\K (dB (List.any xs (fun e=>!M.dU e))) []))) args hp,.plain,false⟩
abbrev C73:Ctx:=cx [(74,c74),(135,c135)] 9 [] 0 false
def ann73:=an [[kp 3],[kp 16]] []
theorem vc73 (xs:LTb) (K:KA):vcT C73 aB ann73 f73 [.brw ai xs,.fn 74 []] [] (.dat Ty.bool) K =
 ((Sm TTb xs)/\K (dB (decide (Z0<=(M.idx (t:=ai) (fun e=>!M.dU e) xs)))) []):=by kernel_rfl
theorem con73_ok:bt P 73 c73:=bA C73 func73 (kC con74_ok (kC con135_ok kN)) fun args hp K h0=>by
 obtain⟨a0,a1,rfl,rfl,h1⟩:=bZ h0
 obtain⟨xs,rfl,h2⟩:=dx h1
 obtain⟨cs1,rfl,h3⟩:=cH h2
 obtain⟨rfl,h4⟩:=dJ h3
 obtain⟨h_xs,hK⟩:=h4
 have h:ok (F.eT xs) (fun r=>K (dB r) []):=aA (F.kf xs h_xs) hK
 refine⟨rfl,ann73,aB,(.dat Ty.bool),(aL (by kernel_rfl)),?_⟩
 ·rw[vc73]
  exact⟨h_xs,h⟩
def c28:Con:=⟨[.dat TTb],fun args hp K=>g1 (pD TTb) (fun LK=>(Sm TTb LK)/\K (dB (M.bw LK)) []) args hp,.plain,false⟩
abbrev C28:Ctx:=cx [(73,c73)] 11 [] 0 false
def ann28:=an [[kp 1],[kp 4]] []
theorem vc28 (LK:LTb) (K:KA):vcT C28 aB ann28 f28 [.data TTb LK] [] (.dat Ty.bool) K =
 (cond ((decide ((LK.length:Int)<=Z3))==true) ((Sm TTb LK)/\K (dB (!(List.any LK (fun e=>!M.dU e)))) []) (K (dB false) [])):=by kernel_rfl
theorem con28_ok:bt P 28 c28:=bA C28 func28 (kC con73_ok kN) fun args hp K h0=>by
 obtain⟨LK,rfl,rfl,LO,hK⟩:=g1e h0
 have h:ok (F.oS LK) (fun r=>K (dB r) []):=aA (F.vZ LK LO) hK
 refine⟨rfl,ann28,aB,(.dat Ty.bool),(aL (by kernel_rfl)),?_⟩
 ·rw[vc28]
  exact(oC h (fun _ h=>⟨LO,h⟩) fun _ h=>h)
def c165:Con:=⟨[.dat aD],fun args hp K=>g1 (pD aD) (fun p=>(Sm aD p)/\K (dI (M.takes p)) []) args hp,.plain,false⟩
abbrev C165:Ctx:=cx [] 13 [] 0 false
def ann165:=an [[.fixRow 1 aD,kp 2],[kp 16],[kp 48],[kp 48],[kp 48],[kp 48],[kp 4],[kp 1040],[kp 1024],[kp 4],[kp 4]] []
abbrev S165_0 (p:aD.D) (K:KA):Prop:=cond (decide (p.1=(7:Int))) (cond (decide (p.1=(7:Int))) (K (dI Z1) []) (K (dI Z0) [])) (cond (decide (p.1=(8:Int))) (K (dI Z1) []) (K (dI Z0) []))
theorem vc165 (p:aD.D) (K:KA):vcT C165 aB ann165 f165 [.data aD p] [] (.dat aE) K =
 (cond (decide (p.1=Z3)) (cond (decide (p.1=Z3)) (K (dI Z2) []) (S165_0 p K)) (cond (decide (p.1=Z4)) (cond (decide (p.1=Z4)) (K (dI Z2) []) (S165_0 p K)) (cond (decide (p.1=Z5)) (cond (decide (p.1=Z5)) (K (dI Z2) []) (S165_0 p K)) (cond (decide (p.1=Z6)) (K (dI Z2) []) (S165_0 p K))))):=by kernel_rfl
theorem con165_ok:bt P 165 c165:=bA C165 func165 kN fun args hp K h0=>by
 obtain⟨p,rfl,rfl,h_p,hK⟩:=g1e h0
 have h:ok (F.mb p) (fun r=>K (dI r) []):=aA (F.tK p h_p) hK
 refine⟨rfl,ann165,aB,(.dat aE),(aL (by kernel_rfl)),?_⟩
 ·rw[vc165]
  exact(oC h (fun b_1 h=>(bO b_1 h)) fun _ h=>(oC h (fun b_6 h=>(bO b_6 h)) fun _ h=>(oC h (fun b_8 h=>(bO b_8 h)) fun _ h=>(oC h (fun _ h=>h) fun _ h=>(oC h (fun b_11 h=>(bO b_11 h)) fun _ h=>(oC h (fun _ h=>h) fun _ h=>h))))))
def c166:Con:=⟨[.dat aD,.dat TCS],fun args hp K=>g2 (pD aD) (pD TCS) (fun p LJ=>(Sm aD p)/\(Sm TCS LJ)/\K (dB (M.mg p LJ)) []) args hp,.plain,false⟩
abbrev C166:Ctx:=cx [(131,c131),(132,c132)] 63 [] 0 false
def ann166:=an [[.fixRow 2 aD,kp 6],[kp 70],[kp 198],[kp 16],[kp 8388678],[kp 16],[kp 137438953540],[kp 16],[.keep [2,6,48]],[.keep [2,6,48]],[.keep [2,6,48]],[.keep [2,6,48]],[.keep [2,48]],[kp 16],[kp 16]] []
abbrev S166_0 (p:aD.D) (LJ:LC) (K:KA):Prop:=cond ((decide (p.2.1=Z0))==true) (K (dB (Ty.beq af p.2.2.1 (Z0,(Z0,((⟨#[]⟩:ByteArray),()))))) []) (K (dB false) [])
theorem vc166 (p:aD.D) (LJ:LC) (K:KA):vcT C166 aB ann166 f166 [.data aD p,.data TCS LJ] [] (.dat Ty.bool) K =
 (cond (decide (p.1=Z1)) (cond ((decide (p.2.1=Z0))==true) ((Sm af p.2.2.1)/\cond ((M.aY p.2.2.1)==true) (K (dB (!decide (p.2.2.1.1=Z0))) []) (K (dB false) [])) (K (dB false) [])) (cond (decide (p.1=Z2)) (cond ((M.inR p.2.1 Z0 (wrap64 ((LJ.length:Int)-Z1)))==true) (K (dB (Ty.beq af p.2.2.1 (Z0,(Z0,((⟨#[]⟩:ByteArray),()))))) []) (K (dB false) [])) (cond (decide (p.1=Z4)) (cond ((M.inR p.2.1 Z1 Z4)==true) (K (dB (Ty.beq af p.2.2.1 (Z0,(Z0,((⟨#[]⟩:ByteArray),()))))) []) (K (dB false) [])) (cond (decide (p.1=Z3)) (cond (decide (p.1=Z3)) (S166_0 p LJ K) (K (dB false) [])) (cond (decide (p.1=Z5)) (cond (decide (p.1=Z5)) (S166_0 p LJ K) (K (dB false) [])) (cond (decide (p.1=Z6)) (cond (decide (p.1=Z6)) (S166_0 p LJ K) (K (dB false) [])) (cond (decide (p.1=(7:Int))) (cond (decide (p.1=(7:Int))) (S166_0 p LJ K) (K (dB false) [])) (cond (decide (p.1=(8:Int))) (S166_0 p LJ K) (K (dB false) []))))))))):=by kernel_rfl
theorem con166_ok:bt P 166 c166:=bA C166 func166 (kC con131_ok (kC con132_ok kN)) fun args hp K h0=>by
 obtain⟨p,LJ,rfl,rfl,h_p,LP,hK⟩:=g2e h0
 have h:ok (F.lY p LJ) (fun r=>K (dB r) []):=aA (F.tL p LJ h_p LP) hK
 refine⟨rfl,ann166,aB,(.dat Ty.bool),(aL (by kernel_rfl)),?_⟩
 ·rw[vc166]
  exact(oC h (fun _ h=>(oC h (fun _ h=>⟨h_p.2.2.1,(oC h (fun _ h=>h) fun _ h=>h)⟩) fun _ h=>h)) fun _ h=>(oC h (fun _ h=>(oC h (fun _ h=>h) fun _ h=>h)) fun _ h=>(oC h (fun _ h=>(oC h (fun _ h=>h) fun _ h=>h)) fun _ h=>(oC h (fun b_8 h=>(bO b_8 (oC h (fun _ h=>h) fun _ h=>h))) fun _ h=>(oC h (fun b_11 h=>(bO b_11 (oC h (fun _ h=>h) fun _ h=>h))) fun _ h=>(oC h (fun b_14 h=>(bO b_14 (oC h (fun _ h=>h) fun _ h=>h))) fun _ h=>(oC h (fun b_17 h=>(bO b_17 (oC h (fun _ h=>h) fun _ h=>h))) fun _ h=>(oC h (fun _ h=>(oC h (fun _ h=>h) fun _ h=>h)) fun _ h=>h))))))))
def c210:Con:=⟨[.dat aE,.any],fun args hp K=>g2 (pD aE) (pR aE) (fun k kind=>K (dB (!decide (k=kind))) []) args hp,.plain,false⟩
abbrev C210:Ctx:=cx [] 7 [] 0 false
def ann210:=an [[kp 3],[kp 8]] []
theorem vc210 (k:Int) (kind:Int) (K:KA):vcT C210 aB ann210 f210 [dI k,.ref (dI kind)] [] (.dat Ty.bool) K =
 (K (dB (!decide (k=kind))) []):=by kernel_rfl
theorem con210_ok:bt P 210 c210:=bA C210 func210 kN fun args hp K h0=>by
 obtain⟨k,kind,rfl,rfl,hK⟩:=g2e h0
 have h:ok (F.mZ k kind) (fun r=>K (dB r) []):=aA (F.qW k kind) hK
 refine⟨rfl,ann210,aB,(.dat Ty.bool),(aL (by kernel_rfl)),?_⟩
 ·rw[vc210]
  exact h
def c237:Con:=⟨[.lent aE,.any],fun args hp K=>args2 (fun a0 a1=>lF aE a0 fun xs=>jC 210 a1 (zM (fun b1_0=>xC aE b1_0 fun k0=>(Sm (Ty.sl aE) xs)/\K (dI (M.idx (t:=aE) (fun e=>!decide (e=k0)) xs)) []))) args hp,.plain,false⟩
abbrev C237:Ctx:=cx [(210,c210)] 19 [] 0 false
def ann237:=an [[kp 3],[kp 387],[kp 899],[kp 419],[kp 65955],[kp 16],[kp 387],[kp 16]] [[kp 0]]
abbrev s237_0 (xs:LI) (k0:Int) (i0:Int) (v0:Unit):St:=⟨[(0,.brw aE xs),(1,.fn 210 [.ref (dI k0)]),(7,dI (xs.length:Int)),(8,dI i0)],[]⟩
abbrev LP237_0 (xs:LI) (k0:Int) (m:Nat) (st_:St) (K:KX):Prop:=True/\dc (s237_0 xs k0) Z0 (xs.length:Int) (F.cP xs k0) (fun v0:Unit=>True) (bz (fun v0:Unit=>True->K (.exit 0) (⟨[],[]⟩:St)) (fun q0:Int=>K .ret (⟨[(4,dI q0)],[]⟩:St))) m st_
def L237 (xs:LI) (k0:Int):bK:=lp1 0 (LP237_0 xs k0)
theorem vc237 (xs:LI) (k0:Int) (K:KA):vcT C237 (L237 xs k0) ann237 f237 [.brw aE xs,.fn 210 [.ref (dI k0)]] [] (.dat aE) K =
 (∃m_,True/\dc (s237_0 xs k0) Z0 (xs.length:Int) (F.cP xs k0) (fun v0:Unit=>True) (bz (fun v0:Unit=>True->K (dI (-1:Int)) []) (fun q0:Int=>K (dI q0) [])) m_ (s237_0 xs k0 Z0 ())):=by kernel_rfl
theorem lvc237_0 (xs:LI) (k0:Int)  (i0:Int) (v0:Unit) (m:Nat) (K:KX):lvT C237 (L237 xs k0) ann237 f237 0 0 (s237_0 xs k0 i0 v0) m K =
 (cond (decide (i0<(xs.length:Int))) ((0<=i0)/\(i0<(xs.length:Int))/\cond (!decide ((nI xs i0)=k0)) (K .ret (⟨[(4,dI i0)],[]⟩:St)) (nxT (LP237_0 xs k0) m K (s237_0 xs k0 (wrap64 (i0+Z1)) ()))) (K (.exit 0) (⟨[],[]⟩:St))):=by kernel_rfl
theorem con237_ok:bt P 237 c237:=bA C237 func237 (kC con210_ok kN) fun args hp K h0=>by
 obtain⟨a0,a1,rfl,rfl,h1⟩:=bZ h0
 obtain⟨xs,rfl,h2⟩:=dx h1
 obtain⟨cs1,rfl,h3⟩:=cH h2
 obtain⟨b1_0,rfl,h4⟩:=nA h3
 obtain⟨k0,rfl,h5⟩:=kz h4
 obtain⟨h_xs,hK⟩:=h5
 have h:ok (F.gH xs k0) (fun r=>K (dI r) []):=aA (F.kg xs k0 h_xs) hK
 refine⟨rfl,ann237,(L237 xs k0),(.dat aE),(bW (i0:=0) (by kernel_rfl) ?_),?_⟩
 ·rintro _ _ K ⟨hc0,i0,v0,rfl,hl0,rfl,hv0,h⟩
  exact cast (lvc237_0 _ _ _ _ _ _).symm (ct h (fun ht0 h=>⟨hl0,⟨ht0,(oC h (fun _ h=>h) fun _ h=>(aV (fun _ hm=>⟨hc0,hm⟩) _ rfl hl0 iR ht0 (bC h_xs) trivial h))⟩⟩) fun h=>(h trivial))
 ·rw[vc237]
  exact(bT (fun m hm=>⟨trivial,hm⟩) Z0 _ rfl (Int.natCast_nonneg 0) trivial (bn h (fun v0 h hv0=>h) (fun q0 h=>h)))
def c209:Con:=⟨[.lent aE,.any],fun args hp K=>args2 (fun a0 a1=>lF aE a0 fun xs=>jC 210 a1 (zM (fun b1_0=>xC aE b1_0 fun k0=>(Sm (Ty.sl aE) xs)/\K (dB (List.any xs (fun e=>!decide (e=k0)))) []))) args hp,.plain,false⟩
abbrev C209:Ctx:=cx [(210,c210),(237,c237)] 9 [] 0 false
def ann209:=an [[kp 3],[kp 16]] []
theorem vc209 (xs:LI) (k0:Int) (K:KA):vcT C209 aB ann209 f209 [.brw aE xs,.fn 210 [.ref (dI k0)]] [] (.dat Ty.bool) K =
 ((Sm (Ty.sl aE) xs)/\K (dB (decide (Z0<=(M.idx (t:=aE) (fun e=>!decide (e=k0)) xs)))) []):=by kernel_rfl
theorem con209_ok:bt P 209 c209:=bA C209 func209 (kC con210_ok (kC con237_ok kN)) fun args hp K h0=>by
 obtain⟨a0,a1,rfl,rfl,h1⟩:=bZ h0
 obtain⟨xs,rfl,h2⟩:=dx h1
 obtain⟨cs1,rfl,h3⟩:=cH h2
 obtain⟨b1_0,rfl,h4⟩:=nA h3
 obtain⟨k0,rfl,h5⟩:=kz h4
 obtain⟨h_xs,hK⟩:=h5
 have h:ok (F.dS xs k0) (fun r=>K (dB r) []):=aA (F.jw xs k0 h_xs) hK
 refine⟨rfl,ann209,aB,(.dat Ty.bool),(aL (by kernel_rfl)),?_⟩
 ·rw[vc209]
  exact⟨h_xs,h⟩
def c208:Con:=⟨[.dat aE,.any],fun args hp K=>g2 (pD aE) (pQ aE) (fun kind ins=>(Sm (Ty.sl aE) ins)/\K (dB (List.all ins (fun k=>decide (k=kind)))) []) args hp,.plain,false⟩
abbrev C208:Ctx:=cx [(209,c209),(210,c210)] 8 [] 0 false
def ann208:=an [[.fixBox 2,kp 6],[kp 8]] []
theorem vc208 (kind:Int) (ins:LI) (K:KA):vcT C208 aB ann208 f208 [dI kind,.ref (.brw aE ins)] [] (.dat Ty.bool) K =
 ((Sm (Ty.sl aE) ins)/\K (dB (!(List.any ins (fun e=>!decide (e=kind))))) []):=by kernel_rfl
theorem con208_ok:bt P 208 c208:=bA C208 func208 (kC con209_ok (kC con210_ok kN)) fun args hp K h0=>by
 obtain⟨kind,ins,rfl,rfl,h_ins,hK⟩:=g2e h0
 have h:ok (F.kL kind ins) (fun r=>K (dB r) []):=aA (F.tg kind ins h_ins) hK
 refine⟨rfl,ann208,aB,(.dat Ty.bool),(aL (by kernel_rfl)),?_⟩
 ·rw[vc208]
  exact⟨h_ins,h⟩
def c167:Con:=⟨[.dat aD,.dat TCS,.lent aE],fun args hp K=>g3 (pD aD) (pD TCS) (pB aE) (fun p LJ inp=>(Sm aD p)/\(Sm TCS LJ)/\(Sm (Ty.sl aE) inp)/\(M.mg p LJ=true)/\((inp.length:Int)=M.takes p)/\(LD (M.dh p LJ inp) fun r=>K (.tup [dI r.1,dB r.2]) [])) args hp,.plain,false⟩
abbrev C167:Ctx:=cx [(208,c208)] 42 [] 0 false
def ann167:=an [[.fixRow 3 aD,.fixBox 5,kp 42],[kp 298],[kp 2346],[kp 6442],[kp 192],[kp 133418],[kp 192],[kp 33556768],[kp 192],[kp 536873248],[kp 192],[.keep [8,38]],[kp 192],[kp 192]] []
theorem vc167 (p:aD.D) (LJ:LC) (inp:LI) (K:KA):vcT C167 aB ann167 f167 [.data aD p,.data TCS LJ,.brw aE inp] [] (.tup [aE,Ty.bool]) K =
 (cond (decide (p.1=Z1)) (K (.tup [dI p.2.2.1.1,dB true]) []) (cond (decide (p.1=Z2)) ((0<=p.2.1)/\(p.2.1<(LJ.length:Int))/\K (.tup [dI (nC LJ p.2.1).1,dB true]) []) (cond (decide (p.1=Z3)) ((Sm (Ty.sl aE) inp)/\K (.tup [dI Z1,dB (List.all inp (fun k=>decide (k=Z1)))]) []) (cond (decide (p.1=Z4)) ((0<=Z0)/\(Z0<(inp.length:Int))/\(0<=Z1)/\(Z1<(inp.length:Int))/\K (.tup [dI Z3,dB (decide ((nI inp Z0)=(nI inp Z1)))]) []) (cond (decide (p.1=(8:Int))) (K (.tup [dI Z3,dB true]) []) ((Sm (Ty.sl aE) inp)/\K (.tup [dI Z3,dB (List.all inp (fun k=>decide (k=Z3)))]) [])))))):=by kernel_rfl
theorem con167_ok:bt P 167 c167:=bA C167 func167 (kC con208_ok kN) fun args hp K h0=>by
 obtain⟨p,LJ,inp,rfl,rfl,h_p,LP,h_inp,p0,p1,hK⟩:=g3e h0
 have h:ok (F.mY p LJ inp) (fun r=>K (.tup [dI r.1,dB r.2]) []):=aA (F.vH p LJ inp h_p LP h_inp p0 p1) (hK _ rfl)
 refine⟨rfl,ann167,aB,(.tup [aE,Ty.bool]),(aL (by kernel_rfl)),?_⟩
 ·rw[vc167]
  exact(oC h (fun _ h=>h) fun _ h=>(oC h (fun _ h=>(oG h fun _ h=>(oG h fun _ h=>h))) fun _ h=>(oC h (fun _ h=>⟨h_inp,h⟩) fun _ h=>(oC h (fun _ h=>⟨(Int.natCast_nonneg 0),(oG h fun _ h=>⟨(Int.natCast_nonneg 1),(oG h fun _ h=>h)⟩)⟩) fun _ h=>(oC h (fun _ h=>h) fun _ h=>⟨h_inp,h⟩)))))
def c99:Con:=⟨[.dat TCS,.dat TPS],fun args hp K=>g2 (pD TCS) (pD TPS) (fun LJ e=>(Sm TCS LJ)/\(Sm TPS e)/\K (dI (M.bR LJ e)) []) args hp,.plain,false⟩
abbrev C99:Ctx:=cx [(75,c75),(165,c165),(166,c166),(167,c167)] 67 [] 0 false
def ann99:=an [[kp 3],[kp 262147],[kp 16],[kp 35],[kp 3670049],[kp 7864353],[.fixRow 7 aD,kp 3670177],[kp 3670433],[kp 68723147169],[kp 16],[kp 3671841],[kp 1125899910513441],[kp 16],[kp 3670049],[kp 3670049],[.keep [5,63]],[kp 16],[kp 16]] [[kp 32]]
abbrev s99_0 (LJ:LC) (e:LPt) (i0:Int) (v0:LI):St:=⟨[(0,.data TCS LJ),(5,.own 5 none),(19,.data TPS e),(20,dI (e.length:Int)),(21,dI i0)],[(5,.arr .sh aE v0)]⟩
abbrev LP99_0 (LJ:LC) (e:LPt) (m:Nat) (st_:St) (K:KX):Prop:=True/\cw (t:=aD) (s99_0 LJ e) e (F.fc LJ e) (fun v0:LI=>True) (bz (fun v0:LI=>True->K (.exit 0) (⟨[(5,.own 5 none)],[(5,.arr .sh aE v0)]⟩:St)) (fun q0:Unit=>K .ret (⟨[(4,dI (-1:Int))],[]⟩:St))) m st_
def L99 (LJ:LC) (e:LPt):bK:=lp1 0 (LP99_0 LJ e)
theorem vc99 (LJ:LC) (e:LPt) (K:KA):vcT C99 (L99 LJ e) ann99 f99 [.data TCS LJ,.data TPS e] [] (.dat aE) K =
 ((Sm TCS LJ)/\cond ((!(M.cm LJ))==false) (cond (decide ((12:Int)<(e.length:Int))) (K (dI (-1:Int)) []) (∃m_,True/\cw (t:=aD) (s99_0 LJ e) e (F.fc LJ e) (fun v0:LI=>True) (bz (fun v0:LI=>True->cond (!decide ((v0.length:Int)=Z1)) (K (dI (-1:Int)) []) ((0<=Z0)/\(Z0<(v0.length:Int))/\K (dI (nI v0 Z0)) [])) (fun q0:Unit=>K (dI (-1:Int)) [])) m_ (s99_0 LJ e Z0 []))) (K (dI (-1:Int)) [])):=by kernel_rfl
theorem lvc99_0 (LJ:LC) (e:LPt)  (i0:Int) (v0:LI) (m:Nat) (K:KX):lvT C99 (L99 LJ e) ann99 f99 0 0 (s99_0 LJ e i0 v0) m K =
 (cond (decide (i0<(e.length:Int))) ((0<=i0)/\(i0<(e.length:Int))/\(Sm aD (nP e i0))/\(Sm aD (nP e i0))/\(Sm TCS LJ)/\cond ((!(M.mg (nP e i0) LJ))==false) (cond (decide ((v0.length:Int)<(M.takes (nP e i0)))) (K .ret (⟨[(4,dI (-1:Int))],[]⟩:St)) ((0<=wrap64 ((v0.length:Int)-(M.takes (nP e i0))))/\(wrap64 ((v0.length:Int)-(M.takes (nP e i0)))<=(v0.length:Int))/\((v0.length:Int)<=(v0.length:Int))/\((v0.length:Int)=(v0.length:Int))/\(Sm aD (nP e i0))/\(Sm TCS LJ)/\(Sm (Ty.sl aE) (aj v0 (some (wrap64 ((v0.length:Int)-(M.takes (nP e i0))),(v0.length:Int)))))/\(M.mg (nP e i0) LJ=true)/\(((aj v0 (some (wrap64 ((v0.length:Int)-(M.takes (nP e i0))),(v0.length:Int)))).length:Int)=M.takes (nP e i0))/\(LD (M.dh (nP e i0) LJ (aj v0 (some (wrap64 ((v0.length:Int)-(M.takes (nP e i0))),(v0.length:Int))))) fun r1=>cond (!r1.2) (K .ret (⟨[(4,dI (-1:Int))],[]⟩:St)) ((0<=Z0)/\(Z0<=wrap64 ((v0.length:Int)-(M.takes (nP e i0))))/\(wrap64 ((v0.length:Int)-(M.takes (nP e i0)))<=(v0.length:Int))/\(wrap64 ((v0.length:Int)-(M.takes (nP e i0)))=wrap64 ((v0.length:Int)-(M.takes (nP e i0))))/\(Z0=0)/\(((wrap64 ((v0.length:Int)-(M.takes (nP e i0)))).toNat+[r1.1].length) * 8<=lim)/\(nxT (LP99_0 LJ e) m K (s99_0 LJ e (wrap64 (i0+Z1)) (v0.take (wrap64 ((v0.length:Int)-(M.takes (nP e i0)))).toNat++[r1.1]))))))) (K .ret (⟨[(4,dI (-1:Int))],[]⟩:St))) (K (.exit 0) (⟨[(5,.own 5 none)],[(5,.arr .sh aE v0)]⟩:St))):=by kernel_rfl
theorem con99_ok:bt P 99 c99:=bA C99 func99 (kC con75_ok (kC con165_ok (kC con166_ok (kC con167_ok kN)))) fun args hp K h0=>by
 obtain⟨LJ,e,rfl,rfl,LP,h_e,hK⟩:=g2e h0
 have h:ok (F.oQ LJ e) (fun r=>K (dI r) []):=aA (F.wU LJ e LP h_e) hK
 refine⟨rfl,ann99,(L99 LJ e),(.dat aE),(bW (i0:=0) (by kernel_rfl) ?_),?_⟩
 ·rintro _ _ K ⟨hc0,i0,v0,rfl,hl0,rfl,hv0,h⟩
  exact cast (lvc99_0 _ _ _ _ _ _).symm (bD (t:=aD) hl0 h (fun ht0 h=>⟨hl0,⟨ht0,⟨(aO h_e i0),⟨(aO h_e i0),⟨LP,(oC h (fun b_37 h=>(oC h (fun _ h=>h) fun _ h=>(oG h fun _ h=>(oG h fun g1 h=>⟨(Int.le_refl _),⟨rfl,⟨(aO h_e i0),⟨LP,(oG h fun _ h=>⟨(bnf (bgt b_37)),(oG h fun _ h=>(oL h fun _ _ h=>(oC h (fun _ h=>h) fun _ h=>⟨(Int.natCast_nonneg 0),(oG h fun _ h=>⟨g1,⟨rfl,⟨rfl,(oG h fun _ h=>(br (t:=aD) (fun _ hm=>⟨hc0,hm⟩) _ rfl hl0 ht0 (bC h_e) trivial h))⟩⟩⟩)⟩)))⟩)⟩⟩⟩⟩)))) fun _ h=>h)⟩⟩⟩⟩⟩) fun h=>(h trivial))
 ·rw[vc99]
  exact⟨LP,(oC h (fun _ h=>(oC h (fun _ h=>h) fun _ h=>(bu (t:=aD) (fun m hm=>⟨trivial,hm⟩) _ rfl trivial (bn h (fun v0 h hv0=>(oC h (fun _ h=>h) fun _ h=>⟨(Int.natCast_nonneg 0),(oG h fun _ h=>h)⟩)) (fun q0 h=>h))))) fun _ h=>h)⟩
def c93:Con:=⟨[.dat TTb,.dat TGS],fun args hp K=>g2 (pD TTb) (pD TGS) (fun LK LL=>(Sm TTb LK)/\(Sm TGS LL)/\K (dB (M.bS LK LL)) []) args hp,.plain,false⟩
abbrev C93:Ctx:=cx [(28,c28),(99,c99),(132,c132)] 52 [] 0 false
def ann93:=an [[kp 3],[kp 515],[kp 16],[kp 7171],[kp 15363],[.fixRow 6 aI,kp 7267],[kp 1125899906849795],[kp 16],[kp 7171],[kp 16]] [[kp 0]]
abbrev s93_0 (LK:LTb) (LL:LG) (i0:Int) (v0:Unit):St:=⟨[(0,.data TTb LK),(1,.data TGS LL),(10,.data TGS LL),(11,dI (LL.length:Int)),(12,dI i0)],[]⟩
abbrev LP93_0 (LK:LTb) (LL:LG) (m:Nat) (st_:St) (K:KX):Prop:=True/\dc (s93_0 LK LL) Z0 (LL.length:Int) (F.iW LK LL) (fun v0:Unit=>True) (bz (fun v0:Unit=>True->K (.exit 0) (⟨[],[]⟩:St)) (fun q0:Unit=>K .ret (⟨[(4,dB false)],[]⟩:St))) m st_
def L93 (LK:LTb) (LL:LG):bK:=lp1 0 (LP93_0 LK LL)
theorem vc93 (LK:LTb) (LL:LG) (K:KA):vcT C93 (L93 LK LL) ann93 f93 [.data TTb LK,.data TGS LL] [] (.dat Ty.bool) K =
 ((Sm TTb LK)/\cond (!(M.bw LK)) (K (dB false) []) (∃m_,True/\dc (s93_0 LK LL) Z0 (LL.length:Int) (F.iW LK LL) (fun v0:Unit=>True) (bz (fun v0:Unit=>True->K (dB true) []) (fun q0:Unit=>K (dB false) [])) m_ (s93_0 LK LL Z0 ()))):=by kernel_rfl
abbrev S93l0_0 (LK:LTb) (LL:LG)  (i0:Int) (v0:Unit) (m:Nat) (K:KX):Prop:=(0<=(nG LL i0).1)/\((nG LL i0).1<(LK.length:Int))/\(Sm TCS (nT LK (nG LL i0).1).1)/\(Sm TPS (nG LL i0).2.1)/\cond (!decide ((M.bR (nT LK (nG LL i0).1).1 (nG LL i0).2.1)=Z3)) (K .ret (⟨[(4,dB false)],[]⟩:St)) (nxT (LP93_0 LK LL) m K (s93_0 LK LL (wrap64 (i0+Z1)) ()))
theorem lvc93_0 (LK:LTb) (LL:LG)  (i0:Int) (v0:Unit) (m:Nat) (K:KX):lvT C93 (L93 LK LL) ann93 f93 0 0 (s93_0 LK LL i0 v0) m K =
 (cond (decide (i0<(LL.length:Int))) ((0<=i0)/\(i0<(LL.length:Int))/\cond ((!(M.inR (nG LL i0).1 Z0 (wrap64 ((LK.length:Int)-Z1))))==false) (cond ((decide (Z0<i0))==true) ((0<=wrap64 (i0-Z1))/\(wrap64 (i0-Z1)<(LL.length:Int))/\cond ((decide ((nG LL i0).1<=(nG LL (wrap64 (i0-Z1))).1))==false) (S93l0_0  LK LL i0 v0 m K) (K .ret (⟨[(4,dB false)],[]⟩:St))) (S93l0_0  LK LL i0 v0 m K)) (K .ret (⟨[(4,dB false)],[]⟩:St))) (K (.exit 0) (⟨[],[]⟩:St))):=by kernel_rfl
theorem con93_ok:bt P 93 c93:=bA C93 func93 (kC con28_ok (kC con99_ok (kC con132_ok kN))) fun args hp K h0=>by
 obtain⟨LK,LL,rfl,rfl,LO,LR,hK⟩:=g2e h0
 have h:ok (F.oU LK LL) (fun r=>K (dB r) []):=aA (F.wG LK LL LO LR) hK
 refine⟨rfl,ann93,(L93 LK LL),(.dat Ty.bool),(bW (i0:=0) (by kernel_rfl) ?_),?_⟩
 ·rintro _ _ K ⟨hc0,i0,v0,rfl,hl0,rfl,hv0,h⟩
  exact cast (lvc93_0 _ _ _ _ _ _).symm (ct h (fun ht0 h=>⟨hl0,⟨ht0,(oC h (fun b_22 h=>(oC h (fun _ h=>(oG h fun _ h=>(oG h fun _ h=>(oC h (fun _ h=>⟨(fk (bnf (bgt b_22))),⟨(kB (bnf (bgt b_22))),⟨(aO LO (nG LL i0).1).1,⟨(aO LR i0).2.1,(oC h (fun _ h=>h) fun _ h=>(aV (fun _ hm=>⟨hc0,hm⟩) _ rfl hl0 iR ht0 (bC LR) trivial h))⟩⟩⟩⟩) fun _ h=>h)))) fun _ h=>⟨(fk (bnf (bgt b_22))),⟨(kB (bnf (bgt b_22))),⟨(aO LO (nG LL i0).1).1,⟨(aO LR i0).2.1,(oC h (fun _ h=>h) fun _ h=>(aV (fun _ hm=>⟨hc0,hm⟩) _ rfl hl0 iR ht0 (bC LR) trivial h))⟩⟩⟩⟩)) fun _ h=>h)⟩⟩) fun h=>(h trivial))
 ·rw[vc93]
  exact⟨LO,(oC h (fun _ h=>h) fun _ h=>(bT (fun m hm=>⟨trivial,hm⟩) Z0 _ rfl (Int.natCast_nonneg 0) trivial (bn h (fun v0 h hv0=>h) (fun q0 h=>h))))⟩
abbrev C221:Ctx:=cx [] 9 [] 400000 true
def T221:Inl:=rR C221 (fun _=>[]) (dO f221) f221.results.toList
theorem inlOk221:sw P 221 T221:=wA C221 func221 kN
def c181:Con:=⟨[.dat TCS],fun args hp K=>g1 (pD TCS) (fun xs=>(Sm TCS xs)/\(LD xs fun r=>K (.clp 0 (r.length:Int)) [(0,.arr .sh ag r)])) args hp,.bor,false⟩
abbrev C181:Ctx:=cx [] 9 [(221,T221)] 0 true
def ann181:=an [[kp 1],[kp 33],[.clip 2,kp 4],[kp 4]] []
theorem vc181 (xs:LC) (K:KA):vcT C181 aB ann181 f181 [.data TCS xs] [] .raw K =
 (cond (decide ((xs.length:Int)=Z0)) (K (.clp 0 (([]:List ag.D).length:Int)) [(0,.arr .sh ag ([]:List ag.D))]) ((xs.length * 16<=lim)/\(0<=Z0)/\(Z0<=(xs.length:Int))/\((xs.length:Int)<=(xs.length:Int))/\((xs.length:Int)=(xs.length:Int))/\(Z0=0)/\K (.clp 0 ((xs.take (xs.length:Int).toNat).length:Int)) [(0,.arr .sh ag (xs.take (xs.length:Int).toNat))])):=by kernel_rfl
theorem con181_ok:bt P 181 c181:=bA C181 func181 (kI inlOk221 kN) fun args hp K h0=>by
 obtain⟨xs,rfl,rfl,h_xs,hK⟩:=g1e h0
 have h:ok (F.tD xs) (fun r=>K (.clp 0 (r.length:Int)) [(0,.arr .sh ag r)]):=aA (F.xg xs h_xs) (hK _ rfl)
 refine⟨rfl,ann181,aB,.raw,(aL (by kernel_rfl)),?_⟩
 ·rw[vc181]
  exact(oC h (fun _ h=>h) fun _ h=>⟨(AH h_xs rfl),⟨(Int.natCast_nonneg 0),⟨(Int.natCast_nonneg _),⟨(Int.le_refl _),⟨rfl,⟨rfl,h⟩⟩⟩⟩⟩⟩)
def c234:Con:=⟨[.dat ah],fun args hp K=>g1 (pD ah) (fun s=>(Sm ah s)/\K (dB (M.bM s)) []) args hp,.plain,false⟩
abbrev C234:Ctx:=cx [] 67 [] 0 false
def ann234:=an [[.fixRow 1 ah,kp 2],[kp 10],[kp 26],[kp 4]] []
abbrev S234_0 (s:ah.D) (K:KA):Prop:=cond ((decide (s.1=Z3))==false) (K (dB (decide ((s.2.2.2.2.2.1.length:Int)=Z0))) []) (K (dB true) [])
abbrev S234_1 (s:ah.D) (K:KA):Prop:=cond ((decide (s.1=Z4))==false) (cond ((decide ((s.2.2.2.2.1.length:Int)=Z0))==true) (S234_0 s K) (K (dB false) [])) (S234_0 s K)
abbrev S234_2 (s:ah.D) (K:KA):Prop:=cond ((decide (s.1=Z1))==false) (cond ((decide (s.2.2.2.1=Z0))==true) (S234_1 s K) (K (dB false) [])) (S234_1 s K)
abbrev S234_3 (s:ah.D) (K:KA):Prop:=cond ((decide (s.1=Z5))==false) (cond ((decide (s.2.2.1=Z0))==true) (S234_2 s K) (K (dB false) [])) (S234_2 s K)
abbrev S234_4 (s:ah.D) (K:KA):Prop:=cond ((decide (s.1=Z1))==false) (cond ((decide (s.2.2.2.1=Z0))==true) (S234_0 s K) (K (dB false) [])) (S234_0 s K)
abbrev S234_5 (s:ah.D) (K:KA):Prop:=cond ((decide (s.1=Z5))==false) (cond ((decide (s.2.2.1=Z0))==true) (S234_4 s K) (K (dB false) [])) (S234_4 s K)
theorem vc234 (s:ah.D) (K:KA):vcT C234 aB ann234 f234 [.data ah s] [] (.dat Ty.bool) K =
 (cond ((decide (s.1=Z4))==false) (cond ((decide (s.1=Z2))==false) (cond ((!decide (s.1=Z1))==false) (cond ((decide (s.2.1=Z0))==true) (S234_3 s K) (K (dB false) [])) (S234_3 s K)) (cond ((!decide (s.1=Z1))==false) (cond ((decide (s.2.1=Z0))==true) (S234_5 s K) (K (dB false) [])) (S234_5 s K))) (cond ((decide (s.1=Z2))==false) (cond ((!decide (s.1=Z1))==false) (cond ((decide (s.2.1=Z0))==true) (S234_2 s K) (K (dB false) [])) (S234_2 s K)) (cond ((!decide (s.1=Z1))==false) (cond ((decide (s.2.1=Z0))==true) (S234_4 s K) (K (dB false) [])) (S234_4 s K)))):=by kernel_rfl
theorem con234_ok:bt P 234 c234:=bA C234 func234 kN fun args hp K h0=>by
 obtain⟨s,rfl,rfl,h_s,hK⟩:=g1e h0
 have h:ok (F.lT s) (fun r=>K (dB r) []):=aA (F.ue s h_s) hK
 refine⟨rfl,ann234,aB,(.dat Ty.bool),(aL (by kernel_rfl)),?_⟩
 ·rw[vc234]
  exact(oC h (fun b_1 h=>(oC h (fun _ h=>(oC h (fun b_3 h=>(oC h (fun _ h=>(bO (ugt (cY (bnf (bgt b_3)) (by decide))) (oC h (fun _ h=>(dR (ugf (bnf (bgt b_3))) (bO (ugt (bgt b_1)) (oC h (fun _ h=>(bO (ugt (cY (bnf (bgt b_3)) (by decide))) h)) fun _ h=>h)))) fun _ h=>h))) fun _ h=>h)) fun b_3 h=>(oC h (fun _ h=>(oC h (fun _ h=>(bO (ugt (bnt (bgf b_3))) (oC h (fun _ h=>(bO (ugt (bgt b_1)) (oC h (fun _ h=>(oC h (fun _ h=>h) fun _ h=>h)) fun _ h=>h))) fun _ h=>h))) fun _ h=>h)) fun b_27 h=>(bO (ugt (bnt (bgf b_3))) (oC h (fun _ h=>(bO (ugt (bgt b_1)) (oC h (fun _ h=>(bO (ugt (cY (bgf b_27) (by decide))) h)) fun _ h=>h))) fun _ h=>h))))) fun b_2 h=>(dR (ugf (unt (cY (bgf b_2) (by decide)))) (bO (ugt (cY (bgf b_2) (by decide))) (oC h (fun _ h=>(bO (ugt (cY (bgf b_2) (by decide))) (oC h (fun _ h=>(bO (ugt (cY (bgf b_2) (by decide))) h)) fun _ h=>h))) fun _ h=>h))))) fun b_1 h=>(bO (ugt (cY (bgf b_1) (by decide))) (dR (ugf (unt (cY (bgf b_1) (by decide)))) (bO (ugt (cY (bgf b_1) (by decide))) (oC h (fun _ h=>(dR (ugf (bgf b_1)) (bO (ugt (cY (bgf b_1) (by decide))) h))) fun _ h=>h)))))
def c253:Con:=⟨[.any,.dat aE],fun args hp K=>args2 (fun a0 a1=>DZ a0 (dA aE a1 fun n=>(0<=n)/\(n<=1099511627776)/\(LD ([]:List ag.D) fun r=>K (.own 0 none) [(0,.arr .sh ag r)]))) args hp,.plain,false⟩
abbrev C253:Ctx:=cx [] 27 [] 0 false
def ann253:=an [[kp 3],[kp 67],[kp 3],[kp 3],[kp 65539],[kp 1],[kp 16]] []
theorem vc253 (n:Int) (K:KA):vcT C253 aB ann253 f253 [.cst (.slice none 0 0),dI n] [] .raw K =
 (cond (decide (n<Z0)) False (cond (decide (Z0<wrap64 (n-(wrap64 (Z0-Z0))))) ((0<=Z0)/\(Z0<=Z0)/\(Z0<=Z0)/\(Z0=Z0)/\(0<=wrap64 (n-(wrap64 (Z0-Z0))))/\((wrap64 (n-(wrap64 (Z0-Z0)))) * 16<=(lim:Int))/\(0<=Z0)/\(Z0<=Z0)/\(Z0<=((List.replicate (wrap64 (n-(wrap64 (Z0-Z0)))).toNat (Z0,(false,()))).length:Int))/\(Z0=Z0)/\(Z0=0)/\K (.own 0 none) [(0,.arr .sh ag ((List.replicate (wrap64 (n-(wrap64 (Z0-Z0)))).toNat (Z0,(false,()))).take Z0.toNat))]) (K (.own 0 none) [(0,.arr .sh ag [])]))):=by kernel_rfl
theorem con253_ok:bt P 253 c253:=bA C253 func253 kN fun args hp K h0=>by
 obtain⟨a0,a1,rfl,rfl,h1⟩:=bZ h0
 obtain⟨rfl,h2⟩:=tG h1
 obtain⟨n,rfl,h3⟩:=aP h2
 obtain⟨p0,p1,hK⟩:=h3
 have h:ok (F.qj n) (fun r=>K (.own 0 none) [(0,.arr .sh ag r)]):=aA (F.yB n p0 p1) (hK _ rfl)
 refine⟨rfl,ann253,aB,.raw,(aL (by kernel_rfl)),?_⟩
 ·rw[vc253]
  exact(oC h (fun _ h=>h) fun _ h=>(oC h (fun _ h=>⟨(Int.natCast_nonneg 0),⟨(Int.le_refl _),⟨(Int.le_refl _),⟨rfl,(oG h fun _ h=>(oG h fun _ h=>⟨(Int.natCast_nonneg 0),⟨(Int.le_refl _),⟨(Int.natCast_nonneg _),⟨rfl,⟨rfl,h⟩⟩⟩⟩⟩))⟩⟩⟩⟩) fun _ h=>h))
def c235:Con:=⟨[.dat (Ty.sl TCS)],fun args hp K=>g1 (pD (Ty.sl TCS)) (fun xss=>(Sm (Ty.sl TCS) xss)/\(LD (List.flatten xss) fun r=>K (.own 0 none) [(0,.arr .sh ag r)])) args hp,.plain,false⟩
abbrev C235:Ctx:=cx [(253,c253)] 36 [] 0 false
def ann235:=an [[kp 1],[kp 9],[kp 3593],[kp 7689],[kp 3625],[kp 3593],[kp 1052169],[kp 3593],[kp 3593],[kp 65],[kp 234881088],[kp 503316544],[kp 234881344],[kp 234881088],[kp 234881088],[kp 4]] [[kp 9],[],[kp 64]]
abbrev s235_0 (xss:(List LC)) (i0:Int) (v0:Int):St:=⟨[(0,.data (Ty.sl TCS) xss),(3,dI v0),(9,.data (Ty.sl TCS) xss),(10,dI (xss.length:Int)),(11,dI i0)],[]⟩
abbrev LP235_0 (xss:(List LC)) (m:Nat) (st_:St) (K:KX):Prop:=True/\cw (t:=TCS) (s235_0 xss) xss (F.gQ xss) (fun v0:Int=>True) (bz (fun v0:Int=>True->K (.exit 0) (⟨[(0,.data (Ty.sl TCS) xss),(3,dI v0)],[]⟩:St)) (fun _=>False)) m st_
abbrev s235_2 (xss:(List LC)) (i2:Int) (v2:LC):St:=⟨[(6,.own 24 none),(25,.data (Ty.sl TCS) xss),(26,dI (xss.length:Int)),(27,dI i2)],[(24,.arr .sh ag v2)]⟩
abbrev LP235_2 (xss:(List LC)) (m:Nat) (st_:St) (K:KX):Prop:=True/\cw (t:=TCS) (s235_2 xss) xss (F.gY xss) (fun v2:LC=>True) (bz (fun v2:LC=>True->K (.exit 2) (⟨[(6,.own 24 none)],[(24,.arr .sh ag v2)]⟩:St)) (fun _=>False)) m st_
def L235 (xss:(List LC)):bK:=lp2 0 (LP235_0 xss) 2 (LP235_2 xss)
theorem vc235 (xss:(List LC)) (K:KA):vcT C235 (L235 xss) ann235 f235 [.data (Ty.sl TCS) xss] [] .raw K =
 (∃m_,True/\cw (t:=TCS) (s235_0 xss) xss (F.gQ xss) (fun v0:Int=>True) (bz (fun v0:Int=>True->(0<=v0)/\(v0<=1099511627776)/\(LD ([]:List ag.D) fun r1=>(∃m_,True/\cw (t:=TCS) (s235_2 xss) xss (F.gY xss) (fun v2:LC=>True) (bz (fun v2:LC=>True->K (.own 0 none) [(0,.arr .sh ag v2)]) (fun _=>False)) m_ (s235_2 xss Z0 r1)))) (fun _=>False)) m_ (s235_0 xss Z0 Z0)):=by kernel_rfl
theorem lvc235_0 (xss:(List LC))  (i0:Int) (v0:Int) (m:Nat) (K:KX):lvT C235 (L235 xss) ann235 f235 0 0 (s235_0 xss i0 v0) m K =
 (cond (decide (i0<(xss.length:Int))) ((0<=i0)/\(i0<(xss.length:Int))/\cond (decide (wrap64 (v0+((@nth TCS xss i0).length:Int))<Z0)) False (nxT (LP235_0 xss) m K (s235_0 xss (wrap64 (i0+Z1)) (wrap64 (v0+((@nth TCS xss i0).length:Int)))))) (K (.exit 0) (⟨[(0,.data (Ty.sl TCS) xss),(3,dI v0)],[]⟩:St))):=by kernel_rfl
theorem lvc235_1 (xss:(List LC))  (i2:Int) (v2:LC) (m:Nat) (K:KX):lvT C235 (L235 xss) ann235 f235 1 2 (s235_2 xss i2 v2) m K =
 (cond (decide (i2<(xss.length:Int))) ((0<=i2)/\(i2<(xss.length:Int))/\((v2.length+(@nth TCS xss i2).length) * 16<=lim)/\(nxT (LP235_2 xss) m K (s235_2 xss (wrap64 (i2+Z1)) (v2++(@nth TCS xss i2))))) (K (.exit 2) (⟨[(6,.own 24 none)],[(24,.arr .sh ag v2)]⟩:St))):=by kernel_rfl
theorem con235_ok:bt P 235 c235:=bA C235 func235 (kC con253_ok kN) fun args hp K h0=>by
 obtain⟨xss,rfl,rfl,h_xss,hK⟩:=g1e h0
 have h:ok (F.mU xss) (fun r=>K (.own 0 none) [(0,.arr .sh ag r)]):=aA (F.vj xss h_xss) (hK _ rfl)
 refine⟨rfl,ann235,(L235 xss),.raw,(qa (i0:=0) (i1:=2) (by kernel_rfl) ?_ ?_),?_⟩
 ·rintro _ _ K ⟨hc0,i0,v0,rfl,hl0,rfl,hv0,h⟩
  exact cast (lvc235_0 _ _ _ _ _).symm (bD (t:=TCS) hl0 h (fun ht0 h=>⟨hl0,⟨ht0,(oC h (fun _ h=>h) fun _ h=>(br (t:=TCS) (fun _ hm=>⟨hc0,hm⟩) _ rfl hl0 ht0 (bC h_xss) trivial h))⟩⟩) fun h=>(h trivial))
 ·rintro _ _ K ⟨hc2,i2,v2,rfl,hl2,rfl,hv2,h⟩
  exact cast (lvc235_1 _ _ _ _ _).symm (bD (t:=TCS) hl2 h (fun ht2 h=>⟨hl2,⟨ht2,(oG h fun _ h=>(br (t:=TCS) (fun _ hm=>⟨hc2,hm⟩) _ rfl hl2 ht2 (bC h_xss) trivial h))⟩⟩) fun h=>(h trivial))
 ·rw[vc235]
  exact(bu (t:=TCS) (fun m hm=>⟨trivial,hm⟩) _ rfl trivial (bn h (fun v0 h hv0=>(oG h fun _ h=>(oG h fun _ h=>(oL h fun _ _ h=>(bu (t:=TCS) (fun m hm=>⟨trivial,hm⟩) _ rfl trivial (bn h (fun v2 h hv2=>h) (fun _ h=>h.elim))))))) (fun _ h=>h.elim)))
def c206:Con:=⟨[.dat ah,.dat TTb,.lent aH],fun args hp K=>g3 (pD ah) (pD TTb) (pB aH) (fun s LK LN=>(Sm ah s)/\(Sm TTb LK)/\(Sm (Ty.sl aH) LN)/\(LD (M.make s LK LN) fun r=>K (.tup [.data aH r.1,dB r.2]) [])) args hp,.plain,false⟩
abbrev C206:Ctx:=cx [(99,c99),(132,c132),(181,c181),(234,c234),(235,c235)] 201 [] 0 true
def ann206:=an [[.fixRow 3 ah,kp 78],[kp 33554510],[kp 192],[kp 536870990],[kp 68719476810],[kp 192],[kp 192],[.keep [2,3,6,60]],[kp 192],[.fixRow 8 aH,.fixRow 9 aH,kp 840],[.keep [3,6,8,9,73]],[kp 28334198897217871283016],[kp 192],[.keep [3,6,8,9,73,83]],[kp 1352],[.mineC .sh 10 0 800160 ag,kp 4332790137498830962146936136],[kp 9284550294640352061743433032],[kp 4332790137498830962146940232],[kp 2539633990593957633955553350984],[kp 192],[kp 4332790137498830962146936136],[kp 4332790137498830962146936136],[.freeze 800160,kp 192],[.keep [3,6,8,9,73,119]],[.fixRow 13 aH,kp 8264],[.freeze 126,kp 192],[.keep [6,8,9,146]],[.fixRow 14 aH,kp 17216],[.keep [6,9,14,163]],[kp 192],[.keep [6,14,166,167,168]],[.keep [6,14,166,167,168,169]],[.fixRow 16 ag,.keep [6,14,15,16,166,167,168]],[.keep [6,14,15,16,166,167,168,181]],[kp 192],[.keep [6,14,166,167,168]],[.keep [6,14,166,167,168]],[.freeze 150,kp 192],[kp 192]] [[],[kp 1096],[],[kp 16448]]
abbrev s206_1 (s:ah.D) (LK:LTb) (LN:(List aH.D)) (i1:Int) (v1:LC):St:=⟨[(3,.adr ah s),(6,.ptr 6 0),(8,.adr aH (nM LN s.2.1)),(10,.ptr 10 0),(89,.data (Ty.sl aE) s.2.2.2.2.2.1),(90,dI (s.2.2.2.2.2.1.length:Int)),(91,dI i1)],[(6,.box [.cst (.slice none 0 0),dI Z0]),(10,.box [.own 800160 none,dI (nM LN s.2.1).2.1]),(800160,.arr .sh ag v1)]⟩
abbrev LP206_1 (s:ah.D) (LK:LTb) (LN:(List aH.D)) (m:Nat) (st_:St) (K:KX):Prop:=True/\cw (t:=aE) (s206_1 s LK LN) s.2.2.2.2.2.1 (F.gS s LK LN) (fun v1:LC=>True) (bz (fun v1:LC=>True->K (.exit 1) (⟨[(3,.adr ah s),(6,.ptr 6 0),(10,.ptr 10 0)],[(6,.box [.cst (.slice none 0 0),dI Z0]),(10,.box [.own 800160 none,dI (nM LN s.2.1).2.1]),(800160,.arr .sh ag v1)]⟩:St)) (fun q1:Unit=>K .ret (⟨[(6,.ptr 6 0),(7,dB false)],[(6,.box [.cst (.slice none 0 0),dI Z0])]⟩:St))) m st_
abbrev s206_3 (s:ah.D) (LK:LTb) (LN:(List aH.D)) (c3_0:Int) (i3:Int) (v3:LC):St:=⟨[(6,.ptr 6 0),(14,.ptr 14 0),(166,.data TCS (nM LN s.2.2.1).1),(167,dI ((nM LN s.2.2.1).1.length:Int)),(168,dI i3)],[(6,.box [.cst (.slice none 0 0),dI Z0]),(14,.box [.clp 150 c3_0,dI (wrap64 ((nM LN s.2.1).2.1+(nM LN s.2.2.1).2.1))]),(150,.arr .sh ag v3)]⟩
abbrev LP206_3 (s:ah.D) (LK:LTb) (LN:(List aH.D)) (m:Nat) (st_:St) (K:KX):Prop:=∃c3_0:Int,True/\dc (s206_3 s LK LN c3_0) Z0 ((nM LN s.2.2.1).1.length:Int) (F.fF s LK LN c3_0) (fun v3:LC=>True) (bz (fun v3:LC=>True->K (.exit 3) (⟨[(6,.ptr 6 0),(14,.ptr 14 0)],[(6,.box [.cst (.slice none 0 0),dI Z0]),(14,.box [.clp 150 c3_0,dI (wrap64 ((nM LN s.2.1).2.1+(nM LN s.2.2.1).2.1))]),(150,.arr .sh ag v3)]⟩:St)) (fun q3:Unit=>K .ret (⟨[(6,.ptr 6 0),(7,dB false)],[(6,.box [.cst (.slice none 0 0),dI Z0])]⟩:St))) m st_
def L206 (s:ah.D) (LK:LTb) (LN:(List aH.D)):bK:=lp2 1 (LP206_1 s LK LN) 3 (LP206_3 s LK LN)
abbrev S206_0 (s:ah.D) (LK:LTb) (LN:(List aH.D)) (K:KA):Prop:=(Sm (Ty.sl TCS) [(nM LN s.2.1).1,(nM LN s.2.2.1).1])/\(LD (List.flatten [(nM LN s.2.1).1,(nM LN s.2.2.1).1]) fun r1=>cond ((decide ((r1.length:Int)<=Z4))==true) ((Sm TCS r1)/\(Sm TPS s.2.2.2.2.1)/\Q0 (K (.tup [.data aH (r1,(wrap64 ((nM LN s.2.1).2.1 * (nM LN s.2.2.1).2.1),())),dB (decide ((M.bR r1 s.2.2.2.2.1)=Z3))]) [])) (Q0 (K (.tup [.data aH (r1,(wrap64 ((nM LN s.2.1).2.1 * (nM LN s.2.2.1).2.1),())),dB false]) [])))
abbrev S206_1 (s:ah.D) (LK:LTb) (LN:(List aH.D)) (K:KA):Prop:=(Sm TCS (nM LN s.2.1).1)/\(LD (nM LN s.2.1).1 fun r2=>cond (!decide (((nM LN s.2.1).1.length:Int)=((nM LN s.2.2.1).1.length:Int))) (K (.tup [.data aH ([],(Z0,())),dB false]) []) (∃m_,∃c3_0:Int,True/\dc (s206_3 s LK LN c3_0) Z0 ((nM LN s.2.2.1).1.length:Int) (F.fF s LK LN c3_0) (fun v3:LC=>True) (bz (fun v3:LC=>True->K (.tup [.data aH ((aj v3 (some (Z0,c3_0))),(wrap64 ((nM LN s.2.1).2.1+(nM LN s.2.2.1).2.1),())),dB true]) []) (fun q3:Unit=>K (.tup [.data aH ([],(Z0,())),dB false]) [])) m_ (s206_3 s LK LN (r2.length:Int) Z0 r2)))
abbrev S206_2 (s:ah.D) (LK:LTb) (LN:(List aH.D)) (K:KA):Prop:=cond (decide (s.1=Z2)) ((Sm TCS (nM LN s.2.1).1)/\(Sm TPS s.2.2.2.2.1)/\K (.tup [.data aH (nM LN s.2.1),dB (decide ((M.bR (nM LN s.2.1).1 s.2.2.2.2.1)=Z3))]) []) (cond (decide (s.1=Z3)) (∃m_,True/\cw (t:=aE) (s206_1 s LK LN) s.2.2.2.2.2.1 (F.gS s LK LN) (fun v1:LC=>True) (bz (fun v1:LC=>True->Q0 (K (.tup [.data aH (v1,(nM LN s.2.1).2),dB (decide ((s.2.2.2.2.2.1.length:Int)<=Z4))]) [])) (fun q1:Unit=>K (.tup [.data aH ([],(Z0,())),dB false]) [])) m_ (s206_1 s LK LN Z0 [])) (cond (decide (s.1=Z4)) (Q4 (S206_0 s LK LN K)) (cond (decide (s.1=Z5)) (Q0 (S206_1 s LK LN K)) (K (.tup [.data aH (nM LN s.2.1),dB true]) []))))
abbrev S206_3 (s:ah.D) (LK:LTb) (LN:(List aH.D)) (K:KA):Prop:=(S206_2 s LK LN K)
theorem vc206 (s:ah.D) (LK:LTb) (LN:(List aH.D)) (K:KA):vcT C206 (L206 s LK LN) ann206 f206 [.data ah s,.data TTb LK,.brw aH LN] [] (.tup [aH,Ty.bool]) K =
 ((Sm ah s)/\cond ((!(M.bM s))==false) (cond (!(M.inR s.1 Z1 Z6)) (K (.tup [.data aH ([],(Z0,())),dB false]) []) (cond (decide (s.1=Z1)) (cond (!(M.inR s.2.2.2.1 Z0 (wrap64 ((LK.length:Int)-Z1)))) (K (.tup [.data aH ([],(Z0,())),dB false]) []) ((0<=s.2.2.2.1)/\(s.2.2.2.1<(LK.length:Int))/\K (.tup [.data aH ((nT LK s.2.2.2.1).1,(Z6,())),dB true]) [])) (cond ((!(M.inR s.2.1 Z0 (wrap64 ((LN.length:Int)-Z1))))==false) (cond (!(M.inR s.2.2.1 Z0 (wrap64 ((LN.length:Int)-Z1)))) (K (.tup [.data aH ([],(Z0,())),dB false]) []) ((0<=s.2.1)/\(s.2.1<(LN.length:Int))/\(0<=s.2.2.1)/\(s.2.2.1<(LN.length:Int))/\Q5 (S206_3 s LK LN K))) (K (.tup [.data aH ([],(Z0,())),dB false]) [])))) (K (.tup [.data aH ([],(Z0,())),dB false]) [])):=by kernel_rfl
theorem lvc206_0 (s:ah.D) (LK:LTb) (LN:(List aH.D))  (i1:Int) (v1:LC) (m:Nat) (K:KX):lvT C206 (L206 s LK LN) ann206 f206 0 1 (s206_1 s LK LN i1 v1) m K =
 (cond (decide (i1<(s.2.2.2.2.2.1.length:Int))) ((0<=i1)/\(i1<(s.2.2.2.2.2.1.length:Int))/\cond (!(M.inR (nI s.2.2.2.2.2.1 i1) Z0 (wrap64 (((nM LN s.2.1).1.length:Int)-Z1)))) (K .ret (⟨[(6,.ptr 6 0),(7,dB false)],[(6,.box [.cst (.slice none 0 0),dI Z0])]⟩:St)) ((0<=(nI s.2.2.2.2.2.1 i1))/\((nI s.2.2.2.2.2.1 i1)<((nM LN s.2.1).1.length:Int))/\((v1.length+[(nC (nM LN s.2.1).1 (nI s.2.2.2.2.2.1 i1))].length) * 16<=lim)/\(nxT (LP206_1 s LK LN) m K (s206_1 s LK LN (wrap64 (i1+Z1)) (v1++[(nC (nM LN s.2.1).1 (nI s.2.2.2.2.2.1 i1))]))))) (K (.exit 1) (⟨[(3,.adr ah s),(6,.ptr 6 0),(10,.ptr 10 0)],[(6,.box [.cst (.slice none 0 0),dI Z0]),(10,.box [.own 800160 none,dI (nM LN s.2.1).2.1]),(800160,.arr .sh ag v1)]⟩:St))):=by kernel_rfl
theorem lvc206_1 (s:ah.D) (LK:LTb) (LN:(List aH.D)) (c3_0:Int) (i3:Int) (v3:LC) (m:Nat) (K:KX):lvT C206 (L206 s LK LN) ann206 f206 1 3 (s206_3 s LK LN c3_0 i3 v3) m K =
 (cond (decide (i3<((nM LN s.2.2.1).1.length:Int))) ((0<=i3)/\(i3<((nM LN s.2.2.1).1.length:Int))/\(0<=i3)/\(i3<c3_0)/\cond (!decide ((nC (nM LN s.2.2.1).1 i3).1=(nC v3 i3).1)) (K .ret (⟨[(6,.ptr 6 0),(7,dB false)],[(6,.box [.cst (.slice none 0 0),dI Z0])]⟩:St)) ((0<=i3)/\(i3<c3_0)/\cond ((nC v3 i3).2.1==false) ((0<=i3)/\(i3<c3_0)/\(let y1:LC:=(v3.set i3.toNat ((nC v3 i3).1,(nC (nM LN s.2.2.1).1 i3).2));(nxT (LP206_3 s LK LN) m K (s206_3 s LK LN c3_0 (wrap64 (i3+Z1)) y1)))) ((0<=i3)/\(i3<c3_0)/\(nxT (LP206_3 s LK LN) m K (s206_3 s LK LN c3_0 (wrap64 (i3+Z1)) (v3.set i3.toNat ((nC v3 i3).1,(true,())))))))) (K (.exit 3) (⟨[(6,.ptr 6 0),(14,.ptr 14 0)],[(6,.box [.cst (.slice none 0 0),dI Z0]),(14,.box [.clp 150 c3_0,dI (wrap64 ((nM LN s.2.1).2.1+(nM LN s.2.2.1).2.1))]),(150,.arr .sh ag v3)]⟩:St))):=by kernel_rfl
theorem con206_ok:bt P 206 c206:=bA C206 func206 (kC con99_ok (kC con132_ok (kC con181_ok (kC con234_ok (kC con235_ok kN))))) fun args hp K h0=>by
 obtain⟨s,LK,LN,rfl,rfl,h_s,LO,h_ahead,hK⟩:=g3e h0
 have h:ok (F.iC s LK LN) (fun r=>K (.tup [.data aH r.1,dB r.2]) []):=aA (F.vP s LK LN h_s LO h_ahead) (hK _ rfl)
 refine⟨rfl,ann206,(L206 s LK LN),(.tup [aH,Ty.bool]),(qa (i0:=1) (i1:=3) (by kernel_rfl) ?_ ?_),?_⟩
 ·rintro _ _ K ⟨hc1,i1,v1,rfl,hl1,rfl,hv1,h⟩
  exact cast (lvc206_0 _ _ _ _ _ _ _).symm (bD (t:=aE) hl1 h (fun ht1 h=>⟨hl1,⟨ht1,(oC h (fun _ h=>h) fun b_22 h=>⟨(fk (bnf b_22)),⟨(kB (bnf b_22)),(oG h fun _ h=>(br (t:=aE) (fun _ hm=>⟨hc1,hm⟩) _ rfl hl1 ht1 (bC h_s.2.2.2.2.2.1) trivial h))⟩⟩)⟩⟩) fun h=>(h trivial))
 ·rintro _ _ K ⟨c3_0,hc3,i3,v3,rfl,hl3,rfl,hv3,h⟩
  exact cast (lvc206_1 _ _ _ _ _ _ _ _).symm (ct h (fun ht3 h=>⟨hl3,⟨ht3,⟨hl3,(oG h fun g1 h=>(oC h (fun _ h=>h) fun _ h=>⟨hl3,⟨g1,(oC h (fun _ h=>⟨hl3,⟨g1,(have h:=cI h _ rfl;(aV (fun _ hm=>⟨c3_0,hc3,hm⟩) _ rfl hl3 iR ht3 (bC (aO h_ahead s.2.2.1).1) trivial h))⟩⟩) fun _ h=>⟨hl3,⟨g1,(aV (fun _ hm=>⟨c3_0,hc3,hm⟩) _ rfl hl3 iR ht3 (bC (aO h_ahead s.2.2.1).1) trivial h)⟩⟩)⟩⟩))⟩⟩⟩) fun h=>(h trivial))
 ·rw[vc206]
  exact⟨h_s,(oC h (fun _ h=>(oC h (fun _ h=>h) fun _ h=>(oC h (fun _ h=>(oC h (fun _ h=>h) fun b_4 h=>⟨(fk (bnf b_4)),⟨(kB (bnf b_4)),h⟩⟩)) fun _ h=>(oC h (fun b_5 h=>(oC h (fun _ h=>h) fun b_6 h=>⟨(fk (bnf (bgt b_5))),⟨(kB (bnf (bgt b_5))),⟨(fk (bnf b_6)),⟨(kB (bnf b_6)),(q5 (oC h (fun _ h=>⟨(aO h_ahead s.2.1).1,⟨h_s.2.2.2.2.1,h⟩⟩) fun _ h=>(oC h (fun _ h=>(bu (t:=aE) (fun m hm=>⟨trivial,hm⟩) _ rfl trivial (bn h (fun v1 h hv1=>(q0 h)) (fun q1 h=>h)))) fun _ h=>(oC h (fun _ h=>(q4 (oG h fun _ h=>(oL h fun _ _ h=>(oC h (fun _ h=>(oG h fun _ h=>⟨h_s.2.2.2.2.1,(q0 h)⟩)) fun _ h=>(q0 h)))))) fun _ h=>(oC h (fun _ h=>(q0 (⟨(aO h_ahead s.2.1).1,(oL h fun r2 _ h=>(oC h (fun _ h=>h) fun _ h=>(bT (fun m hm=>⟨(r2.length:Int),trivial,hm⟩) Z0 _ rfl (Int.natCast_nonneg 0) trivial (bn h (fun v3 h hv3=>h) (fun q3 h=>h)))))⟩))) fun _ h=>h)))))⟩⟩⟩⟩)) fun _ h=>h)))) fun _ h=>h)⟩
def c161:Con:=⟨[.dat TTb,.dat TSS],fun args hp K=>g2 (pD TTb) (pD TSS) (fun LK plan=>(Sm TTb LK)/\(Sm TSS plan)/\(LD (M.makes LK plan) fun r=>K (.tup [.data (Ty.sl aH) r.1,dB r.2]) [])) args hp,.plain,false⟩
abbrev C161:Ctx:=cx [(28,c28),(132,c132),(206,c206)] 46 [] 0 false
def ann161:=an [[kp 3],[kp 524291],[kp 48],[kp 67],[kp 7340097],[kp 15728705],[.fixRow 8 ah,kp 7340353],[.fixRow 9 aH,kp 7341633],[kp 549763154497],[kp 48],[kp 7340097],[kp 7340097],[kp 48]] [[kp 64]]
abbrev s161_0 (LK:LTb) (plan:LS) (i0:Int) (v0:(List aH.D)):St:=⟨[(0,.data TTb LK),(6,.own 6 none),(20,.data TSS plan),(21,dI (plan.length:Int)),(22,dI i0)],[(6,.arr .sh aH v0)]⟩
abbrev LP161_0 (LK:LTb) (plan:LS) (m:Nat) (st_:St) (K:KX):Prop:=True/\cw (t:=ah) (s161_0 LK plan) plan (F.jb LK plan) (fun v0:(List aH.D)=>True) (bz (fun v0:(List aH.D)=>True->K (.exit 0) (⟨[(6,.own 6 none)],[(6,.arr .sh aH v0)]⟩:St)) (fun q0:Unit=>K .ret (⟨[(4,.own 4 none),(5,dB false)],[(4,.arr .sh aH [])]⟩:St))) m st_
def L161 (LK:LTb) (plan:LS):bK:=lp1 0 (LP161_0 LK plan)
theorem vc161 (LK:LTb) (plan:LS) (K:KA):vcT C161 (L161 LK plan) ann161 f161 [.data TTb LK,.data TSS plan] [] (.tup [(Ty.sl aH),Ty.bool]) K =
 ((Sm TTb LK)/\cond ((!(M.bw LK))==false) (cond (!(M.inR (plan.length:Int) Z1 Z6)) (K (.tup [.data (Ty.sl aH) [],dB false]) []) (∃m_,True/\cw (t:=ah) (s161_0 LK plan) plan (F.jb LK plan) (fun v0:(List aH.D)=>True) (bz (fun v0:(List aH.D)=>True->K (.tup [.data (Ty.sl aH) v0,dB true]) []) (fun q0:Unit=>K (.tup [.data (Ty.sl aH) [],dB false]) [])) m_ (s161_0 LK plan Z0 []))) (K (.tup [.data (Ty.sl aH) [],dB false]) [])):=by kernel_rfl
theorem lvc161_0 (LK:LTb) (plan:LS)  (i0:Int) (v0:(List aH.D)) (m:Nat) (K:KX):lvT C161 (L161 LK plan) ann161 f161 0 0 (s161_0 LK plan i0 v0) m K =
 (cond (decide (i0<(plan.length:Int))) ((0<=i0)/\(i0<(plan.length:Int))/\(Sm ah (nS plan i0))/\(Sm TTb LK)/\(Sm (Ty.sl aH) v0)/\(LD (M.make (nS plan i0) LK v0) fun r1=>cond ((!r1.2)==false) (cond (decide ((300:Int)<r1.1.2.1)) (K .ret (⟨[(4,.own 4 none),(5,dB false)],[(4,.arr .sh aH [])]⟩:St)) (((v0.length+[r1.1].length) * 32<=lim)/\(nxT (LP161_0 LK plan) m K (s161_0 LK plan (wrap64 (i0+Z1)) (v0++[r1.1]))))) (K .ret (⟨[(4,.own 4 none),(5,dB false)],[(4,.arr .sh aH [])]⟩:St)))) (K (.exit 0) (⟨[(6,.own 6 none)],[(6,.arr .sh aH v0)]⟩:St))):=by kernel_rfl
theorem con161_ok:bt P 161 c161:=bA C161 func161 (kC con28_ok (kC con132_ok (kC con206_ok kN))) fun args hp K h0=>by
 obtain⟨LK,plan,rfl,rfl,LO,LQ,hK⟩:=g2e h0
 have h:ok (F.nq LK plan) (fun r=>K (.tup [.data (Ty.sl aH) r.1,dB r.2]) []):=aA (F.AZ LK plan LO LQ) (hK _ rfl)
 refine⟨rfl,ann161,(L161 LK plan),(.tup [(Ty.sl aH),Ty.bool]),(bW (i0:=0) (by kernel_rfl) ?_),?_⟩
 ·rintro _ _ K ⟨hc0,i0,v0,rfl,hl0,rfl,hv0,h⟩
  exact cast (lvc161_0 _ _ _ _ _ _).symm (bD (t:=ah) hl0 h (fun ht0 h=>⟨hl0,⟨ht0,⟨(aO LQ i0),⟨LO,(oG h fun _ h=>(oL h fun _ _ h=>(oC h (fun _ h=>(oC h (fun _ h=>h) fun _ h=>(oG h fun _ h=>(br (t:=ah) (fun _ hm=>⟨hc0,hm⟩) _ rfl hl0 ht0 (bC LQ) trivial h)))) fun _ h=>h)))⟩⟩⟩⟩) fun h=>(h trivial))
 ·rw[vc161]
  exact⟨LO,(oC h (fun _ h=>(oC h (fun _ h=>h) fun _ h=>(bu (t:=ah) (fun m hm=>⟨trivial,hm⟩) _ rfl trivial (bn h (fun v0 h hv0=>h) (fun q0 h=>h))))) fun _ h=>h)⟩
def c94:Con:=⟨[.dat TTb,.dat TSS],fun args hp K=>g2 (pD TTb) (pD TSS) (fun LK plan=>(Sm TTb LK)/\(Sm TSS plan)/\K (dB (M.bU LK plan)) []) args hp,.plain,false⟩
abbrev C94:Ctx:=cx [(161,c161)] 14 [] 0 false
def ann94:=an [[kp 3],[kp 64],[kp 16]] []
theorem vc94 (LK:LTb) (plan:LS) (K:KA):vcT C94 aB ann94 f94 [.data TTb LK,.data TSS plan] [] (.dat Ty.bool) K =
 ((Sm TTb LK)/\(Sm TSS plan)/\(LD (M.makes LK plan) fun r1=>K (dB r1.2) [])):=by kernel_rfl
theorem con94_ok:bt P 94 c94:=bA C94 func94 (kC con161_ok kN) fun args hp K h0=>by
 obtain⟨LK,plan,rfl,rfl,LO,LQ,hK⟩:=g2e h0
 have h:ok (F.sD LK plan) (fun r=>K (dB r) []):=aA (F.zI LK plan LO LQ) hK
 refine⟨rfl,ann94,aB,(.dat Ty.bool),(aL (by kernel_rfl)),?_⟩
 ·rw[vc94]
  exact⟨LO,⟨LQ,(oL h fun _ _ h=>h)⟩⟩
abbrev C96:Ctx:=cx [] 8 [] 800000 true
def T96:Inl:=rR C96 (fun _=>[]) (dO f96) f96.results.toList
theorem inlOk96:sw P 96 T96:=wA C96 func96 kN
abbrev C142:Ctx:=cx [] 9 [] 400000 true
def T142:Inl:=rR C142 (fun _=>[]) (dO f142) f142.results.toList
theorem inlOk142:sw P 142 T142:=wA C142 func142 kN
def c78:Con:=⟨[.dat (Ty.sl aE)],fun args hp K=>g1 (pD (Ty.sl aE)) (fun xs=>(Sm (Ty.sl aE) xs)/\(LD xs fun r=>K (.clp 0 (r.length:Int)) [(0,.arr .sh aE r)])) args hp,.bor,false⟩
abbrev C78:Ctx:=cx [] 9 [(142,T142)] 0 true
def ann78:=an [[kp 1],[kp 33],[.clip 2,kp 4],[kp 4]] []
theorem vc78 (xs:LI) (K:KA):vcT C78 aB ann78 f78 [.data (Ty.sl aE) xs] [] .raw K =
 (cond (decide ((xs.length:Int)=Z0)) (K (.clp 0 (([]:List aE.D).length:Int)) [(0,.arr .sh aE ([]:List aE.D))]) ((xs.length * 8<=lim)/\(0<=Z0)/\(Z0<=(xs.length:Int))/\((xs.length:Int)<=(xs.length:Int))/\((xs.length:Int)=(xs.length:Int))/\(Z0=0)/\K (.clp 0 ((xs.take (xs.length:Int).toNat).length:Int)) [(0,.arr .sh aE (xs.take (xs.length:Int).toNat))])):=by kernel_rfl
theorem con78_ok:bt P 78 c78:=bA C78 func78 (kI inlOk142 kN) fun args hp K h0=>by
 obtain⟨xs,rfl,rfl,h_xs,hK⟩:=g1e h0
 have h:ok (F.uK xs) (fun r=>K (.clp 0 (r.length:Int)) [(0,.arr .sh aE r)]):=aA (F.ym xs h_xs) (hK _ rfl)
 refine⟨rfl,ann78,aB,.raw,(aL (by kernel_rfl)),?_⟩
 ·rw[vc78]
  exact(oC h (fun _ h=>h) fun _ h=>⟨(AH h_xs rfl),⟨(Int.natCast_nonneg 0),⟨(Int.natCast_nonneg _),⟨(Int.le_refl _),⟨rfl,⟨rfl,h⟩⟩⟩⟩⟩⟩)
abbrev C236:Ctx:=cx [] 9 [] 400000 true
def T236:Inl:=rR C236 (fun _=>[]) (dO f236) f236.results.toList
theorem inlOk236:sw P 236 T236:=wA C236 func236 kN
def c207:Con:=⟨[.dat TPS],fun args hp K=>g1 (pD TPS) (fun xs=>(Sm TPS xs)/\(LD xs fun r=>K (.clp 0 (r.length:Int)) [(0,.arr .sh aD r)])) args hp,.bor,false⟩
abbrev C207:Ctx:=cx [] 9 [(236,T236)] 0 true
def ann207:=an [[kp 1],[kp 33],[.clip 2,kp 4],[kp 4]] []
theorem vc207 (xs:LPt) (K:KA):vcT C207 aB ann207 f207 [.data TPS xs] [] .raw K =
 (cond (decide ((xs.length:Int)=Z0)) (K (.clp 0 (([]:List aD.D).length:Int)) [(0,.arr .sh aD ([]:List aD.D))]) ((xs.length * 48<=lim)/\(0<=Z0)/\(Z0<=(xs.length:Int))/\((xs.length:Int)<=(xs.length:Int))/\((xs.length:Int)=(xs.length:Int))/\(Z0=0)/\K (.clp 0 ((xs.take (xs.length:Int).toNat).length:Int)) [(0,.arr .sh aD (xs.take (xs.length:Int).toNat))])):=by kernel_rfl
theorem con207_ok:bt P 207 c207:=bA C207 func207 (kI inlOk236 kN) fun args hp K h0=>by
 obtain⟨xs,rfl,rfl,h_xs,hK⟩:=g1e h0
 have h:ok (F.xD xs) (fun r=>K (.clp 0 (r.length:Int)) [(0,.arr .sh aD r)]):=aA (F.zj xs h_xs) (hK _ rfl)
 refine⟨rfl,ann207,aB,.raw,(aL (by kernel_rfl)),?_⟩
 ·rw[vc207]
  exact(oC h (fun _ h=>h) fun _ h=>⟨(AH h_xs rfl),⟨(Int.natCast_nonneg 0),⟨(Int.natCast_nonneg _),⟨(Int.le_refl _),⟨rfl,⟨rfl,h⟩⟩⟩⟩⟩⟩)
abbrev C162:Ctx:=cx [(78,c78),(207,c207)] 12 [] 200000 true
def T162:Inl:=rR C162 (fun _=>[]) (dO f162) f162.results.toList
theorem inlOk162:sw P 162 T162:=wA C162 func162 (kC con78_ok (kC con207_ok kN))
def c163:Con:=⟨[.dat aE],fun args hp K=>g1 (pD aE) (fun kind=>K (dB (M.two kind)) []) args hp,.plain,false⟩
abbrev C163:Ctx:=cx [] 9 [] 0 false
def ann163:=an [[kp 1],[kp 4]] []
theorem vc163 (kind:Int) (K:KA):vcT C163 aB ann163 f163 [dI kind] [] (.dat Ty.bool) K =
 (cond ((decide (kind=Z4))==false) (K (dB (decide (kind=Z5))) []) (K (dB true) [])):=by kernel_rfl
theorem con163_ok:bt P 163 c163:=bA C163 func163 kN fun args hp K h0=>by
 obtain⟨kind,rfl,rfl,hK⟩:=g1e h0
 have h:ok (F.rJ kind) (fun r=>K (dB r) []):=aA (F.AF kind) hK
 refine⟨rfl,ann163,aB,(.dat Ty.bool),(aL (by kernel_rfl)),?_⟩
 ·rw[vc163]
  exact(oC h (fun _ h=>h) fun _ h=>h)
abbrev C95:Ctx:=cx [(163,c163)] 25 [(96,T96),(162,T162)] 600000 true
def T95:Inl:=rR C95 (fun _=>[]) (dO f95) f95.results.toList
theorem inlOk95:sw P 95 T95:=wA C95 func95 (kC con163_ok (kI inlOk96 (kI inlOk162 kN)))
def c97:Con:=⟨[.dat TGS,.dat aE],fun args hp K=>g2 (pD TGS) (pD aE) (fun LL n=>(Sm TGS LL)/\(LD (M.guardOf LL n) fun r=>K (.tup [.data TPS r.1,dB r.2]) [])) args hp,.plain,false⟩
abbrev C97:Ctx:=cx [] 21 [] 0 false
def ann97:=an [[kp 3],[kp 1794],[kp 3842],[.fixRow 7 aI,kp 1922],[kp 132994],[kp 48],[kp 1794],[kp 48]] [[kp 0]]
abbrev s97_0 (LL:LG) (n:Int) (i0:Int) (v0:Unit):St:=⟨[(1,dI n),(8,.data TGS LL),(9,dI (LL.length:Int)),(10,dI i0)],[]⟩
abbrev LP97_0 (LL:LG) (n:Int) (m:Nat) (st_:St) (K:KX):Prop:=True/\cw (t:=aI) (s97_0 LL n) LL (F.gG LL n) (fun v0:Unit=>True) (bz (fun v0:Unit=>True->K (.exit 0) (⟨[],[]⟩:St)) (fun q0:LPt=>K .ret (⟨[(4,.data TPS q0),(5,dB true)],[]⟩:St))) m st_
def L97 (LL:LG) (n:Int):bK:=lp1 0 (LP97_0 LL n)
theorem vc97 (LL:LG) (n:Int) (K:KA):vcT C97 (L97 LL n) ann97 f97 [.data TGS LL,dI n] [] (.tup [TPS,Ty.bool]) K =
 (∃m_,True/\cw (t:=aI) (s97_0 LL n) LL (F.gG LL n) (fun v0:Unit=>True) (bz (fun v0:Unit=>True->K (.tup [.data TPS [],dB false]) []) (fun q0:LPt=>K (.tup [.data TPS q0,dB true]) [])) m_ (s97_0 LL n Z0 ())):=by kernel_rfl
theorem lvc97_0 (LL:LG) (n:Int)  (i0:Int) (v0:Unit) (m:Nat) (K:KX):lvT C97 (L97 LL n) ann97 f97 0 0 (s97_0 LL n i0 v0) m K =
 (cond (decide (i0<(LL.length:Int))) ((0<=i0)/\(i0<(LL.length:Int))/\cond (decide ((nG LL i0).1=n)) (K .ret (⟨[(4,.data TPS (nG LL i0).2.1),(5,dB true)],[]⟩:St)) (nxT (LP97_0 LL n) m K (s97_0 LL n (wrap64 (i0+Z1)) ()))) (K (.exit 0) (⟨[],[]⟩:St))):=by kernel_rfl
theorem con97_ok:bt P 97 c97:=bA C97 func97 kN fun args hp K h0=>by
 obtain⟨LL,n,rfl,rfl,LR,hK⟩:=g2e h0
 have h:ok (F.qK LL n) (fun r=>K (.tup [.data TPS r.1,dB r.2]) []):=aA (F.yu LL n LR) (hK _ rfl)
 refine⟨rfl,ann97,(L97 LL n),(.tup [TPS,Ty.bool]),(bW (i0:=0) (by kernel_rfl) ?_),?_⟩
 ·rintro _ _ K ⟨hc0,i0,v0,rfl,hl0,rfl,hv0,h⟩
  exact cast (lvc97_0 _ _ _ _ _ _).symm (bD (t:=aI) hl0 h (fun ht0 h=>⟨hl0,⟨ht0,(oC h (fun _ h=>h) fun _ h=>(br (t:=aI) (fun _ hm=>⟨hc0,hm⟩) _ rfl hl0 ht0 (bC LR) trivial h))⟩⟩) fun h=>(h trivial))
 ·rw[vc97]
  exact(bu (t:=aI) (fun m hm=>⟨trivial,hm⟩) _ rfl trivial (bn h (fun v0 h hv0=>h) (fun q0 h=>h)))
abbrev C164:Ctx:=cx [] 9 [] 500000 true
def T164:Inl:=rR C164 (fun _=>[]) (dO f164) f164.results.toList
theorem inlOk164:sw P 164 T164:=wA C164 func164 kN
def c98:Con:=⟨[.dat TSS],fun args hp K=>g1 (pD TSS) (fun plan=>(Sm TSS plan)/\(LD plan fun r=>K (.own 0 none) [(0,.arr .dp ah r)])) args hp,.bor,false⟩
abbrev C98:Ctx:=cx [] 20 [(162,T162),(164,T164)] 0 true
def ann98:=an [[kp 1],[kp 9],[kp 456],[kp 968],[.fixRow 5 ah,kp 488],[kp 456],[kp 456],[kp 4]] [[kp 8]]
abbrev s98_0 (plan:LS) (i0:Int) (v0:LS):St:=⟨[(3,.own 3 none),(6,.data TSS plan),(7,dI (plan.length:Int)),(8,dI i0)],[(3,.arr .dp ah v0)]⟩
abbrev LP98_0 (plan:LS) (m:Nat) (st_:St) (K:KX):Prop:=True/\cw (t:=ah) (s98_0 plan) plan (F.iI plan) (fun v0:LS=>True) (bz (fun v0:LS=>True->K (.exit 0) (⟨[(3,.own 3 none)],[(3,.arr .dp ah v0)]⟩:St)) (fun _=>False)) m st_
def L98 (plan:LS):bK:=lp1 0 (LP98_0 plan)
theorem vc98 (plan:LS) (K:KA):vcT C98 (L98 plan) ann98 f98 [.data TSS plan] [] .raw K =
 (∃m_,True/\cw (t:=ah) (s98_0 plan) plan (F.iI plan) (fun v0:LS=>True) (bz (fun v0:LS=>True->(0<=Z0)/\(Z0<=(v0.length:Int))/\((v0.length:Int)<=(v0.length:Int))/\((v0.length:Int)=(v0.length:Int))/\(Z0=0)/\K (.own 0 none) [(0,.arr .dp ah (v0.take (v0.length:Int).toNat))]) (fun _=>False)) m_ (s98_0 plan Z0 [])):=by kernel_rfl
theorem lvc98_0 (plan:LS)  (i0:Int) (v0:LS) (m:Nat) (K:KX):lvT C98 (L98 plan) ann98 f98 0 0 (s98_0 plan i0 v0) m K =
 (cond (decide (i0<(plan.length:Int))) ((0<=i0)/\(i0<(plan.length:Int))/\(Sm TPS (nS plan i0).2.2.2.2.1)/\(LD (nS plan i0).2.2.2.2.1 fun r1=>(Sm (Ty.sl aE) (nS plan i0).2.2.2.2.2.1)/\(LD (nS plan i0).2.2.2.2.2.1 fun r2=>((v0.length+[((nS plan i0).1,((nS plan i0).2.1,((nS plan i0).2.2.1,((nS plan i0).2.2.2.1,((aj r1 (some (Z0,(r1.length:Int)))),((aj r2 (some (Z0,(r2.length:Int)))),()))))))].length) * 80<=lim)/\(nxT (LP98_0 plan) m K (s98_0 plan (wrap64 (i0+Z1)) (v0++[((nS plan i0).1,((nS plan i0).2.1,((nS plan i0).2.2.1,((nS plan i0).2.2.2.1,((aj r1 (some (Z0,(r1.length:Int)))),((aj r2 (some (Z0,(r2.length:Int)))),()))))))])))))) (K (.exit 0) (⟨[(3,.own 3 none)],[(3,.arr .dp ah v0)]⟩:St))):=by kernel_rfl
theorem con98_ok:bt P 98 c98:=bA C98 func98 (kI inlOk162 (kI inlOk164 kN)) fun args hp K h0=>by
 obtain⟨plan,rfl,rfl,LQ,hK⟩:=g1e h0
 have h:ok (F.oV plan) (fun r=>K (.own 0 none) [(0,.arr .dp ah r)]):=aA (F.xe plan LQ) (hK _ rfl)
 refine⟨rfl,ann98,(L98 plan),.raw,(bW (i0:=0) (by kernel_rfl) ?_),?_⟩
 ·rintro _ _ K ⟨hc0,i0,v0,rfl,hl0,rfl,hv0,h⟩
  exact cast (lvc98_0 _ _ _ _ _).symm (bD (t:=ah) hl0 h (fun ht0 h=>⟨hl0,⟨ht0,⟨(aO LQ i0).2.2.2.2.1,(oL h fun _ _ h=>⟨(aO LQ i0).2.2.2.2.2.1,(oL h fun _ _ h=>(oG h fun _ h=>(br (t:=ah) (fun _ hm=>⟨hc0,hm⟩) _ rfl hl0 ht0 (bC LQ) trivial h)))⟩)⟩⟩⟩) fun h=>(h trivial))
 ·rw[vc98]
  exact(bu (t:=ah) (fun m hm=>⟨trivial,hm⟩) _ rfl trivial (bn h (fun v0 h hv0=>⟨(Int.natCast_nonneg 0),⟨(Int.natCast_nonneg _),⟨(Int.le_refl _),⟨rfl,⟨rfl,h⟩⟩⟩⟩⟩) (fun _ h=>h.elim)))
def c43:Con:=⟨[.dat TTb,.dat TGS,.dat TSS],fun args hp K=>g3 (pD TTb) (pD TGS) (pD TSS) (fun LK LL plan=>(Sm TTb LK)/\(Sm TGS LL)/\(Sm TSS plan)/\(LD (M.bB LK LL plan) fun r=>K (.tup [.clp 0 (r.1.length:Int),dB r.2]) [(0,.arr .dp ah r.1)])) args hp,.bor,false⟩
abbrev C43:Ctx:=cx [(93,c93),(94,c94),(97,c97),(98,c98)] 73 [(95,T95),(96,T96)] 0 true
def ann43:=an [[kp 7],[kp 8388614],[.clip 6,kp 192],[.fixBox 8,kp 262],[.weak 9,kp 774],[kp 939524866],[kp 2013266690],[.fixRow 11 ah,kp 939527938],[kp 939527938],[kp 939540226],[kp 4503600566900482],[kp 939525890],[kp 939524866],[kp 939524866],[.keep [9,70]],[.clip 6,kp 192],[.clip 6,kp 192]] [[kp 512]]
abbrev s43_0 (LK:LTb) (LL:LG) (plan:LS) (i0:Int) (v0:LS×LI):St:=⟨[(1,.data TGS LL),(8,.ptr 8 0),(9,.own 9 none),(27,.data TSS plan),(28,dI (plan.length:Int)),(29,dI i0)],[(8,.box [.own 26 none]),(9,.arr .sh ah v0.1),(26,.arr .sh aE v0.2)]⟩
abbrev LP43_0 (LK:LTb) (LL:LG) (plan:LS) (m:Nat) (st_:St) (K:KX):Prop:=True/\dc (s43_0 LK LL plan) Z0 (plan.length:Int) (F.eX LK LL plan) (fun v0:LS×LI=>True) (bz (fun v0:LS×LI=>True->K (.exit 0) (⟨[(9,.own 9 none)],[(9,.arr .sh ah v0.1)]⟩:St)) (fun _=>False)) m st_
def L43 (LK:LTb) (LL:LG) (plan:LS):bK:=lp1 0 (LP43_0 LK LL plan)
abbrev S43_0 (LK:LTb) (LL:LG) (plan:LS) (K:KA):Prop:=K (.tup [.clp 0 (([]:List ah.D).length:Int),dB false]) [(0,.arr .dp ah ([]:List ah.D))]
theorem vc43 (LK:LTb) (LL:LG) (plan:LS) (K:KA):vcT C43 (L43 LK LL plan) ann43 f43 [.data TTb LK,.data TGS LL,.data TSS plan] [] .raw K =
 ((Sm TTb LK)/\(Sm TGS LL)/\cond ((!(M.bS LK LL))==false) ((Sm TTb LK)/\(Sm TSS plan)/\cond (!(M.bU LK plan)) (S43_0 LK LL plan K) (((plan.length:Int)=(plan.length:Int))/\(0<=(plan.length:Int))/\((plan.length:Int) * 8<=(lim:Int))/\(∃m_,True/\dc (s43_0 LK LL plan) Z0 (plan.length:Int) (F.eX LK LL plan) (fun v0:LS×LI=>True) (bz (fun v0:LS×LI=>True->cond (decide (Z6<(v0.1.length:Int))) (S43_0 LK LL plan K) ((Sm TSS v0.1)/\(LD v0.1 fun r1=>K (.tup [.clp 0 ((r1.take (r1.length:Int).toNat).length:Int),dB true]) [(0,.arr .dp ah (r1.take (r1.length:Int).toNat))]))) (fun _=>False)) m_ (s43_0 LK LL plan Z0 ([],(List.replicate (plan.length:Int).toNat Z0)))))) (S43_0 LK LL plan K)):=by kernel_rfl
theorem lvc43_0 (LK:LTb) (LL:LG) (plan:LS)  (i0:Int) (v0:LS×LI) (m:Nat) (K:KX):lvT C43 (L43 LK LL plan) ann43 f43 0 0 (s43_0 LK LL plan i0 v0) m K =
 (cond (decide (i0<(plan.length:Int))) ((0<=i0)/\(i0<(plan.length:Int))/\(Sm TPS (nS plan i0).2.2.2.2.1)/\(LD (nS plan i0).2.2.2.2.1 fun r2=>(Sm (Ty.sl aE) (nS plan i0).2.2.2.2.2.1)/\(LD (nS plan i0).2.2.2.2.2.1 fun r3=>cond (!decide ((nS plan i0).1=Z1)) ((0<=(nS plan i0).2.1)/\((nS plan i0).2.1<(v0.2.length:Int))/\cond (M.two (nS plan i0).1) ((0<=(nS plan i0).2.2.1)/\((nS plan i0).2.2.1<(v0.2.length:Int))/\((v0.1.length+[((nS plan i0).1,((nI v0.2 (nS plan i0).2.1),((nI v0.2 (nS plan i0).2.2.1),((nS plan i0).2.2.2.1,((aj r2 (some (Z0,(r2.length:Int)))),((aj r3 (some (Z0,(r3.length:Int)))),()))))))].length) * 80<=lim)/\(Sm TGS LL)/\(LD (M.guardOf LL (nS plan i0).2.2.2.1) fun r4=>cond (r4.2==true) (cond (decide ((nS plan i0).1=Z1)) ((((v0.1++[((nS plan i0).1,((nI v0.2 (nS plan i0).2.1),((nI v0.2 (nS plan i0).2.2.1),((nS plan i0).2.2.2.1,((aj r2 (some (Z0,(r2.length:Int)))),((aj r3 (some (Z0,(r3.length:Int)))),()))))))]).length+([(Z2,(wrap64 (((v0.1++[((nS plan i0).1,((nI v0.2 (nS plan i0).2.1),((nI v0.2 (nS plan i0).2.2.1),((nS plan i0).2.2.2.1,((aj r2 (some (Z0,(r2.length:Int)))),((aj r3 (some (Z0,(r3.length:Int)))),()))))))]).length:Int)-Z1),(Z0,(Z0,(r4.1,([],()))))))]:List ah.D).length) * 80<=lim)/\(0<=i0)/\(i0<(v0.2.length:Int))/\(let y1:LI:=(v0.2.set i0.toNat (wrap64 ((((v0.1++[((nS plan i0).1,((nI v0.2 (nS plan i0).2.1),((nI v0.2 (nS plan i0).2.2.1),((nS plan i0).2.2.2.1,((aj r2 (some (Z0,(r2.length:Int)))),((aj r3 (some (Z0,(r3.length:Int)))),()))))))])++[(Z2,(wrap64 (((v0.1++[((nS plan i0).1,((nI v0.2 (nS plan i0).2.1),((nI v0.2 (nS plan i0).2.2.1),((nS plan i0).2.2.2.1,((aj r2 (some (Z0,(r2.length:Int)))),((aj r3 (some (Z0,(r3.length:Int)))),()))))))]).length:Int)-Z1),(Z0,(Z0,(r4.1,([],()))))))]).length:Int)-Z1)));(nxT (LP43_0 LK LL plan) m K (s43_0 LK LL plan (wrap64 (i0+Z1)) (((v0.1++[((nS plan i0).1,((nI v0.2 (nS plan i0).2.1),((nI v0.2 (nS plan i0).2.2.1),((nS plan i0).2.2.2.1,((aj r2 (some (Z0,(r2.length:Int)))),((aj r3 (some (Z0,(r3.length:Int)))),()))))))])++[(Z2,(wrap64 (((v0.1++[((nS plan i0).1,((nI v0.2 (nS plan i0).2.1),((nI v0.2 (nS plan i0).2.2.1),((nS plan i0).2.2.2.1,((aj r2 (some (Z0,(r2.length:Int)))),((aj r3 (some (Z0,(r3.length:Int)))),()))))))]).length:Int)-Z1),(Z0,(Z0,(r4.1,([],()))))))]),y1))))) ((0<=i0)/\(i0<(v0.2.length:Int))/\(let y1:LI:=(v0.2.set i0.toNat (wrap64 (((v0.1++[((nS plan i0).1,((nI v0.2 (nS plan i0).2.1),((nI v0.2 (nS plan i0).2.2.1),((nS plan i0).2.2.2.1,((aj r2 (some (Z0,(r2.length:Int)))),((aj r3 (some (Z0,(r3.length:Int)))),()))))))]).length:Int)-Z1)));(nxT (LP43_0 LK LL plan) m K (s43_0 LK LL plan (wrap64 (i0+Z1)) ((v0.1++[((nS plan i0).1,((nI v0.2 (nS plan i0).2.1),((nI v0.2 (nS plan i0).2.2.1),((nS plan i0).2.2.2.1,((aj r2 (some (Z0,(r2.length:Int)))),((aj r3 (some (Z0,(r3.length:Int)))),()))))))]),y1)))))) ((0<=i0)/\(i0<(v0.2.length:Int))/\(let y1:LI:=(v0.2.set i0.toNat (wrap64 (((v0.1++[((nS plan i0).1,((nI v0.2 (nS plan i0).2.1),((nI v0.2 (nS plan i0).2.2.1),((nS plan i0).2.2.2.1,((aj r2 (some (Z0,(r2.length:Int)))),((aj r3 (some (Z0,(r3.length:Int)))),()))))))]).length:Int)-Z1)));(nxT (LP43_0 LK LL plan) m K (s43_0 LK LL plan (wrap64 (i0+Z1)) ((v0.1++[((nS plan i0).1,((nI v0.2 (nS plan i0).2.1),((nI v0.2 (nS plan i0).2.2.1),((nS plan i0).2.2.2.1,((aj r2 (some (Z0,(r2.length:Int)))),((aj r3 (some (Z0,(r3.length:Int)))),()))))))]),y1))))))) (((v0.1.length+[((nS plan i0).1,((nI v0.2 (nS plan i0).2.1),((nS plan i0).2.2.1,((nS plan i0).2.2.2.1,((aj r2 (some (Z0,(r2.length:Int)))),((aj r3 (some (Z0,(r3.length:Int)))),()))))))].length) * 80<=lim)/\(Sm TGS LL)/\(LD (M.guardOf LL (nS plan i0).2.2.2.1) fun r4=>cond (r4.2==true) (cond (decide ((nS plan i0).1=Z1)) ((((v0.1++[((nS plan i0).1,((nI v0.2 (nS plan i0).2.1),((nS plan i0).2.2.1,((nS plan i0).2.2.2.1,((aj r2 (some (Z0,(r2.length:Int)))),((aj r3 (some (Z0,(r3.length:Int)))),()))))))]).length+([(Z2,(wrap64 (((v0.1++[((nS plan i0).1,((nI v0.2 (nS plan i0).2.1),((nS plan i0).2.2.1,((nS plan i0).2.2.2.1,((aj r2 (some (Z0,(r2.length:Int)))),((aj r3 (some (Z0,(r3.length:Int)))),()))))))]).length:Int)-Z1),(Z0,(Z0,(r4.1,([],()))))))]:List ah.D).length) * 80<=lim)/\(0<=i0)/\(i0<(v0.2.length:Int))/\(let y1:LI:=(v0.2.set i0.toNat (wrap64 ((((v0.1++[((nS plan i0).1,((nI v0.2 (nS plan i0).2.1),((nS plan i0).2.2.1,((nS plan i0).2.2.2.1,((aj r2 (some (Z0,(r2.length:Int)))),((aj r3 (some (Z0,(r3.length:Int)))),()))))))])++[(Z2,(wrap64 (((v0.1++[((nS plan i0).1,((nI v0.2 (nS plan i0).2.1),((nS plan i0).2.2.1,((nS plan i0).2.2.2.1,((aj r2 (some (Z0,(r2.length:Int)))),((aj r3 (some (Z0,(r3.length:Int)))),()))))))]).length:Int)-Z1),(Z0,(Z0,(r4.1,([],()))))))]).length:Int)-Z1)));(nxT (LP43_0 LK LL plan) m K (s43_0 LK LL plan (wrap64 (i0+Z1)) (((v0.1++[((nS plan i0).1,((nI v0.2 (nS plan i0).2.1),((nS plan i0).2.2.1,((nS plan i0).2.2.2.1,((aj r2 (some (Z0,(r2.length:Int)))),((aj r3 (some (Z0,(r3.length:Int)))),()))))))])++[(Z2,(wrap64 (((v0.1++[((nS plan i0).1,((nI v0.2 (nS plan i0).2.1),((nS plan i0).2.2.1,((nS plan i0).2.2.2.1,((aj r2 (some (Z0,(r2.length:Int)))),((aj r3 (some (Z0,(r3.length:Int)))),()))))))]).length:Int)-Z1),(Z0,(Z0,(r4.1,([],()))))))]),y1))))) ((0<=i0)/\(i0<(v0.2.length:Int))/\(let y1:LI:=(v0.2.set i0.toNat (wrap64 (((v0.1++[((nS plan i0).1,((nI v0.2 (nS plan i0).2.1),((nS plan i0).2.2.1,((nS plan i0).2.2.2.1,((aj r2 (some (Z0,(r2.length:Int)))),((aj r3 (some (Z0,(r3.length:Int)))),()))))))]).length:Int)-Z1)));(nxT (LP43_0 LK LL plan) m K (s43_0 LK LL plan (wrap64 (i0+Z1)) ((v0.1++[((nS plan i0).1,((nI v0.2 (nS plan i0).2.1),((nS plan i0).2.2.1,((nS plan i0).2.2.2.1,((aj r2 (some (Z0,(r2.length:Int)))),((aj r3 (some (Z0,(r3.length:Int)))),()))))))]),y1)))))) ((0<=i0)/\(i0<(v0.2.length:Int))/\(let y1:LI:=(v0.2.set i0.toNat (wrap64 (((v0.1++[((nS plan i0).1,((nI v0.2 (nS plan i0).2.1),((nS plan i0).2.2.1,((nS plan i0).2.2.2.1,((aj r2 (some (Z0,(r2.length:Int)))),((aj r3 (some (Z0,(r3.length:Int)))),()))))))]).length:Int)-Z1)));(nxT (LP43_0 LK LL plan) m K (s43_0 LK LL plan (wrap64 (i0+Z1)) ((v0.1++[((nS plan i0).1,((nI v0.2 (nS plan i0).2.1),((nS plan i0).2.2.1,((nS plan i0).2.2.2.1,((aj r2 (some (Z0,(r2.length:Int)))),((aj r3 (some (Z0,(r3.length:Int)))),()))))))]),y1)))))))) (cond (M.two (nS plan i0).1) ((0<=(nS plan i0).2.2.1)/\((nS plan i0).2.2.1<(v0.2.length:Int))/\((v0.1.length+[((nS plan i0).1,((nS plan i0).2.1,((nI v0.2 (nS plan i0).2.2.1),((nS plan i0).2.2.2.1,((aj r2 (some (Z0,(r2.length:Int)))),((aj r3 (some (Z0,(r3.length:Int)))),()))))))].length) * 80<=lim)/\(Sm TGS LL)/\(LD (M.guardOf LL (nS plan i0).2.2.2.1) fun r4=>cond (r4.2==true) (cond (decide ((nS plan i0).1=Z1)) ((((v0.1++[((nS plan i0).1,((nS plan i0).2.1,((nI v0.2 (nS plan i0).2.2.1),((nS plan i0).2.2.2.1,((aj r2 (some (Z0,(r2.length:Int)))),((aj r3 (some (Z0,(r3.length:Int)))),()))))))]).length+([(Z2,(wrap64 (((v0.1++[((nS plan i0).1,((nS plan i0).2.1,((nI v0.2 (nS plan i0).2.2.1),((nS plan i0).2.2.2.1,((aj r2 (some (Z0,(r2.length:Int)))),((aj r3 (some (Z0,(r3.length:Int)))),()))))))]).length:Int)-Z1),(Z0,(Z0,(r4.1,([],()))))))]:List ah.D).length) * 80<=lim)/\(0<=i0)/\(i0<(v0.2.length:Int))/\(let y1:LI:=(v0.2.set i0.toNat (wrap64 ((((v0.1++[((nS plan i0).1,((nS plan i0).2.1,((nI v0.2 (nS plan i0).2.2.1),((nS plan i0).2.2.2.1,((aj r2 (some (Z0,(r2.length:Int)))),((aj r3 (some (Z0,(r3.length:Int)))),()))))))])++[(Z2,(wrap64 (((v0.1++[((nS plan i0).1,((nS plan i0).2.1,((nI v0.2 (nS plan i0).2.2.1),((nS plan i0).2.2.2.1,((aj r2 (some (Z0,(r2.length:Int)))),((aj r3 (some (Z0,(r3.length:Int)))),()))))))]).length:Int)-Z1),(Z0,(Z0,(r4.1,([],()))))))]).length:Int)-Z1)));(nxT (LP43_0 LK LL plan) m K (s43_0 LK LL plan (wrap64 (i0+Z1)) (((v0.1++[((nS plan i0).1,((nS plan i0).2.1,((nI v0.2 (nS plan i0).2.2.1),((nS plan i0).2.2.2.1,((aj r2 (some (Z0,(r2.length:Int)))),((aj r3 (some (Z0,(r3.length:Int)))),()))))))])++[(Z2,(wrap64 (((v0.1++[((nS plan i0).1,((nS plan i0).2.1,((nI v0.2 (nS plan i0).2.2.1),((nS plan i0).2.2.2.1,((aj r2 (some (Z0,(r2.length:Int)))),((aj r3 (some (Z0,(r3.length:Int)))),()))))))]).length:Int)-Z1),(Z0,(Z0,(r4.1,([],()))))))]),y1))))) ((0<=i0)/\(i0<(v0.2.length:Int))/\(let y1:LI:=(v0.2.set i0.toNat (wrap64 (((v0.1++[((nS plan i0).1,((nS plan i0).2.1,((nI v0.2 (nS plan i0).2.2.1),((nS plan i0).2.2.2.1,((aj r2 (some (Z0,(r2.length:Int)))),((aj r3 (some (Z0,(r3.length:Int)))),()))))))]).length:Int)-Z1)));(nxT (LP43_0 LK LL plan) m K (s43_0 LK LL plan (wrap64 (i0+Z1)) ((v0.1++[((nS plan i0).1,((nS plan i0).2.1,((nI v0.2 (nS plan i0).2.2.1),((nS plan i0).2.2.2.1,((aj r2 (some (Z0,(r2.length:Int)))),((aj r3 (some (Z0,(r3.length:Int)))),()))))))]),y1)))))) ((0<=i0)/\(i0<(v0.2.length:Int))/\(let y1:LI:=(v0.2.set i0.toNat (wrap64 (((v0.1++[((nS plan i0).1,((nS plan i0).2.1,((nI v0.2 (nS plan i0).2.2.1),((nS plan i0).2.2.2.1,((aj r2 (some (Z0,(r2.length:Int)))),((aj r3 (some (Z0,(r3.length:Int)))),()))))))]).length:Int)-Z1)));(nxT (LP43_0 LK LL plan) m K (s43_0 LK LL plan (wrap64 (i0+Z1)) ((v0.1++[((nS plan i0).1,((nS plan i0).2.1,((nI v0.2 (nS plan i0).2.2.1),((nS plan i0).2.2.2.1,((aj r2 (some (Z0,(r2.length:Int)))),((aj r3 (some (Z0,(r3.length:Int)))),()))))))]),y1))))))) (((v0.1.length+[((nS plan i0).1,((nS plan i0).2.1,((nS plan i0).2.2.1,((nS plan i0).2.2.2.1,((aj r2 (some (Z0,(r2.length:Int)))),((aj r3 (some (Z0,(r3.length:Int)))),()))))))].length) * 80<=lim)/\(Sm TGS LL)/\(LD (M.guardOf LL (nS plan i0).2.2.2.1) fun r4=>cond (r4.2==true) (cond (decide ((nS plan i0).1=Z1)) ((((v0.1++[((nS plan i0).1,((nS plan i0).2.1,((nS plan i0).2.2.1,((nS plan i0).2.2.2.1,((aj r2 (some (Z0,(r2.length:Int)))),((aj r3 (some (Z0,(r3.length:Int)))),()))))))]).length+([(Z2,(wrap64 (((v0.1++[((nS plan i0).1,((nS plan i0).2.1,((nS plan i0).2.2.1,((nS plan i0).2.2.2.1,((aj r2 (some (Z0,(r2.length:Int)))),((aj r3 (some (Z0,(r3.length:Int)))),()))))))]).length:Int)-Z1),(Z0,(Z0,(r4.1,([],()))))))]:List ah.D).length) * 80<=lim)/\(0<=i0)/\(i0<(v0.2.length:Int))/\(let y1:LI:=(v0.2.set i0.toNat (wrap64 ((((v0.1++[((nS plan i0).1,((nS plan i0).2.1,((nS plan i0).2.2.1,((nS plan i0).2.2.2.1,((aj r2 (some (Z0,(r2.length:Int)))),((aj r3 (some (Z0,(r3.length:Int)))),()))))))])++[(Z2,(wrap64 (((v0.1++[((nS plan i0).1,((nS plan i0).2.1,((nS plan i0).2.2.1,((nS plan i0).2.2.2.1,((aj r2 (some (Z0,(r2.length:Int)))),((aj r3 (some (Z0,(r3.length:Int)))),()))))))]).length:Int)-Z1),(Z0,(Z0,(r4.1,([],()))))))]).length:Int)-Z1)));(nxT (LP43_0 LK LL plan) m K (s43_0 LK LL plan (wrap64 (i0+Z1)) (((v0.1++[((nS plan i0).1,((nS plan i0).2.1,((nS plan i0).2.2.1,((nS plan i0).2.2.2.1,((aj r2 (some (Z0,(r2.length:Int)))),((aj r3 (some (Z0,(r3.length:Int)))),()))))))])++[(Z2,(wrap64 (((v0.1++[((nS plan i0).1,((nS plan i0).2.1,((nS plan i0).2.2.1,((nS plan i0).2.2.2.1,((aj r2 (some (Z0,(r2.length:Int)))),((aj r3 (some (Z0,(r3.length:Int)))),()))))))]).length:Int)-Z1),(Z0,(Z0,(r4.1,([],()))))))]),y1))))) ((0<=i0)/\(i0<(v0.2.length:Int))/\(let y1:LI:=(v0.2.set i0.toNat (wrap64 (((v0.1++[((nS plan i0).1,((nS plan i0).2.1,((nS plan i0).2.2.1,((nS plan i0).2.2.2.1,((aj r2 (some (Z0,(r2.length:Int)))),((aj r3 (some (Z0,(r3.length:Int)))),()))))))]).length:Int)-Z1)));(nxT (LP43_0 LK LL plan) m K (s43_0 LK LL plan (wrap64 (i0+Z1)) ((v0.1++[((nS plan i0).1,((nS plan i0).2.1,((nS plan i0).2.2.1,((nS plan i0).2.2.2.1,((aj r2 (some (Z0,(r2.length:Int)))),((aj r3 (some (Z0,(r3.length:Int)))),()))))))]),y1)))))) ((0<=i0)/\(i0<(v0.2.length:Int))/\(let y1:LI:=(v0.2.set i0.toNat (wrap64 (((v0.1++[((nS plan i0).1,((nS plan i0).2.1,((nS plan i0).2.2.1,((nS plan i0).2.2.2.1,((aj r2 (some (Z0,(r2.length:Int)))),((aj r3 (some (Z0,(r3.length:Int)))),()))))))]).length:Int)-Z1)));(nxT (LP43_0 LK LL plan) m K (s43_0 LK LL plan (wrap64 (i0+Z1)) ((v0.1++[((nS plan i0).1,((nS plan i0).2.1,((nS plan i0).2.2.1,((nS plan i0).2.2.2.1,((aj r2 (some (Z0,(r2.length:Int)))),((aj r3 (some (Z0,(r3.length:Int)))),()))))))]),y1))))))))))) (K (.exit 0) (⟨[(9,.own 9 none)],[(9,.arr .sh ah v0.1)]⟩:St))):=by kernel_rfl
theorem con43_ok:bt P 43 c43:=bA C43 func43 (kC con93_ok (kC con94_ok (kC con97_ok (kC con98_ok (kI inlOk95 (kI inlOk96 kN)))))) fun args hp K h0=>by
 obtain⟨LK,LL,plan,rfl,rfl,LO,LR,LQ,hK⟩:=g3e h0
 have h:ok (F.kq LK LL plan) (fun r=>K (.tup [.clp 0 (r.1.length:Int),dB r.2]) [(0,.arr .dp ah r.1)]):=aA (F.ta LK LL plan LO LR LQ) (hK _ rfl)
 refine⟨rfl,ann43,(L43 LK LL plan),.raw,(bW (i0:=0) (by kernel_rfl) ?_),?_⟩
 ·rintro _ _ K ⟨hc0,i0,v0,rfl,hl0,rfl,hv0,h⟩
  exact cast (lvc43_0 _ _ _ _ _ _ _).symm (ct h (fun ht0 h=>⟨hl0,⟨ht0,⟨(aO LQ i0).2.2.2.2.1,(oL h fun _ _ h=>⟨(aO LQ i0).2.2.2.2.2.1,(oL h fun _ _ h=>(oC h (fun b_120083 h=>(oG h fun _ h=>(oG h fun _ h=>(oC h (fun _ h=>(oG h fun _ h=>(oG h fun _ h=>(oG h fun _ h=>⟨LR,(oL h fun _ _ h=>(oC h (fun _ h=>(dR (bnt b_120083) ⟨hl0,(oG h fun _ h=>(have h:=cI h _ rfl;(aV (fun _ hm=>⟨hc0,hm⟩) _ rfl hl0 iR ht0 (bC LQ) trivial h)))⟩)) fun _ h=>⟨hl0,(oG h fun _ h=>(have h:=cI h _ rfl;(aV (fun _ hm=>⟨hc0,hm⟩) _ rfl hl0 iR ht0 (bC LQ) trivial h)))⟩))⟩)))) fun _ h=>(oG h fun _ h=>⟨LR,(oL h fun _ _ h=>(oC h (fun _ h=>(dR (bnt b_120083) ⟨hl0,(oG h fun _ h=>(have h:=cI h _ rfl;(aV (fun _ hm=>⟨hc0,hm⟩) _ rfl hl0 iR ht0 (bC LQ) trivial h)))⟩)) fun _ h=>⟨hl0,(oG h fun _ h=>(have h:=cI h _ rfl;(aV (fun _ hm=>⟨hc0,hm⟩) _ rfl hl0 iR ht0 (bC LQ) trivial h)))⟩))⟩))))) fun b_120083 h=>(oC h (fun _ h=>(oG h fun _ h=>(oG h fun _ h=>(oG h fun _ h=>⟨LR,(oL h fun _ _ h=>(oC h (fun _ h=>(bO (bnf b_120083) (oG h fun _ h=>⟨hl0,(oG h fun _ h=>(have h:=cI h _ rfl;(aV (fun _ hm=>⟨hc0,hm⟩) _ rfl hl0 iR ht0 (bC LQ) trivial h)))⟩))) fun _ h=>⟨hl0,(oG h fun _ h=>(have h:=cI h _ rfl;(aV (fun _ hm=>⟨hc0,hm⟩) _ rfl hl0 iR ht0 (bC LQ) trivial h)))⟩))⟩)))) fun _ h=>(oG h fun _ h=>⟨LR,(oL h fun _ _ h=>(oC h (fun _ h=>(bO (bnf b_120083) (oG h fun _ h=>⟨hl0,(oG h fun _ h=>(have h:=cI h _ rfl;(aV (fun _ hm=>⟨hc0,hm⟩) _ rfl hl0 iR ht0 (bC LQ) trivial h)))⟩))) fun _ h=>⟨hl0,(oG h fun _ h=>(have h:=cI h _ rfl;(aV (fun _ hm=>⟨hc0,hm⟩) _ rfl hl0 iR ht0 (bC LQ) trivial h)))⟩))⟩))))⟩)⟩⟩⟩) fun h=>(h trivial))
 ·rw[vc43]
  exact⟨LO,⟨LR,(oC h (fun _ h=>⟨LO,⟨LQ,(oC h (fun _ h=>h) fun _ h=>⟨rfl,⟨(Int.natCast_nonneg _),⟨(Jo LQ rfl),(bT (fun m hm=>⟨trivial,hm⟩) Z0 _ rfl (Int.natCast_nonneg 0) trivial (bn h (fun v0 h hv0=>(oC h (fun _ h=>h) fun _ h=>(oG h fun _ h=>(oL h fun _ _ h=>h)))) (fun _ h=>h.elim)))⟩⟩⟩)⟩⟩) fun _ h=>h)⟩⟩
def c170:Con:=⟨[.dat aE],fun args hp K=>g1 (pD aE) (fun truth=>(LD (M.valueOf truth) fun r=>K (.data af r) [])) args hp,.plain,false⟩
abbrev C170:Ctx:=cx [(132,c132)] 9 [] 0 false
def ann170:=an [[kp 5],[kp 37],[kp 4],[kp 4]] []
theorem vc170 (truth:Int) (K:KA):vcT C170 aB ann170 f170 [dI truth] [] (.dat af) K =
 (cond (!(M.inR truth Z0 Z1)) (K (.data af (Z0,(Z0,((⟨#[]⟩:ByteArray),())))) []) (K (.data af (Z3,(truth,((⟨#[]⟩:ByteArray),())))) [])):=by kernel_rfl
theorem con170_ok:bt P 170 c170:=bA C170 func170 (kC con132_ok kN) fun args hp K h0=>by
 obtain⟨truth,rfl,rfl,hK⟩:=g1e h0
 have h:ok (F.qy truth) (fun r=>K (.data af r) []):=aA (F.yA truth) (hK _ rfl)
 refine⟨rfl,ann170,aB,(.dat af),(aL (by kernel_rfl)),?_⟩
 ·rw[vc170]
  exact(oC h (fun _ h=>h) fun _ h=>h)
def c216:Con:=⟨[.dat (Ty.sl aE)],fun args hp K=>g1 (pD (Ty.sl aE)) (fun vals=>(Sm (Ty.sl aE) vals)/\K (dI (M.orI vals)) []) args hp,.plain,false⟩
abbrev C216:Ctx:=cx [] 18 [] 0 false
def ann216:=an [[kp 1],[kp 9],[kp 456],[kp 968],[kp 488],[kp 16872],[kp 4],[kp 456],[kp 4]] [[kp 8]]
abbrev s216_0 (vals:LI) (i0:Int) (v0:Unit):St:=⟨[(3,dI Z0),(6,.data (Ty.sl aE) vals),(7,dI (vals.length:Int)),(8,dI i0)],[]⟩
abbrev LP216_0 (vals:LI) (m:Nat) (st_:St) (K:KX):Prop:=True/\cw (t:=aE) (s216_0 vals) vals (F.jk vals) (fun v0:Unit=>True) (bz (fun v0:Unit=>True->K (.exit 0) (⟨[(3,dI Z0)],[]⟩:St)) (fun q0:Int=>K .ret (⟨[(2,dI q0)],[]⟩:St))) m st_
def L216 (vals:LI):bK:=lp1 0 (LP216_0 vals)
theorem vc216 (vals:LI) (K:KA):vcT C216 (L216 vals) ann216 f216 [.data (Ty.sl aE) vals] [] (.dat aE) K =
 (∃m_,True/\cw (t:=aE) (s216_0 vals) vals (F.jk vals) (fun v0:Unit=>True) (bz (fun v0:Unit=>True->K (dI Z0) []) (fun q0:Int=>K (dI q0) [])) m_ (s216_0 vals Z0 ())):=by kernel_rfl
theorem lvc216_0 (vals:LI)  (i0:Int) (v0:Unit) (m:Nat) (K:KX):lvT C216 (L216 vals) ann216 f216 0 0 (s216_0 vals i0 v0) m K =
 (cond (decide (i0<(vals.length:Int))) ((0<=i0)/\(i0<(vals.length:Int))/\cond (!decide ((nI vals i0)=Z0)) (K .ret (⟨[(2,dI (nI vals i0))],[]⟩:St)) (nxT (LP216_0 vals) m K (s216_0 vals (wrap64 (i0+Z1)) ()))) (K (.exit 0) (⟨[(3,dI Z0)],[]⟩:St))):=by kernel_rfl
theorem con216_ok:bt P 216 c216:=bA C216 func216 kN fun args hp K h0=>by
 obtain⟨vals,rfl,rfl,h_vals,hK⟩:=g1e h0
 have h:ok (F.tZ vals) (fun r=>K (dI r) []):=aA (F.AS vals h_vals) hK
 refine⟨rfl,ann216,(L216 vals),(.dat aE),(bW (i0:=0) (by kernel_rfl) ?_),?_⟩
 ·rintro _ _ K ⟨hc0,i0,v0,rfl,hl0,rfl,hv0,h⟩
  exact cast (lvc216_0 _ _ _ _ _).symm (bD (t:=aE) hl0 h (fun ht0 h=>⟨hl0,⟨ht0,(oC h (fun _ h=>h) fun _ h=>(br (t:=aE) (fun _ hm=>⟨hc0,hm⟩) _ rfl hl0 ht0 (bC h_vals) trivial h))⟩⟩) fun h=>(h trivial))
 ·rw[vc216]
  exact(bu (t:=aE) (fun m hm=>⟨trivial,hm⟩) _ rfl trivial (bn h (fun v0 h hv0=>h) (fun q0 h=>h)))
def c247:Con:=⟨[.dat aE],fun args hp K=>g1 (pD aE) (fun x=>K (dB false) []) args hp,.plain,false⟩
abbrev C247:Ctx:=cx [] 6 [] 0 false
def ann247:=an [[kp 1],[kp 4]] []
theorem vc247 (x:Int) (K:KA):vcT C247 aB ann247 f247 [dI x] [] (.dat Ty.bool) K =
 (K (dB (!decide (x=x))) []):=by kernel_rfl
theorem con247_ok:bt P 247 c247:=bA C247 func247 kN fun args hp K h0=>by
 obtain⟨x,rfl,rfl,hK⟩:=g1e h0
 have h:ok (F.cmp_isNaN_int x) (fun r=>K (dB r) []):=aA (F.wo x) hK
 refine⟨rfl,ann247,aB,(.dat Ty.bool),(aL (by kernel_rfl)),?_⟩
 ·rw[vc247]
  exact h
def c219:Con:=⟨[.dat aE,.dat aE],fun args hp K=>g2 (pD aE) (pD aE) (fun x y=>K (dI (M.rP x y)) []) args hp,.plain,false⟩
abbrev C219:Ctx:=cx [(247,c247)] 20 [] 0 false
def ann219:=an [[kp 3],[kp 35],[kp 99],[kp 2115],[kp 4096],[kp 16],[kp 16],[kp 8195],[kp 16],[kp 65539],[kp 16],[kp 524288],[kp 16],[kp 16]] []
theorem vc219 (x:Int) (y:Int) (K:KA):vcT C219 aB ann219 f219 [dI x,dI y] [] (.dat aE) K =
 (cond false (cond false (K (dI Z0) []) (K (dI (-1:Int)) [])) (cond false (K (dI Z1) []) (cond (decide (x<y)) (K (dI (-1:Int)) []) (cond (decide (y<x)) (K (dI Z1) []) (K (dI Z0) []))))):=by kernel_rfl
theorem con219_ok:bt P 219 c219:=bA C219 func219 (kC con247_ok kN) fun args hp K h0=>by
 obtain⟨x,y,rfl,rfl,hK⟩:=g2e h0
 have h:ok (F.lN x y) (fun r=>K (dI r) []):=aA (F.tX x y) hK
 refine⟨rfl,ann219,aB,(.dat aE),(aL (by kernel_rfl)),?_⟩
 ·rw[vc219]
  exact(oC h (fun b_1 h=>(bO b_1 h)) fun b_1 h=>(dR b_1 (oC h (fun _ h=>h) fun _ h=>(oC h (fun _ h=>h) fun _ h=>h))))
def c256:Con:=⟨[.dat Ty.str],fun args hp K=>g1 (pD Ty.str) (fun x=>(Sm Ty.str x)/\K (dB false) []) args hp,.plain,false⟩
abbrev C256:Ctx:=cx [] 6 [] 0 false
def ann256:=an [[kp 1],[kp 4]] []
theorem vc256 (x:ByteArray) (K:KA):vcT C256 aB ann256 f256 [.data Ty.str x] [] (.dat Ty.bool) K =
 (K (dB (!decide (x=x))) []):=by kernel_rfl
theorem con256_ok:bt P 256 c256:=bA C256 func256 kN fun args hp K h0=>by
 obtain⟨x,rfl,rfl,h_x,hK⟩:=g1e h0
 have h:ok (F.cmp_isNaN_string x) (fun r=>K (dB r) []):=aA (F.sW x h_x) hK
 refine⟨rfl,ann256,aB,(.dat Ty.bool),(aL (by kernel_rfl)),?_⟩
 ·rw[vc256]
  exact h
def c246:Con:=⟨[.dat Ty.str,.dat Ty.str],fun args hp K=>g2 (pD Ty.str) (pD Ty.str) (fun x y=>(Sm Ty.str x)/\(Sm Ty.str y)/\K (dI (M.En x y)) []) args hp,.plain,false⟩
abbrev C246:Ctx:=cx [(256,c256)] 20 [] 0 false
def ann246:=an [[kp 3],[kp 35],[kp 99],[kp 2115],[kp 4096],[kp 16],[kp 16],[kp 8195],[kp 16],[kp 65539],[kp 16],[kp 524288],[kp 16],[kp 16]] []
theorem vc246 (x:ByteArray) (y:ByteArray) (K:KA):vcT C246 aB ann246 f246 [.data Ty.str x,.data Ty.str y] [] (.dat aE) K =
 ((Sm Ty.str x)/\(Sm Ty.str y)/\cond false (cond false (K (dI Z0) []) (K (dI (-1:Int)) [])) (cond false (K (dI Z1) []) (cond (Op.bytesLess x.toList y.toList) (K (dI (-1:Int)) []) (cond (!(Op.bytesLess x.toList y.toList||decide (x=y))) (K (dI Z1) []) (K (dI Z0) []))))):=by kernel_rfl
theorem con246_ok:bt P 246 c246:=bA C246 func246 (kC con256_ok kN) fun args hp K h0=>by
 obtain⟨x,y,rfl,rfl,h_x,h_y,hK⟩:=g2e h0
 have h:ok (F.jx x y) (fun r=>K (dI r) []):=aA (F.qX x y h_x h_y) hK
 refine⟨rfl,ann246,aB,(.dat aE),(aL (by kernel_rfl)),?_⟩
 ·rw[vc246]
  exact⟨h_x,⟨h_y,(oC h (fun b_1 h=>(bO b_1 h)) fun b_1 h=>(dR b_1 (oC h (fun _ h=>h) fun _ h=>(oC h (fun _ h=>h) fun _ h=>h))))⟩⟩
def c218:Con:=⟨[.dat af,.dat af],fun args hp K=>g2 (pD af) (pD af) (fun v w=>(Sm af v)/\(Sm af w)/\K (dI (M.order v w)) []) args hp,.plain,false⟩
abbrev C218:Ctx:=cx [(216,c216),(219,c219),(246,c246)] 22 [] 0 false
def ann218:=an [[.fixRow 2 af,.fixRow 3 af,kp 12],[kp 16]] []
theorem vc218 (v:af.D) (w:af.D) (K:KA):vcT C218 aB ann218 f218 [.data af v,.data af w] [] (.dat aE) K =
 ((Sm Ty.str v.2.2.1)/\(Sm Ty.str w.2.2.1)/\(Sm (Ty.sl aE) [(M.rP v.1 w.1),(M.rP v.2.1 w.2.1),(M.En v.2.2.1 w.2.2.1)])/\K (dI (M.orI [(M.rP v.1 w.1),(M.rP v.2.1 w.2.1),(M.En v.2.2.1 w.2.2.1)])) []):=by kernel_rfl
theorem con218_ok:bt P 218 c218:=bA C218 func218 (kC con216_ok (kC con219_ok (kC con246_ok kN))) fun args hp K h0=>by
 obtain⟨v,w,rfl,rfl,h_v,h_w,hK⟩:=g2e h0
 have h:ok (F.kO v w) (fun r=>K (dI r) []):=aA (F.sY v w h_v h_w) hK
 refine⟨rfl,ann218,aB,(.dat aE),(aL (by kernel_rfl)),?_⟩
 ·rw[vc218]
  exact⟨h_v.2.2.1,⟨h_w.2.2.1,(oG h fun _ h=>h)⟩⟩
def c243:Con:=⟨[.dat Ty.bool],fun args hp K=>g1 (pD Ty.bool) (fun b=>K (dI (M.bool b)) []) args hp,.plain,false⟩
abbrev C243:Ctx:=cx [] 4 [] 0 false
def ann243:=an [[kp 1],[kp 8],[kp 4],[kp 4]] []
theorem vc243 (b:Bool) (K:KA):vcT C243 aB ann243 f243 [dB b] [] (.dat aE) K =
 (cond b (K (dI Z1) []) (K (dI Z0) [])):=by kernel_rfl
theorem con243_ok:bt P 243 c243:=bA C243 func243 kN fun args hp K h0=>by
 obtain⟨b,rfl,rfl,hK⟩:=g1e h0
 have h:ok (F.pY b) (fun r=>K (dI r) []):=aA (F.yK b) hK
 refine⟨rfl,ann243,aB,(.dat aE),(aL (by kernel_rfl)),?_⟩
 ·rw[vc243]
  exact(oC h (fun _ h=>h) fun _ h=>h)
def c238:Con:=⟨[.dat aE,.dat af,.dat af],fun args hp K=>g3 (pD aE) (pD af) (pD af) (fun kind a b=>(Sm af a)/\(Sm af b)/\K (dI (M.compare kind a b)) []) args hp,.plain,false⟩
abbrev C238:Ctx:=cx [(131,c131),(132,c132),(218,c218),(243,c243)] 71 [] 0 false
def ann238:=an [[.fixRow 4 af,.fixRow 5 af,kp 49],[kp 305],[kp 64],[kp 4194353],[kp 64],[kp 2147483697],[kp 64],[kp 129],[kp 64]] []
abbrev S238_0 (kind:Int) (a:af.D) (b:af.D) (K:KA):Prop:=cond ((decide (kind=Z4))==true) (K (dI (M.bool (decide ((M.order a b)<=Z0)))) []) (K (dI (M.bool false)) [])
abbrev S238_1 (kind:Int) (a:af.D) (b:af.D) (K:KA):Prop:=cond ((decide (kind=Z3))==true) (cond ((decide ((M.order a b)<Z0))==false) (S238_0 kind a b K) (K (dI (M.bool true)) [])) (S238_0 kind a b K)
abbrev S238_2 (kind:Int) (a:af.D) (b:af.D) (K:KA):Prop:=cond ((decide (kind=Z2))==true) (cond ((!decide ((M.order a b)=Z0))==false) (S238_1 kind a b K) (K (dI (M.bool true)) [])) (S238_1 kind a b K)
theorem vc238 (kind:Int) (a:af.D) (b:af.D) (K:KA):vcT C238 aB ann238 f238 [dI kind,.data af a,.data af b] [] (.dat aE) K =
 (cond ((!(M.inR kind Z1 Z4))==false) ((Sm af a)/\cond ((!(M.aY a))==false) ((Sm af b)/\cond (!(M.aY b)) (K (dI (-1:Int)) []) (cond ((decide (a.1=Z0))==false) (cond (decide (b.1=Z0)) (K (dI Z2) []) (cond (!decide (a.1=b.1)) (K (dI (-1:Int)) []) ((Sm af a)/\(Sm af b)/\cond ((decide (kind=Z1))==true) (cond ((decide ((M.order a b)=Z0))==false) (S238_2 kind a b K) (K (dI (M.bool true)) [])) (S238_2 kind a b K)))) (K (dI Z2) []))) (K (dI (-1:Int)) [])) (K (dI (-1:Int)) [])):=by kernel_rfl
theorem con238_ok:bt P 238 c238:=bA C238 func238 (kC con131_ok (kC con132_ok (kC con218_ok (kC con243_ok kN)))) fun args hp K h0=>by
 obtain⟨kind,a,b,rfl,rfl,h_a,h_b,hK⟩:=g3e h0
 have h:ok (F.qd kind a b) (fun r=>K (dI r) []):=aA (F.yd kind a b h_a h_b) hK
 refine⟨rfl,ann238,aB,(.dat aE),(aL (by kernel_rfl)),?_⟩
 ·rw[vc238]
  exact(oC h (fun _ h=>⟨h_a,(oC h (fun _ h=>⟨h_b,(oC h (fun _ h=>h) fun _ h=>(oC h (fun _ h=>(oC h (fun _ h=>h) fun _ h=>(oC h (fun _ h=>h) fun _ h=>⟨h_a,⟨h_b,(oC h (fun b_7 h=>(oC h (fun _ h=>(dR (uef (cY (bet b_7) (by decide))) (dR (uef (cY (bet b_7) (by decide))) (dR (uef (cY (bet b_7) (by decide))) h)))) fun _ h=>h)) fun _ h=>(oC h (fun b_19 h=>(oC h (fun _ h=>(dR (uef (cY (bet b_19) (by decide))) (dR (uef (cY (bet b_19) (by decide))) h))) fun _ h=>h)) fun _ h=>(oC h (fun b_25 h=>(oC h (fun _ h=>(dR (uef (cY (bet b_25) (by decide))) h)) fun _ h=>h)) fun _ h=>(oC h (fun _ h=>h) fun _ h=>h))))⟩⟩))) fun _ h=>h))⟩) fun _ h=>h)⟩) fun _ h=>h)
def c260:Con:=⟨[.dat aE],fun args hp K=>g1 (pD aE) (fun n=>K (dB (M.inR n 0 2)) []) args hp,.plain,false⟩
abbrev C260:Ctx:=cx [(132,c132)] 5 [] 0 false
def ann260:=an [[kp 1],[kp 4]] []
theorem vc260 (n:Int) (K:KA):vcT C260 aB ann260 f260 [dI n] [] (.dat Ty.bool) K =
 (K (dB (M.inR n Z0 Z2)) []):=by kernel_rfl
theorem con260_ok:bt P 260 c260:=bA C260 func260 (kC con132_ok kN) fun args hp K h0=>by
 obtain⟨n,rfl,rfl,hK⟩:=g1e h0
 have h:ok (F.uW n) (fun r=>K (dB r) []):=aA (F.yc n) hK
 refine⟨rfl,ann260,aB,(.dat Ty.bool),(aL (by kernel_rfl)),?_⟩
 ·rw[vc260]
  exact h
def c254:Con:=⟨[.dat aE,.dat aE,.dat aE],fun args hp K=>g3 (pD aE) (pD aE) (pD aE) (fun a b alone=>(0<=alone/\alone<=1)/\K (dI (M.fold a b alone)) []) args hp,.plain,false⟩
abbrev C254:Ctx:=cx [(260,c260)] 35 [] 0 false
def ann254:=an [[kp 7],[kp 135],[kp 64],[kp 65543],[kp 64],[kp 67108868],[kp 64],[kp 64]] []
theorem vc254 (a:Int) (b:Int) (alone:Int) (K:KA):vcT C254 aB ann254 f254 [dI a,dI b,dI alone] [] (.dat aE) K =
 (cond ((!(M.inR a 0 2))==false) (cond (!(M.inR b 0 2)) (K (dI (-1:Int)) []) (cond ((decide (a=alone))==false) (cond (decide (b=alone)) (K (dI alone) []) (cond ((decide (a=Z2))==false) (cond (decide (b=Z2)) (K (dI Z2) []) (K (dI (wrap64 (Z1-alone))) [])) (K (dI Z2) []))) (K (dI alone) []))) (K (dI (-1:Int)) [])):=by kernel_rfl
theorem con254_ok:bt P 254 c254:=bA C254 func254 (kC con260_ok kN) fun args hp K h0=>by
 obtain⟨a,b,alone,rfl,rfl,p0,hK⟩:=g3e h0
 have h:ok (F.wR a b alone) (fun r=>K (dI r) []):=aA (F.Ci a b alone p0) hK
 refine⟨rfl,ann254,aB,(.dat aE),(aL (by kernel_rfl)),?_⟩
 ·rw[vc254]
  exact(oC h (fun _ h=>(oC h (fun _ h=>h) fun _ h=>(oC h (fun _ h=>(oC h (fun _ h=>h) fun _ h=>(oC h (fun _ h=>(oC h (fun _ h=>h) fun _ h=>h)) fun _ h=>h))) fun _ h=>h))) fun _ h=>h)
def c239:Con:=⟨[.dat aE,.dat aE],fun args hp K=>g2 (pD aE) (pD aE) (fun a b=>K (dI (M.BX a b)) []) args hp,.plain,false⟩
abbrev C239:Ctx:=cx [(254,c254)] 8 [] 0 false
def ann239:=an [[kp 3],[kp 16]] []
theorem vc239 (a:Int) (b:Int) (K:KA):vcT C239 aB ann239 f239 [dI a,dI b] [] (.dat aE) K =
 ((0<=Z0/\Z0<=1)/\K (dI (M.fold a b Z0)) []):=by kernel_rfl
theorem con239_ok:bt P 239 c239:=bA C239 func239 (kC con254_ok kN) fun args hp K h0=>by
 obtain⟨a,b,rfl,rfl,hK⟩:=g2e h0
 have h:ok (F.uj a b) (fun r=>K (dI r) []):=aA (F.Br a b) hK
 refine⟨rfl,ann239,aB,(.dat aE),(aL (by kernel_rfl)),?_⟩
 ·rw[vc239]
  exact(oG h fun _ h=>h)
def c240:Con:=⟨[.dat af],fun args hp K=>g1 (pD af) (fun v=>(Sm af v)/\K (dI (M.fy v)) []) args hp,.plain,false⟩
abbrev C240:Ctx:=cx [(131,c131)] 17 [] 0 false
def ann240:=an [[.fixRow 1 af,kp 2],[kp 10],[kp 4],[kp 130],[kp 4],[kp 2050],[kp 4],[kp 4]] []
theorem vc240 (v:af.D) (K:KA):vcT C240 aB ann240 f240 [.data af v] [] (.dat aE) K =
 ((Sm af v)/\cond (!(M.aY v)) (K (dI (-1:Int)) []) (cond (decide (v.1=Z0)) (K (dI Z2) []) (cond (decide (v.1=Z3)) (K (dI v.2.1) []) (K (dI (-1:Int)) [])))):=by kernel_rfl
theorem con240_ok:bt P 240 c240:=bA C240 func240 (kC con131_ok kN) fun args hp K h0=>by
 obtain⟨v,rfl,rfl,h_v,hK⟩:=g1e h0
 have h:ok (F.qB v) (fun r=>K (dI r) []):=aA (F.yj v h_v) hK
 refine⟨rfl,ann240,aB,(.dat aE),(aL (by kernel_rfl)),?_⟩
 ·rw[vc240]
  exact⟨h_v,(oC h (fun _ h=>h) fun _ h=>(oC h (fun _ h=>h) fun _ h=>(oC h (fun _ h=>h) fun _ h=>h)))⟩
def c241:Con:=⟨[.dat aE,.dat aE],fun args hp K=>g2 (pD aE) (pD aE) (fun a b=>K (dI (M.GL a b)) []) args hp,.plain,false⟩
abbrev C241:Ctx:=cx [(254,c254)] 8 [] 0 false
def ann241:=an [[kp 3],[kp 16]] []
theorem vc241 (a:Int) (b:Int) (K:KA):vcT C241 aB ann241 f241 [dI a,dI b] [] (.dat aE) K =
 ((0<=Z1/\Z1<=1)/\K (dI (M.fold a b Z1)) []):=by kernel_rfl
theorem con241_ok:bt P 241 c241:=bA C241 func241 (kC con254_ok kN) fun args hp K h0=>by
 obtain⟨a,b,rfl,rfl,hK⟩:=g2e h0
 have h:ok (F.wI a b) (fun r=>K (dI r) []):=aA (F.CW a b) hK
 refine⟨rfl,ann241,aB,(.dat aE),(aL (by kernel_rfl)),?_⟩
 ·rw[vc241]
  exact(oG h fun _ h=>h)
def c242:Con:=⟨[.dat aE],fun args hp K=>g1 (pD aE) (fun a=>K (dI (M.Cd a)) []) args hp,.plain,false⟩
abbrev C242:Ctx:=cx [] 10 [] 0 false
def ann242:=an [[kp 1],[kp 8],[kp 24],[kp 4],[kp 72],[kp 4],[kp 256],[kp 4],[kp 4]] []
theorem vc242 (a:Int) (K:KA):vcT C242 aB ann242 f242 [dI a] [] (.dat aE) K =
 (cond (decide (a=Z0)) (K (dI Z1) []) (cond (decide (a=Z1)) (K (dI Z0) []) (cond (decide (a=Z2)) (K (dI Z2) []) (K (dI (-1:Int)) [])))):=by kernel_rfl
theorem con242_ok:bt P 242 c242:=bA C242 func242 kN fun args hp K h0=>by
 obtain⟨a,rfl,rfl,hK⟩:=g1e h0
 have h:ok (F.uw a) (fun r=>K (dI r) []):=aA (F.AR a) hK
 refine⟨rfl,ann242,aB,(.dat aE),(aL (by kernel_rfl)),?_⟩
 ·rw[vc242]
  exact(oC h (fun _ h=>h) fun _ h=>(oC h (fun _ h=>h) fun _ h=>(oC h (fun _ h=>h) fun _ h=>h)))
def c212:Con:=⟨[.dat aD,.dat TVS,.lent af],fun args hp K=>g3 (pD aD) (pD TVS) (pB af) (fun p row inp=>(Sm aD p)/\(Sm TVS row)/\(Sm TVS inp)/\((inp.length:Int)=M.takes p)/\(M.xG p row.length)/\(1<=p.1/\p.1<=8)/\(LD (M.jF p row inp) fun r=>K (.data af r) [])) args hp,.plain,false⟩
abbrev C212:Ctx:=cx [(131,c131),(170,c170),(238,c238),(239,c239),(240,c240),(241,c241),(242,c242),(243,c243)] 103 [] 0 false
def ann212:=an [[.fixRow 3 aD,kp 78],[kp 590],[kp 1614],[kp 64],[kp 16974],[kp 64],[kp 2097740],[.fixRow 7 af,kp 196],[.keep [6,7,49]],[kp 64],[kp 64],[kp 4503599627371084],[kp 64],[.keep [2,6,9,64]],[kp 64],[.keep [2,6,9,76]],[kp 64],[.keep [2,6,88]],[kp 64],[kp 64]] []
theorem vc212 (p:aD.D) (row:LV) (inp:LV) (K:KA):vcT C212 aB ann212 f212 [.data aD p,.data TVS row,.brw af inp] [] (.dat af) K =
 (cond (decide (p.1=Z1)) (K (.data af p.2.2.1) []) (cond (decide (p.1=Z2)) ((0<=p.2.1)/\(p.2.1<(row.length:Int))/\K (.data af (nV row p.2.1)) []) (cond (decide (p.1=Z3)) ((0<=Z0)/\(Z0<(inp.length:Int))/\(0<=Z1)/\(Z1<(inp.length:Int))/\(0<=Z0)/\(Z0<(inp.length:Int))/\cond ((decide ((nV inp Z0).1=Z0))==false) ((0<=Z1)/\(Z1<(inp.length:Int))/\cond ((decide ((nV inp Z1).1=Z0))==false) ((Sm af (Z1,(wrap64 ((nV inp Z0).2.1+(nV inp Z1).2.1),((⟨#[]⟩:ByteArray),()))))/\cond (!(M.aY (Z1,(wrap64 ((nV inp Z0).2.1+(nV inp Z1).2.1),((⟨#[]⟩:ByteArray),()))))) (K (.data af (Z0,(Z0,((⟨#[]⟩:ByteArray),())))) []) (K (.data af (Z1,(wrap64 ((nV inp Z0).2.1+(nV inp Z1).2.1),((⟨#[]⟩:ByteArray),())))) [])) (K (.data af (Z0,(Z0,((⟨#[]⟩:ByteArray),())))) [])) (K (.data af (Z0,(Z0,((⟨#[]⟩:ByteArray),())))) [])) (cond (decide (p.1=Z4)) ((0<=Z0)/\(Z0<(inp.length:Int))/\(0<=Z1)/\(Z1<(inp.length:Int))/\(Sm af (nV inp Z0))/\(Sm af (nV inp Z1))/\(LD (M.valueOf (M.compare p.2.1 (nV inp Z0) (nV inp Z1))) fun r1=>K (.data af r1) [])) (cond (decide (p.1=Z5)) ((0<=Z0)/\(Z0<(inp.length:Int))/\(0<=Z1)/\(Z1<(inp.length:Int))/\(Sm af (nV inp Z0))/\(Sm af (nV inp Z1))/\(LD (M.valueOf (M.BX (M.fy (nV inp Z0)) (M.fy (nV inp Z1)))) fun r2=>K (.data af r2) [])) (cond (decide (p.1=Z6)) ((0<=Z0)/\(Z0<(inp.length:Int))/\(0<=Z1)/\(Z1<(inp.length:Int))/\(Sm af (nV inp Z0))/\(Sm af (nV inp Z1))/\(LD (M.valueOf (M.GL (M.fy (nV inp Z0)) (M.fy (nV inp Z1)))) fun r3=>K (.data af r3) [])) (cond (decide (p.1=(7:Int))) ((0<=Z0)/\(Z0<(inp.length:Int))/\(Sm af (nV inp Z0))/\(LD (M.valueOf (M.Cd (M.fy (nV inp Z0)))) fun r4=>K (.data af r4) [])) ((0<=Z0)/\(Z0<(inp.length:Int))/\(LD (M.valueOf (M.bool (decide ((nV inp Z0).1=Z0)))) fun r5=>K (.data af r5) []))))))))):=by kernel_rfl
theorem con212_ok:bt P 212 c212:=bA C212 func212 (kC con131_ok (kC con170_ok (kC con238_ok (kC con239_ok (kC con240_ok (kC con241_ok (kC con242_ok (kC con243_ok kN)))))))) fun args hp K h0=>by
 obtain⟨p,row,inp,rfl,rfl,h_p,h_row,h_inp,p0,p1,p2,hK⟩:=g3e h0
 have h:ok (F.lV p row inp) (fun r=>K (.data af r) []):=aA (F.tY p row inp h_p h_row h_inp p0 p1 p2) (hK _ rfl)
 refine⟨rfl,ann212,aB,(.dat af),(aL (by kernel_rfl)),?_⟩
 ·rw[vc212]
  exact(oC h (fun _ h=>h) fun _ h=>(oC h (fun _ h=>(oG h fun _ h=>(oG h fun _ h=>h))) fun _ h=>(oC h (fun _ h=>⟨(Int.natCast_nonneg 0),(oG h fun g1 h=>⟨(Int.natCast_nonneg 1),(oG h fun g2 h=>⟨(Int.natCast_nonneg 0),⟨g1,(oC h (fun _ h=>⟨(Int.natCast_nonneg 1),⟨g2,(oC h (fun _ h=>⟨(show Sm af _ from⟨trivial,(show Sm (Ty.pair aE (Ty.pair Ty.str Ty.unit)) _ from⟨trivial,(show Sm (Ty.pair Ty.str Ty.unit) _ from⟨(Nat.le_of_ble_eq_true rfl),trivial⟩)⟩)⟩),(oC h (fun _ h=>h) fun _ h=>h)⟩) fun _ h=>h)⟩⟩) fun _ h=>h)⟩⟩)⟩)⟩) fun _ h=>(oC h (fun _ h=>⟨(Int.natCast_nonneg 0),(oG h fun _ h=>⟨(Int.natCast_nonneg 1),(oG h fun _ h=>⟨(aO h_inp Z0),⟨(aO h_inp Z1),(oL h fun _ _ h=>h)⟩⟩)⟩)⟩) fun _ h=>(oC h (fun _ h=>⟨(Int.natCast_nonneg 0),(oG h fun _ h=>⟨(Int.natCast_nonneg 1),(oG h fun _ h=>⟨(aO h_inp Z0),⟨(aO h_inp Z1),(oL h fun _ _ h=>h)⟩⟩)⟩)⟩) fun _ h=>(oC h (fun _ h=>⟨(Int.natCast_nonneg 0),(oG h fun _ h=>⟨(Int.natCast_nonneg 1),(oG h fun _ h=>⟨(aO h_inp Z0),⟨(aO h_inp Z1),(oL h fun _ _ h=>h)⟩⟩)⟩)⟩) fun _ h=>(oC h (fun _ h=>⟨(Int.natCast_nonneg 0),(oG h fun _ h=>⟨(aO h_inp Z0),(oL h fun _ _ h=>h)⟩)⟩) fun _ h=>⟨(Int.natCast_nonneg 0),(oG h fun _ h=>(oL h fun _ _ h=>h))⟩)))))))
def c169:Con:=⟨[.dat TVS,.dat TPS],fun args hp K=>g2 (pD TVS) (pD TPS) (fun row e=>(Sm TVS row)/\(Sm TPS e)/\(M.fG row.length e)/\(LD (M.kK row e) fun r=>K (.data af r) [])) args hp,.plain,false⟩
abbrev C169:Ctx:=cx [(165,c165),(212,c212)] 37 [] 0 false
def ann169:=an [[kp 19],[kp 51],[kp 7217],[kp 15409],[.fixRow 7 aD,kp 7345],[kp 7601],[.fixRow 9 af,kp 7985],[kp 7217],[kp 7217],[kp 16]] [[kp 48]]
abbrev s169_0 (row:LV) (e:LPt) (i0:Int) (v0:LV):St:=⟨[(0,.data TVS row),(4,.ptr 4 0),(5,.own 5 none),(10,.data TPS e),(11,dI (e.length:Int)),(12,dI i0)],[(4,.box [dI Z0,dI Z0,.data Ty.str (⟨#[]⟩:ByteArray)]),(5,.arr .sh af v0)]⟩
abbrev LP169_0 (row:LV) (e:LPt) (m:Nat) (st_:St) (K:KX):Prop:=True/\cw (t:=aD) (s169_0 row e) e (F.eP row e) (fun v0:LV=>True) (bz (fun v0:LV=>True->K (.exit 0) (⟨[(4,.ptr 4 0),(5,.own 5 none)],[(4,.box [dI Z0,dI Z0,.data Ty.str (⟨#[]⟩:ByteArray)]),(5,.arr .sh af v0)]⟩:St)) (fun _=>False)) m st_
def L169 (row:LV) (e:LPt):bK:=lp1 0 (LP169_0 row e)
theorem vc169 (row:LV) (e:LPt) (K:KA):vcT C169 (L169 row e) ann169 f169 [.data TVS row,.data TPS e] [] (.dat af) K =
 (∃m_,True/\cw (t:=aD) (s169_0 row e) e (F.eP row e) (fun v0:LV=>True) (bz (fun v0:LV=>True->(0<=Z0)/\(Z0<(v0.length:Int))/\K (.data af (nV v0 Z0)) []) (fun _=>False)) m_ (s169_0 row e Z0 [])):=by kernel_rfl
abbrev S169l0_0 (row:LV) (e:LPt)  (i0:Int) (v0:LV) (m:Nat) (K:KX):Prop:=(Sm aD (nP e i0))/\(Sm TVS row)/\(Sm TVS (aj v0 (some (wrap64 ((v0.length:Int)-(M.takes (nP e i0))),(v0.length:Int)))))/\(((aj v0 (some (wrap64 ((v0.length:Int)-(M.takes (nP e i0))),(v0.length:Int)))).length:Int)=M.takes (nP e i0))/\(M.xG (nP e i0) row.length)/\(1<=(nP e i0).1/\(nP e i0).1<=8)/\(LD (M.jF (nP e i0) row (aj v0 (some (wrap64 ((v0.length:Int)-(M.takes (nP e i0))),(v0.length:Int))))) fun r1=>(0<=Z0)/\(Z0<=wrap64 ((v0.length:Int)-(M.takes (nP e i0))))/\(wrap64 ((v0.length:Int)-(M.takes (nP e i0)))<=(v0.length:Int))/\(wrap64 ((v0.length:Int)-(M.takes (nP e i0)))=wrap64 ((v0.length:Int)-(M.takes (nP e i0))))/\(Z0=0)/\(((wrap64 ((v0.length:Int)-(M.takes (nP e i0)))).toNat+[r1].length) * 32<=lim)/\(nxT (LP169_0 row e) m K (s169_0 row e (wrap64 (i0+Z1)) (v0.take (wrap64 ((v0.length:Int)-(M.takes (nP e i0)))).toNat++[r1]))))
theorem lvc169_0 (row:LV) (e:LPt)  (i0:Int) (v0:LV) (m:Nat) (K:KX):lvT C169 (L169 row e) ann169 f169 0 0 (s169_0 row e i0 v0) m K =
 (cond (decide (i0<(e.length:Int))) ((0<=i0)/\(i0<(e.length:Int))/\(Sm aD (nP e i0))/\(0<=wrap64 ((v0.length:Int)-(M.takes (nP e i0))))/\(wrap64 ((v0.length:Int)-(M.takes (nP e i0)))<=(v0.length:Int))/\((v0.length:Int)<=(v0.length:Int))/\((v0.length:Int)=(v0.length:Int))/\Q0 (S169l0_0  row e i0 v0 m K)) (K (.exit 0) (⟨[(4,.ptr 4 0),(5,.own 5 none)],[(4,.box [dI Z0,dI Z0,.data Ty.str (⟨#[]⟩:ByteArray)]),(5,.arr .sh af v0)]⟩:St))):=by kernel_rfl
theorem con169_ok:bt P 169 c169:=bA C169 func169 (kC con165_ok (kC con212_ok kN)) fun args hp K h0=>by
 obtain⟨row,e,rfl,rfl,h_row,h_e,p0,hK⟩:=g2e h0
 have h:ok (F.mS row e) (fun r=>K (.data af r) []):=aA (F.vD row e h_row h_e p0) (hK _ rfl)
 refine⟨rfl,ann169,(L169 row e),(.dat af),(bW (i0:=0) (by kernel_rfl) ?_),?_⟩
 ·rintro _ _ K ⟨hc0,i0,v0,rfl,hl0,rfl,hv0,h⟩
  exact cast (lvc169_0 _ _ _ _ _ _).symm (bD (t:=aD) hl0 h (fun ht0 h=>⟨hl0,⟨ht0,⟨(aO h_e i0),(oG h fun _ h=>(oG h fun g1 h=>⟨(Int.le_refl _),⟨rfl,(q0 (⟨(aO h_e i0),⟨h_row,(oG h fun _ h=>(oG h fun _ h=>(oG h fun _ h=>(oG h fun _ h=>(oL h fun _ _ h=>⟨(Int.natCast_nonneg 0),(oG h fun _ h=>⟨g1,⟨rfl,⟨rfl,(oG h fun _ h=>(br (t:=aD) (fun _ hm=>⟨hc0,hm⟩) _ rfl hl0 ht0 (bC h_e) trivial h))⟩⟩⟩)⟩)))))⟩⟩))⟩⟩))⟩⟩⟩) fun h=>(h trivial))
 ·rw[vc169]
  exact(bu (t:=aD) (fun m hm=>⟨trivial,hm⟩) _ rfl trivial (bn h (fun v0 h hv0=>⟨(Int.natCast_nonneg 0),(oG h fun _ h=>h)⟩) (fun _ h=>h.elim)))
def c101:Con:=⟨[.dat TVS,.dat TPS],fun args hp K=>g2 (pD TVS) (pD TPS) (fun row e=>(Sm TVS row)/\(Sm TPS e)/\(M.fG row.length e)/\K (dB (M.holds row e)) []) args hp,.plain,false⟩
abbrev C101:Ctx:=cx [(169,c169),(170,c170)] 10 [] 0 false
def ann101:=an [[kp 3],[kp 16]] []
theorem vc101 (row:LV) (e:LPt) (K:KA):vcT C101 aB ann101 f101 [.data TVS row,.data TPS e] [] (.dat Ty.bool) K =
 ((Sm TVS row)/\(Sm TPS e)/\(M.fG row.length e)/\(LD (M.kK row e) fun r1=>(LD (M.valueOf Z1) fun r2=>K (dB (Ty.beq af r1 r2)) []))):=by kernel_rfl
theorem con101_ok:bt P 101 c101:=bA C101 func101 (kC con169_ok (kC con170_ok kN)) fun args hp K h0=>by
 obtain⟨row,e,rfl,rfl,h_row,h_e,p0,hK⟩:=g2e h0
 have h:ok (F.rT row e) (fun r=>K (dB r) []):=aA (F.vL row e h_row h_e p0) hK
 refine⟨rfl,ann101,aB,(.dat Ty.bool),(aL (by kernel_rfl)),?_⟩
 ·rw[vc101]
  exact⟨h_row,⟨h_e,⟨p0,(oL h fun _ _ h=>(oL h fun _ _ h=>h))⟩⟩⟩
def c44:Con:=⟨[.dat TCS,.dat TVS,.dat TPS],fun args hp K=>g3 (pD TCS) (pD TVS) (pD TPS) (fun LJ row e=>(Sm TCS LJ)/\(Sm TVS row)/\(Sm TPS e)/\K (dB (M.ld LJ row e)) []) args hp,.plain,false⟩
abbrev C44:Ctx:=cx [(99,c99),(100,c100),(101,c101)] 21 [] 0 false
def ann44:=an [[kp 7],[kp 64]] []
theorem vc44 (LJ:LC) (row:LV) (e:LPt) (K:KA):vcT C44 aB ann44 f44 [.data TCS LJ,.data TVS row,.data TPS e] [] (.dat Ty.bool) K =
 ((Sm TCS LJ)/\(Sm TPS e)/\cond ((decide ((M.bR LJ e)=Z3))==true) ((Sm TCS LJ)/\(Sm TVS row)/\cond ((M.cA LJ row)==true) ((Sm TVS row)/\(Sm TPS e)/\(M.fG row.length e)/\K (dB (M.holds row e)) []) (K (dB false) [])) (K (dB false) [])):=by kernel_rfl
theorem con44_ok:bt P 44 c44:=bA C44 func44 (kC con99_ok (kC con100_ok (kC con101_ok kN))) fun args hp K h0=>by
 obtain⟨LJ,row,e,rfl,rfl,LP,h_row,h_e,hK⟩:=g3e h0
 have h:ok (F.mP LJ row e) (fun r=>K (dB r) []):=aA (F.vR LJ row e LP h_row h_e) hK
 refine⟨rfl,ann44,aB,(.dat Ty.bool),(aL (by kernel_rfl)),?_⟩
 ·rw[vc44]
  exact⟨LP,⟨h_e,(oC h (fun _ h=>⟨LP,⟨h_row,(oC h (fun _ h=>⟨h_row,⟨h_e,(oG h fun _ h=>h)⟩⟩) fun _ h=>h)⟩⟩) fun _ h=>h)⟩⟩
def c133:Con:=⟨[.dat (Ty.sl TVS),.dat TVS],fun args hp K=>g2 (pD (Ty.sl TVS)) (pD TVS) (fun rows row=>(Sm (Ty.sl TVS) rows)/\(Sm TVS row)/\K (dI (M.rowAt rows row)) []) args hp,.bor,false⟩
abbrev C133:Ctx:=cx [(190,c190),(191,c191)] 8 [] 0 false
def ann133:=an [[.fixBox 3,kp 9],[kp 16]] []
theorem vc133 (rows:(List LV)) (row:LV) (K:KA):vcT C133 aB ann133 f133 [.data (Ty.sl TVS) rows,.data TVS row] [] (.dat aE) K =
 (((Sm (Ty.sl TVS) rows)/\(Sm TVS row)/\K (dI (M.idx (t:=TVS) (fun e=>decide (e=row)) rows)) [])\/False):=by kernel_rfl
theorem con133_ok:bt P 133 c133:=bA C133 func133 (kC con190_ok (kC con191_ok kN)) fun args hp K h0=>by
 obtain⟨rows,row,rfl,rfl,h_rows,h_row,hK⟩:=g2e h0
 have h:ok (F.zu rows row) (fun r=>K (dI r) []):=aA (F.AX rows row h_rows h_row) hK
 refine⟨rfl,ann133,aB,(.dat aE),(aL (by kernel_rfl)),?_⟩
 ·rw[vc133]
  exact(Or.inl (⟨h_rows,⟨h_row,h⟩⟩))
def c71:Con:=⟨[.dat TTb,.dat aK],fun args hp K=>g2 (pD TTb) (pD aK) (fun LK c=>(Sm TTb LK)/\(Sm aK c)/\K (dB (M.cJ LK c)) []) args hp,.bor,false⟩
abbrev C71:Ctx:=cx [(28,c28),(100,c100),(132,c132),(133,c133)] 51 [] 0 false
def ann71:=an [[.fixRow 3 aK,kp 9],[kp 131081],[kp 16],[.fixRow 5 ai,kp 40],[kp 16]] []
abbrev S71_0 (LK:LTb) (c:aK.D) (K:KA):Prop:=cond ((!c.2.2.1)==true) ((Sm (Ty.sl TVS) (nT LK c.1).2.1)/\(Sm TVS c.2.1)/\K (dB (decide (Z0<=(M.rowAt (nT LK c.1).2.1 c.2.1)))) []) (K (dB false) [])
theorem vc71 (LK:LTb) (c:aK.D) (K:KA):vcT C71 aB ann71 f71 [.data TTb LK,.data aK c] [] (.dat Ty.bool) K =
 ((Sm TTb LK)/\cond ((!(M.bw LK))==false) (cond (!(M.inR c.1 Z0 (wrap64 ((LK.length:Int)-Z1)))) (K (dB false) []) ((0<=c.1)/\(c.1<(LK.length:Int))/\(Sm TCS (nT LK c.1).1)/\(Sm TVS c.2.1)/\cond ((M.cA (nT LK c.1).1 c.2.1)==true) (cond (c.2.2.1==true) (cond ((decide (((nT LK c.1).2.1.length:Int)<Z6))==false) (S71_0 LK c K) (K (dB true) [])) (S71_0 LK c K)) (K (dB false) []))) (K (dB false) [])):=by kernel_rfl
theorem con71_ok:bt P 71 c71:=bA C71 func71 (kC con28_ok (kC con100_ok (kC con132_ok (kC con133_ok kN)))) fun args hp K h0=>by
 obtain⟨LK,c,rfl,rfl,LO,h_c,hK⟩:=g2e h0
 have h:ok (F.oJ LK c) (fun r=>K (dB r) []):=aA (F.vX LK c LO h_c) hK
 refine⟨rfl,ann71,aB,(.dat Ty.bool),(aL (by kernel_rfl)),?_⟩
 ·rw[vc71]
  exact⟨LO,(oC h (fun _ h=>(oC h (fun _ h=>h) fun b_2 h=>⟨(fk (bnf b_2)),⟨(kB (bnf b_2)),⟨(aO LO c.1).1,⟨h_c.2.1,(oC h (fun _ h=>(oC h (fun b_4 h=>(oC h (fun _ h=>(dR (uef (unf (bet b_4))) h)) fun _ h=>h)) fun b_4 h=>(bO (uet (unt (bef b_4))) ⟨(aO LO c.1).2.1,⟨h_c.2.1,h⟩⟩))) fun _ h=>h)⟩⟩⟩⟩)) fun _ h=>h)⟩
abbrev C192:Ctx:=cx [] 9 [] 400000 true
def T192:Inl:=rR C192 (fun _=>[]) (dO f192) f192.results.toList
theorem inlOk192:sw P 192 T192:=wA C192 func192 kN
def c134:Con:=⟨[.dat TVS],fun args hp K=>g1 (pD TVS) (fun xs=>(Sm TVS xs)/\(LD xs fun r=>K (.clp 0 (r.length:Int)) [(0,.arr .sh af r)])) args hp,.bor,false⟩
abbrev C134:Ctx:=cx [] 9 [(192,T192)] 0 true
def ann134:=an [[kp 1],[kp 33],[.clip 2,kp 4],[kp 4]] []
theorem vc134 (xs:LV) (K:KA):vcT C134 aB ann134 f134 [.data TVS xs] [] .raw K =
 (cond (decide ((xs.length:Int)=Z0)) (K (.clp 0 (([]:List af.D).length:Int)) [(0,.arr .sh af ([]:List af.D))]) ((xs.length * 32<=lim)/\(0<=Z0)/\(Z0<=(xs.length:Int))/\((xs.length:Int)<=(xs.length:Int))/\((xs.length:Int)=(xs.length:Int))/\(Z0=0)/\K (.clp 0 ((xs.take (xs.length:Int).toNat).length:Int)) [(0,.arr .sh af (xs.take (xs.length:Int).toNat))])):=by kernel_rfl
theorem con134_ok:bt P 134 c134:=bA C134 func134 (kI inlOk192 kN) fun args hp K h0=>by
 obtain⟨xs,rfl,rfl,h_xs,hK⟩:=g1e h0
 have h:ok (F.vJ xs) (fun r=>K (.clp 0 (r.length:Int)) [(0,.arr .sh af r)]):=aA (F.yy xs h_xs) (hK _ rfl)
 refine⟨rfl,ann134,aB,.raw,(aL (by kernel_rfl)),?_⟩
 ·rw[vc134]
  exact(oC h (fun _ h=>h) fun _ h=>⟨(AH h_xs rfl),⟨(Int.natCast_nonneg 0),⟨(Int.natCast_nonneg _),⟨(Int.le_refl _),⟨rfl,⟨rfl,h⟩⟩⟩⟩⟩⟩)
abbrev C156:Ctx:=cx [] 9 [] 400000 true
def T156:Inl:=rR C156 (fun _=>[]) (dO f156) f156.results.toList
theorem inlOk156:sw P 156 T156:=wA C156 func156 kN
def c87:Con:=⟨[.dat (Ty.sl TVS)],fun args hp K=>g1 (pD (Ty.sl TVS)) (fun rows=>(Sm (Ty.sl TVS) rows)/\(LD rows fun r=>K (.clp 0 (r.length:Int)) [(0,.arr .dp TVS r)])) args hp,.bor,false⟩
abbrev C87:Ctx:=cx [(134,c134)] 20 [(156,T156)] 0 true
def ann87:=an [[kp 1],[kp 9],[kp 456],[kp 968],[kp 488],[kp 456],[kp 456],[kp 4]] [[kp 8]]
abbrev s87_0 (rows:(List LV)) (i0:Int) (v0:(List LV)):St:=⟨[(3,.own 3 none),(6,.data (Ty.sl TVS) rows),(7,dI (rows.length:Int)),(8,dI i0)],[(3,.arr .dp TVS v0)]⟩
abbrev LP87_0 (rows:(List LV)) (m:Nat) (st_:St) (K:KX):Prop:=True/\cw (t:=TVS) (s87_0 rows) rows (F.iU rows) (fun v0:(List LV)=>True) (bz (fun v0:(List LV)=>True->K (.exit 0) (⟨[(3,.own 3 none)],[(3,.arr .dp TVS v0)]⟩:St)) (fun _=>False)) m st_
def L87 (rows:(List LV)):bK:=lp1 0 (LP87_0 rows)
theorem vc87 (rows:(List LV)) (K:KA):vcT C87 (L87 rows) ann87 f87 [.data (Ty.sl TVS) rows] [] .raw K =
 (∃m_,True/\cw (t:=TVS) (s87_0 rows) rows (F.iU rows) (fun v0:(List LV)=>True) (bz (fun v0:(List LV)=>True->(0<=Z0)/\(Z0<=(v0.length:Int))/\((v0.length:Int)<=(v0.length:Int))/\((v0.length:Int)=(v0.length:Int))/\(Z0=0)/\K (.clp 0 ((v0.take (v0.length:Int).toNat).length:Int)) [(0,.arr .dp TVS (v0.take (v0.length:Int).toNat))]) (fun _=>False)) m_ (s87_0 rows Z0 [])):=by kernel_rfl
theorem lvc87_0 (rows:(List LV))  (i0:Int) (v0:(List LV)) (m:Nat) (K:KX):lvT C87 (L87 rows) ann87 f87 0 0 (s87_0 rows i0 v0) m K =
 (cond (decide (i0<(rows.length:Int))) ((0<=i0)/\(i0<(rows.length:Int))/\(Sm TVS (@nth TVS rows i0))/\(LD (@nth TVS rows i0) fun r1=>((v0.length+[(aj r1 (some (Z0,(r1.length:Int))))].length) * 24<=lim)/\(nxT (LP87_0 rows) m K (s87_0 rows (wrap64 (i0+Z1)) (v0++[(aj r1 (some (Z0,(r1.length:Int))))]))))) (K (.exit 0) (⟨[(3,.own 3 none)],[(3,.arr .dp TVS v0)]⟩:St))):=by kernel_rfl
theorem con87_ok:bt P 87 c87:=bA C87 func87 (kC con134_ok (kI inlOk156 kN)) fun args hp K h0=>by
 obtain⟨rows,rfl,rfl,h_rows,hK⟩:=g1e h0
 have h:ok (F.oF rows) (fun r=>K (.clp 0 (r.length:Int)) [(0,.arr .dp TVS r)]):=aA (F.wE rows h_rows) (hK _ rfl)
 refine⟨rfl,ann87,(L87 rows),.raw,(bW (i0:=0) (by kernel_rfl) ?_),?_⟩
 ·rintro _ _ K ⟨hc0,i0,v0,rfl,hl0,rfl,hv0,h⟩
  exact cast (lvc87_0 _ _ _ _ _).symm (bD (t:=TVS) hl0 h (fun ht0 h=>⟨hl0,⟨ht0,⟨(aO h_rows i0),(oL h fun _ _ h=>(oG h fun _ h=>(br (t:=TVS) (fun _ hm=>⟨hc0,hm⟩) _ rfl hl0 ht0 (bC h_rows) trivial h)))⟩⟩⟩) fun h=>(h trivial))
 ·rw[vc87]
  exact(bu (t:=TVS) (fun m hm=>⟨trivial,hm⟩) _ rfl trivial (bn h (fun v0 h hv0=>⟨(Int.natCast_nonneg 0),⟨(Int.natCast_nonneg _),⟨(Int.le_refl _),⟨rfl,⟨rfl,h⟩⟩⟩⟩⟩) (fun _ h=>h.elim)))
abbrev C116:Ctx:=cx [(87,c87),(181,c181)] 10 [] 200000 true
def T116:Inl:=rR C116 (fun _=>[]) (dO f116) f116.results.toList
theorem inlOk116:sw P 116 T116:=wA C116 func116 (kC con87_ok (kC con181_ok kN))
abbrev C117:Ctx:=cx [] 9 [] 400000 true
def T117:Inl:=rR C117 (fun _=>[]) (dO f117) f117.results.toList
theorem inlOk117:sw P 117 T117:=wA C117 func117 kN
def c54:Con:=⟨[.dat TTb],fun args hp K=>g1 (pD TTb) (fun LK=>(Sm TTb LK)/\(LD LK fun r=>K (.own 0 none) [(0,.arr .dp ai r)])) args hp,.bor,false⟩
abbrev C54:Ctx:=cx [] 20 [(116,T116),(117,T117)] 0 true
def ann54:=an [[kp 1],[kp 9],[kp 456],[kp 968],[.fixRow 5 ai,kp 488],[kp 456],[kp 456],[kp 4]] [[kp 8]]
abbrev s54_0 (LK:LTb) (i0:Int) (v0:LTb):St:=⟨[(3,.own 3 none),(6,.data TTb LK),(7,dI (LK.length:Int)),(8,dI i0)],[(3,.arr .dp ai v0)]⟩
abbrev LP54_0 (LK:LTb) (m:Nat) (st_:St) (K:KX):Prop:=True/\cw (t:=ai) (s54_0 LK) LK (F.gv LK) (fun v0:LTb=>True) (bz (fun v0:LTb=>True->K (.exit 0) (⟨[(3,.own 3 none)],[(3,.arr .dp ai v0)]⟩:St)) (fun _=>False)) m st_
def L54 (LK:LTb):bK:=lp1 0 (LP54_0 LK)
theorem vc54 (LK:LTb) (K:KA):vcT C54 (L54 LK) ann54 f54 [.data TTb LK] [] .own K =
 (∃m_,True/\cw (t:=ai) (s54_0 LK) LK (F.gv LK) (fun v0:LTb=>True) (bz (fun v0:LTb=>True->(0<=Z0)/\(Z0<=(v0.length:Int))/\((v0.length:Int)<=(v0.length:Int))/\((v0.length:Int)=(v0.length:Int))/\(Z0=0)/\(((v0.take (v0.length:Int).toNat).length:Int)=((v0.take (v0.length:Int).toNat).length:Int))/\K (.own 0 none) [(0,.arr .dp ai (v0.take (v0.length:Int).toNat))]) (fun _=>False)) m_ (s54_0 LK Z0 [])):=by kernel_rfl
theorem lvc54_0 (LK:LTb)  (i0:Int) (v0:LTb) (m:Nat) (K:KX):lvT C54 (L54 LK) ann54 f54 0 0 (s54_0 LK i0 v0) m K =
 (cond (decide (i0<(LK.length:Int))) ((0<=i0)/\(i0<(LK.length:Int))/\(Sm TCS (nT LK i0).1)/\(LD (nT LK i0).1 fun r1=>(Sm (Ty.sl TVS) (nT LK i0).2.1)/\(LD (nT LK i0).2.1 fun r2=>((v0.length+[((aj r1 (some (Z0,(r1.length:Int)))),((aj r2 (some (Z0,(r2.length:Int)))),()))].length) * 48<=lim)/\(nxT (LP54_0 LK) m K (s54_0 LK (wrap64 (i0+Z1)) (v0++[((aj r1 (some (Z0,(r1.length:Int)))),((aj r2 (some (Z0,(r2.length:Int)))),()))])))))) (K (.exit 0) (⟨[(3,.own 3 none)],[(3,.arr .dp ai v0)]⟩:St))):=by kernel_rfl
theorem con54_ok:bt P 54 c54:=bA C54 func54 (kI inlOk116 (kI inlOk117 kN)) fun args hp K h0=>by
 obtain⟨LK,rfl,rfl,LO,hK⟩:=g1e h0
 have h:ok (F.lR LK) (fun r=>K (.own 0 none) [(0,.arr .dp ai r)]):=aA (F.uk LK LO) (hK _ rfl)
 refine⟨rfl,ann54,(L54 LK),.own,(bW (i0:=0) (by kernel_rfl) ?_),?_⟩
 ·rintro _ _ K ⟨hc0,i0,v0,rfl,hl0,rfl,hv0,h⟩
  exact cast (lvc54_0 _ _ _ _ _).symm (bD (t:=ai) hl0 h (fun ht0 h=>⟨hl0,⟨ht0,⟨(aO LO i0).1,(oL h fun _ _ h=>⟨(aO LO i0).2.1,(oL h fun _ _ h=>(oG h fun _ h=>(br (t:=ai) (fun _ hm=>⟨hc0,hm⟩) _ rfl hl0 ht0 (bC LO) trivial h)))⟩)⟩⟩⟩) fun h=>(h trivial))
 ·rw[vc54]
  exact(bu (t:=ai) (fun m hm=>⟨trivial,hm⟩) _ rfl trivial (bn h (fun v0 h hv0=>⟨(Int.natCast_nonneg 0),⟨(Int.natCast_nonneg _),⟨(Int.le_refl _),⟨rfl,⟨rfl,⟨rfl,h⟩⟩⟩⟩⟩⟩) (fun _ h=>h.elim)))
def T88:Inl:=Kv
theorem inlOk88:sw P 88 T88:=⟨Go.Proofs.enters_of func88 (by kernel_rfl) rfl,KL Go.Proofs.FG⟩
def c72:Con:=⟨[.dat TTb,.dat aK],fun args hp K=>g2 (pD TTb) (pD aK) (fun LK c=>(Sm TTb LK)/\(Sm aK c)/\(M.cJ LK c)/\(LD (M.bP LK c) fun r=>K (.own 0 none) [(0,.arr .dp ai r)])) args hp,.bor,false⟩
abbrev C72:Ctx:=cx [(54,c54),(87,c87),(133,c133),(134,c134)] 55 [(88,T88)] 0 true
def ann72:=an [[.fixRow 3 aK,kp 9],[kp 40],[kp 104],[kp 32872],[kp 96],[kp 224],[kp 96],[kp 32],[kp 16]] []
theorem vc72 (LK:LTb) (c:aK.D) (K:KA):vcT C72 aB ann72 f72 [.data TTb LK,.data aK c] [] .raw K =
 ((Sm TTb LK)/\(LD LK fun r1=>(0<=c.1)/\(c.1<(r1.length:Int))/\cond c.2.2.1 ((Sm TVS c.2.1)/\(LD c.2.1 fun r2=>(((nT r1 c.1).2.1.length+[(aj r2 (some (Z0,(r2.length:Int))))].length) * 24<=lim)/\(c.1=c.1)/\(let y1:LTb:=((r1.set c.1.toNat ((nT r1 c.1).1,([],()))).set c.1.toNat ((nT (r1.set c.1.toNat ((nT r1 c.1).1,([],()))) c.1).1,(((nT r1 c.1).2.1++[(aj r2 (some (Z0,(r2.length:Int))))]),())));(Sm (Ty.sl TVS) (nT y1 c.1).2.1)/\(LD (nT y1 c.1).2.1 fun r3=>(let y2:LTb:=(y1.set c.1.toNat ((nT y1 c.1).1,((aj r3 (some (Z0,(r3.length:Int)))),())));K (.own 0 none) [(0,.arr .dp ai y2)]))))) ((Sm (Ty.sl TVS) (nT r1 c.1).2.1)/\(Sm TVS c.2.1)/\(0<=(M.rowAt (nT r1 c.1).2.1 c.2.1))/\((M.rowAt (nT r1 c.1).2.1 c.2.1)<=wrap64 ((M.rowAt (nT r1 c.1).2.1 c.2.1)+Z1))/\(wrap64 ((M.rowAt (nT r1 c.1).2.1 c.2.1)+Z1)<=((nT r1 c.1).2.1.length:Int))/\(c.1=c.1)/\(let y3:LTb:=((r1.set c.1.toNat ((nT r1 c.1).1,([],()))).set c.1.toNat ((nT (r1.set c.1.toNat ((nT r1 c.1).1,([],()))) c.1).1,(((nT r1 c.1).2.1.take (M.rowAt (nT r1 c.1).2.1 c.2.1).toNat++(nT r1 c.1).2.1.drop (wrap64 ((M.rowAt (nT r1 c.1).2.1 c.2.1)+Z1)).toNat),())));(Sm (Ty.sl TVS) (nT y3 c.1).2.1)/\(LD (nT y3 c.1).2.1 fun r3=>(let y2:LTb:=(y3.set c.1.toNat ((nT y3 c.1).1,((aj r3 (some (Z0,(r3.length:Int)))),())));K (.own 0 none) [(0,.arr .dp ai y2)])))))):=by kernel_rfl
theorem con72_ok:bt P 72 c72:=bA C72 func72 (kC con54_ok (kC con87_ok (kC con133_ok (kC con134_ok (kI inlOk88 kN))))) fun args hp K h0=>by
 obtain⟨LK,c,rfl,rfl,LO,h_c,p0,hK⟩:=g2e h0
 have h:ok (F.kM LK c) (fun r=>K (.own 0 none) [(0,.arr .dp ai r)]):=aA (F.sV LK c LO h_c p0) (hK _ rfl)
 refine⟨rfl,ann72,aB,.raw,(aL (by kernel_rfl)),?_⟩
 ·rw[vc72]
  exact⟨LO,(oL h fun _ _ h=>(oG h fun _ h=>(oG h fun _ h=>(oC h (fun _ h=>⟨h_c.2.1,(oL h fun _ _ h=>(oG h fun _ h=>⟨rfl,(have h:=cI h _ rfl;(oG h fun _ h=>(oL h fun _ _ h=>(have h:=cI h _ rfl;h))))⟩))⟩) fun _ h=>(oG h fun _ h=>⟨h_c.2.1,(oG h fun _ h=>(oG h fun _ h=>(oG h fun _ h=>⟨rfl,(have h:=cI h _ rfl;(oG h fun _ h=>(oL h fun _ _ h=>(have h:=cI h _ rfl;h))))⟩)))⟩)))))⟩
end Go.AE
