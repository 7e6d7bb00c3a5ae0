/- Contracts. -/
import Derived.Test.YtiplhefglgpdoaaGreatAeMQ
import Derived.Test.YtiplhefglgpdoaaGreatAeEq
namespace Go.AE
open Go Go.RowKit Go.Proofs.Tryz
set_option maxRecDepth 100000
set_option maxHeartbeats 2000000
set_option linter.unusedVariables false
abbrev Q0 (p:Prop):Prop:=(p/\p)
theorem q0 {p:Prop} (h:p):Q0 p:=⟨h,h⟩
abbrev Q1 (p:Prop):Prop:=(p/\(p/\(p/\p)))
theorem q1 {p:Prop} (h:p):Q1 p:=⟨h,⟨h,⟨h,h⟩⟩⟩
abbrev Q2 (p:Prop):Prop:=(p/\(p/\p))
theorem q2 {p:Prop} (h:p):Q2 p:=⟨h,⟨h,h⟩⟩
abbrev Q3 (p:Prop):Prop:=((p/\(p/\p))/\((p/\p)/\p))
theorem q3 {p:Prop} (h:p):Q3 p:=⟨⟨h,⟨h,h⟩⟩,⟨⟨h,h⟩,h⟩⟩
abbrev Q4 (p:Prop):Prop:=((p/\p)/\p)
theorem q4 {p:Prop} (h:p):Q4 p:=⟨⟨h,h⟩,h⟩
abbrev Q5 (p:Prop):Prop:=((p/\p)/\(p/\(p/\p))/\(p/\(p/\p)))
theorem q5 {p:Prop} (h:p):Q5 p:=⟨⟨h,h⟩,⟨h,⟨h,h⟩⟩,⟨h,⟨h,h⟩⟩⟩
def c67:Con:=⟨[.dat aC,.dat aC,.dat aC],fun args hp K=>g3 (pD aC) (pD aC) (pD aC) (fun n low high=>K (dB (M.inR n low high)) []) args hp,.plain,false⟩
abbrev C67:Ctx:=cx [] 15 [] 0 false
def ann67:=an [[kp 7],[kp 64]] []
theorem vc67 (n:Int) (low:Int) (high:Int) (K:KA):vcT C67 aB ann67 f67 [dI n,dI low,dI high] [] (.dat Ty.bool) K =
 (cond ((decide (low<=n))==true) (K (dB (decide (n<=high))) []) (K (dB false) [])):=by kernel_rfl
theorem con67_ok:bf P 67 c67:=br C67 func67 kN fun args hp K h0=>by
 obtain⟨n,low,high,rfl,rfl,hK⟩:=g3e h0
 have h:ok (F.qb n low high) (fun r=>K (dB r) []):=az (F.xw n low high) hK
 refine⟨rfl,ann67,aB,(.dat Ty.bool),(aH (by kernel_rfl)),?_⟩
 ·rw[vc67]
  exact(oC h (fun _ h=>h) fun _ h=>h)
def c147:Con:=⟨[.dat Ty.str],fun args hp K=>g1 (pD Ty.str) (fun s=>(Sm Ty.str s)/\K (dB (M.lower (bR s))) []) args hp,.plain,false⟩
abbrev C147:Ctx:=cx [(67,c67)] 17 [] 0 false
def ann147:=an [[kp 1],[kp 448],[kp 960],[kp 464],[kp 33216],[kp 4],[kp 448],[kp 4]] [[kp 0]]
abbrev s147_0 (s:ByteArray) (i0:Int) (v0:Unit):St:=⟨[(6,.data TBy (bR s)),(7,dI ((bR s).length:Int)),(8,dI i0)],[]⟩
abbrev LP147_0 (s:ByteArray) (m:Nat) (st_:St) (K:KX):Prop:=True/\bX (t:=(Ty.int .u8)) (s147_0 s) (bR s) (F.iO s) (fun v0:Unit=>True) (bg (fun v0:Unit=>True->K (.exit 0) (⟨[],[]⟩:St)) (fun q0:Unit=>K .ret (⟨[(2,dB false)],[]⟩:St))) m st_
def L147 (s:ByteArray):bH:=lp1 0 (LP147_0 s)
theorem vc147 (s:ByteArray) (K:KA):vcT C147 (L147 s) ann147 f147 [.data Ty.str s] [] (.dat Ty.bool) K =
 (∃m_,True/\bX (t:=(Ty.int .u8)) (s147_0 s) (bR s) (F.iO s) (fun v0:Unit=>True) (bg (fun v0:Unit=>True->K (dB true) []) (fun q0:Unit=>K (dB false) [])) m_ (s147_0 s Z0 ())):=by kernel_rfl
theorem lvc147_0 (s:ByteArray)  (i0:Int) (v0:Unit) (m:Nat) (K:KX):lvT C147 (L147 s) ann147 f147 0 0 (s147_0 s i0 v0) m K =
 (cond (decide (i0<((bR s).length:Int))) ((0<=i0)/\(i0<((bR s).length:Int))/\cond (!(M.inR (wrap64 (nth (t:=(Ty.int .u8)) (bR s) i0)) (97:Int) (122:Int))) (K .ret (⟨[(2,dB false)],[]⟩:St)) (nxT (LP147_0 s) m K (s147_0 s (wrap64 (i0+Z1)) ()))) (K (.exit 0) (⟨[],[]⟩:St))):=by kernel_rfl
theorem con147_ok:bf P 147 c147:=br C147 func147 (kC con67_ok kN) fun args hp K h0=>by
 obtain⟨s,rfl,rfl,h_s,hK⟩:=g1e h0
 have h:ok (F.pq s) (fun r=>K (dB r) []):=az (F.xI s h_s) hK
 refine⟨rfl,ann147,(L147 s),(.dat Ty.bool),(bL (i0:=0) (by kernel_rfl) ?_),?_⟩
 ·rintro _ _ K ⟨hc0,i0,v0,rfl,hl0,rfl,hv0,h⟩
  exact cast (lvc147_0 _ _ _ _ _).symm (bB (t:=(Ty.int .u8)) hl0 h (fun ht0 h=>⟨hl0,⟨ht0,(oC h (fun _ h=>h) fun _ h=>(aZ (t:=(Ty.int .u8)) (fun _ hm=>⟨hc0,hm⟩) _ rfl hl0 ht0 (bz (GR h_s)) trivial h))⟩⟩) fun h=>(h trivial))
 ·rw[vc147]
  exact(bn (t:=(Ty.int .u8)) (fun m hm=>⟨trivial,hm⟩) _ rfl trivial (aT h (fun v0 h hv0=>h) (fun q0 h=>h)))
def c99:Con:=⟨[.dat af],fun args hp K=>g1 (pD af) (fun v=>(Sm af v)/\K (dB (M.aR v)) []) args hp,.plain,false⟩
abbrev C99:Ctx:=cx [(67,c67),(147,c147)] 46 [] 0 false
def ann99:=an [[.fixRow 1 af,kp 2],[kp 18],[kp 50],[kp 4],[kp 1042],[kp 4],[kp 1048594],[kp 4],[.keep [1,36]],[kp 4],[kp 4]] []
theorem vc99 (v:af.D) (K:KA):vcT C99 aB ann99 f99 [.data af v] [] (.dat Ty.bool) K =
 (cond (decide (v.1=Z0)) (K (dB (Ty.beq af v (Z0,(Z0,((⟨#[]⟩:ByteArray),()))))) []) (cond (decide (v.1=Z1)) (cond ((decide (v.2.2.1=(⟨#[]⟩:ByteArray)))==true) (K (dB (M.inR v.2.1 (-9999:Int) (9999:Int))) []) (K (dB false) [])) (cond (decide (v.1=Z2)) (cond ((decide (v.2.1=Z0))==true) (cond ((decide ((v.2.2.1.size:Int)<=Z6))==true) ((Sm Ty.str v.2.2.1)/\K (dB (M.lower (bR v.2.2.1))) []) (K (dB false) [])) (K (dB false) [])) (cond (decide (v.1=Z3)) (cond ((decide (v.2.2.1=(⟨#[]⟩:ByteArray)))==true) (K (dB (M.inR v.2.1 Z0 Z1)) []) (K (dB false) [])) (K (dB false) []))))):=by kernel_rfl
theorem con99_ok:bf P 99 c99:=br C99 func99 (kC con67_ok (kC con147_ok kN)) fun args hp K h0=>by
 obtain⟨v,rfl,rfl,h_v,hK⟩:=g1e h0
 have h:ok (F.nO v) (fun r=>K (dB r) []):=az (F.vw v h_v) hK
 refine⟨rfl,ann99,aB,(.dat Ty.bool),(aH (by kernel_rfl)),?_⟩
 ·rw[vc99]
  exact(oC h (fun _ h=>h) fun _ h=>(oC h (fun _ h=>(oC h (fun _ h=>h) fun _ h=>h)) fun _ h=>(oC h (fun _ h=>(oC h (fun _ h=>(oC h (fun _ h=>⟨h_v.2.2.1,h⟩) fun _ h=>h)) fun _ h=>h)) fun _ h=>(oC h (fun _ h=>(oC h (fun _ h=>h) fun _ h=>h)) fun _ h=>h))))
def c53:Con:=⟨[.dat af],fun args hp K=>g1 (pD af) (fun v=>(Sm af v)/\K (dB (M.aR v)) []) args hp,.plain,false⟩
abbrev C53:Ctx:=cx [(99,c99)] 5 [] 0 false
def ann53:=an [[.fixRow 1 af,kp 2],[kp 4]] []
theorem vc53 (v:af.D) (K:KA):vcT C53 aB ann53 f53 [.data af v] [] (.dat Ty.bool) K =
 ((Sm af v)/\K (dB (M.aR v)) []):=by kernel_rfl
theorem con53_ok:bf P 53 c53:=br C53 func53 (kC con99_ok kN) fun args hp K h0=>by
 obtain⟨v,rfl,rfl,h_v,hK⟩:=g1e h0
 have h:ok (F.tJ v) (fun r=>K (dB r) []):=az (F.xB v h_v) hK
 refine⟨rfl,ann53,aB,(.dat Ty.bool),(aH (by kernel_rfl)),?_⟩
 ·rw[vc53]
  exact⟨h_v,h⟩
def c14:Con:=⟨[],fun args hp K=>HI (K (dB true) []) args hp,.plain,false⟩
abbrev C14:Ctx:=cx [(53,c53)] 8 [] 0 false
def ann14:=an [[kp 0],[kp 1]] []
theorem vc14  (K:KA):vcT C14 aB ann14 f14 [] [] (.dat Ty.bool) K =
 ((Sm af (Z1,(Z3,((⟨#[]⟩:ByteArray),()))))/\cond ((M.aR (Z1,(Z3,((⟨#[]⟩:ByteArray),()))))==true) ((Sm af ((9:Int),(Z0,((⟨#[]⟩:ByteArray),()))))/\K (dB (!(M.aR ((9:Int),(Z0,((⟨#[]⟩:ByteArray),())))))) []) (K (dB false) [])):=by kernel_rfl
theorem con14_ok:bf P 14 c14:=br C14 func14 (kC con53_ok kN) fun args hp K h0=>by
 obtain⟨rfl,rfl,h1⟩:=Ey h0
 have hK:=h1
 have h:ok (F.sG) (fun r=>K (dB r) []):=az (F.Ad) hK
 refine⟨rfl,ann14,aB,(.dat Ty.bool),(aH (by kernel_rfl)),?_⟩
 ·rw[vc14]
  exact⟨(show Sm af _ from⟨trivial,(show Sm (Ty.pair aC (Ty.pair Ty.str Ty.unit)) _ from⟨trivial,(show Sm (Ty.pair Ty.str Ty.unit) _ from⟨(Nat.le_of_ble_eq_true rfl),trivial⟩)⟩)⟩),(oC h (fun _ h=>⟨(show Sm af _ from⟨trivial,(show Sm (Ty.pair aC (Ty.pair Ty.str Ty.unit)) _ from⟨trivial,(show Sm (Ty.pair Ty.str Ty.unit) _ from⟨(Nat.le_of_ble_eq_true rfl),trivial⟩)⟩)⟩),h⟩) fun _ h=>h)⟩
abbrev C39:Ctx:=cx [] 11 [] 200000 false
def T39:Inl:=uo C39 (fun _=>[]) (dP f39) f39.results.toList
theorem inlOk39:vj P 39 T39:=AI C39 func39 kN
def c41:Con:=⟨[.any,.dat aC],fun args hp K=>hpR (fun b p=>args2 (fun a0 a1=>mY a0 (ff aC a1 fun n=>(Sm TBy b)/\(M.aq b)/\(0<=p)/\(p<=1000000000000000)/\(LD (M.pick b p n) fun r=>K (dI r.1) [(1000000,.box [.data TBy b,dI r.2])]))) args []) hp,.plain,true⟩
abbrev C41:Ctx:=cx [] 99 [] 0 false
def ann41:=an [[kp 3],[kp 3],[kp 16777219],[kp 16],[kp 35],[kp 68719476771],[kp 16],[kp 66],[kp 66],[kp 16]] []
abbrev S41_0 (b:LI) (p:Int) (n:Int) (K:KA):Prop:=K (dI Z0) [(1000000,.box [.data TBy b,dI (wrap64 (p+Z1))])]
abbrev S41_1 (b:LI) (p:Int) (n:Int) (K:KA):Prop:=((64:Int)≠0)/\(n≠0)/\K (dI ((nj .xor .i64 (wrap64 (wrap64 (wrap64 (wrap64 ((wrap64 (nth (t:=(Ty.int .u8)) b ((wrap64 (wrap64 (p+Z1)-Z1)).tmod (b.length:Int)))) * (131:Int))+wrap64 ((wrap64 (nth (t:=(Ty.int .u8)) b ((wrap64 (wrap64 ((wrap64 (wrap64 (p+Z1)-Z1)) * (7:Int))+Z3)).tmod (b.length:Int)))) * (1117:Int)))+wrap64 ((wrap64 (wrap64 (p+Z1)-Z1)) * (29:Int)))+wrap64 ((wrap64 ((wrap64 (wrap64 (p+Z1)-Z1)).tdiv (b.length:Int))) * (53:Int)))) (wrap64 ((wrap64 (wrap64 (wrap64 (wrap64 ((wrap64 (nth (t:=(Ty.int .u8)) b ((wrap64 (wrap64 (p+Z1)-Z1)).tmod (b.length:Int)))) * (131:Int))+wrap64 ((wrap64 (nth (t:=(Ty.int .u8)) b ((wrap64 (wrap64 ((wrap64 (wrap64 (p+Z1)-Z1)) * (7:Int))+Z3)).tmod (b.length:Int)))) * (1117:Int)))+wrap64 ((wrap64 (wrap64 (p+Z1)-Z1)) * (29:Int)))+wrap64 ((wrap64 ((wrap64 (wrap64 (p+Z1)-Z1)).tdiv (b.length:Int))) * (53:Int)))).tdiv (64:Int)))).tmod n)) [(1000000,.box [.data TBy b,dI (wrap64 (p+Z1))])]
abbrev S41_2 (b:LI) (p:Int) (n:Int) (K:KA):Prop:=(S41_1 b p n K)
theorem vc41 (b:LI) (p:Int) (n:Int) (K:KA):vcT C41 aB ann41 f41 [.ptr 1000000 0,dI n] [(1000000,.box [.data TBy b,dI p])] (.dat aC) K =
 (cond ((decide (n<Z1))==false) (cond (decide ((b.length:Int)=Z0)) (S41_0 b p n K) (cond (decide (wrap64 (wrap64 (p+Z1)-Z1)<(b.length:Int))) ((0<=wrap64 (wrap64 (p+Z1)-Z1))/\(wrap64 (wrap64 (p+Z1)-Z1)<(b.length:Int))/\(n≠0)/\K (dI ((wrap64 (nth (t:=(Ty.int .u8)) b (wrap64 (wrap64 (p+Z1)-Z1)))).tmod n)) [(1000000,.box [.data TBy b,dI (wrap64 (p+Z1))])]) (((b.length:Int)≠0)/\(0<=((wrap64 (wrap64 (p+Z1)-Z1)).tmod (b.length:Int)))/\(((wrap64 (wrap64 (p+Z1)-Z1)).tmod (b.length:Int))<(b.length:Int))/\((b.length:Int)≠0)/\(0<=((wrap64 (wrap64 ((wrap64 (wrap64 (p+Z1)-Z1)) * (7:Int))+Z3)).tmod (b.length:Int)))/\(((wrap64 (wrap64 ((wrap64 (wrap64 (p+Z1)-Z1)) * (7:Int))+Z3)).tmod (b.length:Int))<(b.length:Int))/\((b.length:Int)≠0)/\Q0 (S41_2 b p n K)))) (S41_0 b p n K)):=by kernel_rfl
theorem con41_ok:bf P 41 c41:=br C41 func41 kN fun args hp K h0=>by
 unfold c41 at h0
 dsimp only at h0
 obtain⟨b,p,rfl,h00⟩:=fu h0
 obtain⟨a0,a1,rfl,_,h1⟩:=bT h00
 obtain⟨rfl,h2⟩:=dH h1
 obtain⟨n,rfl,h3⟩:=bp h2
 obtain⟨h_b,p0,p1,p2,hK⟩:=h3
 have h:ok (F.oI b p n) (fun r=>K (dI r.1) [(1000000,.box [.data TBy b,dI r.2])]):=az (F.BE b p n h_b p0 p1 p2) (hK _ rfl)
 refine⟨rfl,ann41,aB,(.dat aC),(aH (by kernel_rfl)),?_⟩
 ·rw[vc41]
  exact(oC h (fun _ h=>(oC h (fun _ h=>h) fun _ h=>(oC h (fun _ h=>(oG h fun _ h=>(oG h fun _ h=>(oG h fun _ h=>h)))) fun _ h=>(oG h fun g1 h=>(oG h fun _ h=>(oG h fun _ h=>⟨g1,(oG h fun _ h=>(oG h fun _ h=>⟨g1,(q0 (⟨(by decide),(oG h fun _ h=>h)⟩))⟩))⟩)))))) fun _ h=>h)
def c106:Con:=⟨[.any,.dat aC],fun args hp K=>hpR (fun b p=>args2 (fun a0 a1=>mY a0 (ff aC a1 fun n=>(Sm TBy b)/\(M.aq b)/\(0<=p)/\(p<=999000000000000)/\(LD (M.odd b p n) fun r=>K (dB r.1) [(1000000,.box [.data TBy b,dI r.2])]))) args []) hp,.plain,true⟩
abbrev C106:Ctx:=cx [(41,c41)] 15 [] 0 false
def ann106:=an [[kp 3],[kp 16]] []
theorem vc106 (b:LI) (p:Int) (n:Int) (K:KA):vcT C106 aB ann106 f106 [.ptr 1000000 0,dI n] [(1000000,.box [.data TBy b,dI p])] (.dat Ty.bool) K =
 (cond ((decide (Z0<n))==true) ((Sm TBy b)/\(M.aq b)/\(0<=p)/\(p<=1000000000000000)/\(LD (M.pick b p n) fun r1=>K (dB (decide (r1.1=wrap64 (n-Z1)))) [(1000000,.box [.data TBy b,dI r1.2])])) (K (dB false) [(1000000,.box [.data TBy b,dI p])])):=by kernel_rfl
theorem con106_ok:bf P 106 c106:=br C106 func106 (kC con41_ok kN) fun args hp K h0=>by
 unfold c106 at h0
 dsimp only at h0
 obtain⟨b,p,rfl,h00⟩:=fu h0
 obtain⟨a0,a1,rfl,_,h1⟩:=bT h00
 obtain⟨rfl,h2⟩:=dH h1
 obtain⟨n,rfl,h3⟩:=bp h2
 obtain⟨h_b,p0,p1,p2,hK⟩:=h3
 have h:ok (F.qL b p n) (fun r=>K (dB r.1) [(1000000,.box [.data TBy b,dI r.2])]):=az (F.Dn b p n h_b p0 p1 p2) (hK _ rfl)
 refine⟨rfl,ann106,aB,(.dat Ty.bool),(aH (by kernel_rfl)),?_⟩
 ·rw[vc106]
  exact(oC h (fun _ h=>⟨h_b,⟨p0,⟨p1,(oG h fun _ h=>(oL h fun _ _ h=>h))⟩⟩⟩) fun _ h=>h)
def c88:Con:=⟨[.any,.dat aC],fun args hp K=>hpR (fun b p=>args2 (fun a0 a1=>mY a0 (ff aC a1 fun n=>(Sm TBy b)/\(M.aq b)/\(0<=p)/\(p<=998000000000000)/\(LD (M.fQ b p n) fun r=>K (.own 0 none) [(0,.arr .sh ag r.1),(1000000,.box [.data TBy b,dI r.2])]))) args []) hp,.plain,true⟩
abbrev C88:Ctx:=cx [(41,c41),(106,c106)] 40 [] 0 false
def ann88:=an [[kp 3],[kp 35],[kp 99],[kp 4195],[kp 99],[kp 99],[kp 536870945],[kp 32],[kp 16]] [[kp 35]]
abbrev s88_0 (b:LI) (p:Int) (n:Int) (v0:Int×Int×LC):St:=⟨[(0,.ptr 1000000 0),(1,dI n),(5,.own 7 none),(6,dI v0.1)],[(1000000,.box [.data TBy b,dI v0.2.1]),(7,.arr .sh ag v0.2.2)]⟩
abbrev LP88_0 (b:LI) (p:Int) (n:Int) (m:Nat) (st_:St) (K:KX):Prop:=True/\ep (s88_0 b p n) (F.fP b p n) (fun v0:Int×Int×LC=>True) (fun e0:Int×LC=>True->K (.exit 0) (⟨[(0,.ptr 1000000 0),(1,dI n),(5,.own 7 none)],[(1000000,.box [.data TBy b,dI e0.1]),(7,.arr .sh ag e0.2)]⟩:St)) m st_
def L88 (b:LI) (p:Int) (n:Int):bH:=lp1 0 (LP88_0 b p n)
theorem vc88 (b:LI) (p:Int) (n:Int) (K:KA):vcT C88 (L88 b p n) ann88 f88 [.ptr 1000000 0,dI n] [(1000000,.box [.data TBy b,dI p])] .raw K =
 ((Sm TBy b)/\(M.aq b)/\(0<=p)/\(p<=1000000000000000)/\(LD (M.pick b p Z3) fun r1=>(∃m_,True/\ep (s88_0 b p n) (F.fP b p n) (fun v0:Int×Int×LC=>True) (fun e0:Int×LC=>True->(Sm TBy b)/\(M.aq b)/\(0<=e0.1)/\(e0.1<=999000000000000)/\(LD (M.odd b e0.1 n) fun r2=>cond r2.1 ((Sm TBy b)/\(M.aq b)/\(0<=r2.2)/\(r2.2<=1000000000000000)/\(LD (M.pick b r2.2 Z6) fun r3=>((e0.2.length+[(wrap64 (r3.1-Z1),(false,())),(Z1,(false,())),(Z1,(false,()))].length) * 16<=lim)/\K (.own 0 none) [(0,.arr .sh ag (e0.2++[(wrap64 (r3.1-Z1),(false,())),(Z1,(false,())),(Z1,(false,()))])),(1000000,.box [.data TBy b,dI r3.2])])) (K (.own 0 none) [(0,.arr .sh ag e0.2),(1000000,.box [.data TBy b,dI r2.2])]))) m_ (s88_0 b p n (wrap64 (Z1+r1.1),r1.2,[]))))):=by kernel_rfl
theorem lvc88_0 (b:LI) (p:Int) (n:Int)  (v0:Int×Int×LC) (m:Nat) (K:KX):lvT C88 (L88 b p n) ann88 f88 0 0 (s88_0 b p n v0) m K =
 (cond (decide (Z0<v0.1)) (((Sm TBy b)/\(M.aq b)/\(0<=v0.2.1)/\(v0.2.1<=1000000000000000)/\(LD (M.pick b v0.2.1 Z4) fun r4=>(0<=r4.1)/\(r4.1<([Z1,Z1,Z2,Z3].length:Int))/\Q0 ((Sm TBy b)/\(M.aq b)/\(0<=r4.2)/\(r4.2<=1000000000000000)/\(LD (M.pick b r4.2 Z3) fun r5=>((v0.2.2.length+[((nI [Z1,Z1,Z2,Z3] r4.1),((decide (Z0<r5.1)),()))].length) * 16<=lim)/\(nxT (LP88_0 b p n) m K (s88_0 b p n (wrap64 (v0.1-Z1),r5.2,(v0.2.2++[((nI [Z1,Z1,Z2,Z3] r4.1),((decide (Z0<r5.1)),()))]))))))))/\((Sm TBy b)/\(M.aq b)/\(0<=v0.2.1)/\(v0.2.1<=1000000000000000)/\(LD (M.pick b v0.2.1 Z4) fun r4=>((0<=r4.1)/\(r4.1<([Z1,Z1,Z2,Z3].length:Int))/\Q0 ((Sm TBy b)/\(M.aq b)/\(0<=r4.2)/\(r4.2<=1000000000000000)/\(LD (M.pick b r4.2 Z3) fun r5=>((v0.2.2.length+[((nI [Z1,Z1,Z2,Z3] r4.1),((decide (Z0<r5.1)),()))].length) * 16<=lim)/\(nxT (LP88_0 b p n) m K (s88_0 b p n (wrap64 (v0.1-Z1),r5.2,(v0.2.2++[((nI [Z1,Z1,Z2,Z3] r4.1),((decide (Z0<r5.1)),()))])))))))/\((Sm TBy b)/\(M.aq b)/\(0<=r4.2)/\(r4.2<=1000000000000000)/\(LD (M.pick b r4.2 Z3) fun r5=>(0<=r4.1)/\(r4.1<([Z1,Z1,Z2,Z3].length:Int))/\((v0.2.2.length+[((nI [Z1,Z1,Z2,Z3] r4.1),((decide (Z0<r5.1)),()))].length) * 16<=lim)/\(nxT (LP88_0 b p n) m K (s88_0 b p n (wrap64 (v0.1-Z1),r5.2,(v0.2.2++[((nI [Z1,Z1,Z2,Z3] r4.1),((decide (Z0<r5.1)),()))]))))))))) (K (.exit 0) (⟨[(0,.ptr 1000000 0),(1,dI n),(5,.own 7 none)],[(1000000,.box [.data TBy b,dI v0.2.1]),(7,.arr .sh ag v0.2.2)]⟩:St))):=by kernel_rfl
theorem con88_ok:bf P 88 c88:=br C88 func88 (kC con41_ok (kC con106_ok kN)) fun args hp K h0=>by
 unfold c88 at h0
 dsimp only at h0
 obtain⟨b,p,rfl,h00⟩:=fu h0
 obtain⟨a0,a1,rfl,_,h1⟩:=bT h00
 obtain⟨rfl,h2⟩:=dH h1
 obtain⟨n,rfl,h3⟩:=bp h2
 obtain⟨h_b,p0,p1,p2,hK⟩:=h3
 have h:ok (F.gd b p n) (fun r=>K (.own 0 none) [(0,.arr .sh ag r.1),(1000000,.box [.data TBy b,dI r.2])]):=az (F.tB b p n h_b p0 p1 p2) (hK _ rfl)
 refine⟨rfl,ann88,(L88 b p n),.raw,(bL (i0:=0) (by kernel_rfl) ?_),?_⟩
 ·rintro _ _ K ⟨hc0,v0,rfl,hv0,h⟩
  exact cast (lvc88_0 _ _ _ _ _ _).symm (cS h (fun m1 hm0 h=>(oC h (fun _ h=>((fun(g1_0:M.aq b)=>(fun(g1_1:0<=v0.2.1)=>(fun(g1_2:v0.2.1<=1000000000000000)=>(fun(g1_3:0<=(M.pick b v0.2.1 Z4).1)=>(fun(g1_4:(M.pick b v0.2.1 Z4).1<([Z1,Z1,Z2,Z3].length:Int))=>(fun(g1_5:0<=(M.pick b v0.2.1 Z4).2)=>(fun(g1_6:(M.pick b v0.2.1 Z4).2<=1000000000000000)=>(fun(g1_7:(v0.2.2.length+[((nI [Z1,Z1,Z2,Z3] (M.pick b v0.2.1 Z4).1),((decide (Z0<(M.pick b (M.pick b v0.2.1 Z4).2 Z3).1)),()))].length) * 16<=lim)=>⟨⟨h_b,⟨g1_0,have g1:=g1_0;⟨g1_1,have g2:=g1_1;⟨g1_2,have g3:=g1_2;(fun r4 er4=>(have g4:0<=r4.1:=(by rw[er4];exact g1_3);⟨g4,(have g5:r4.1<([Z1,Z1,Z2,Z3].length:Int):=(by rw[er4];exact g1_4);⟨g5,(q0 (⟨h_b,⟨g1,(have g6:0<=r4.2:=(by rw[er4];exact g1_5);⟨g6,(have g7:r4.2<=1000000000000000:=(by rw[er4];exact g1_6);⟨g7,(fun r5 er5=>(have g8:(v0.2.2.length+[((nI [Z1,Z1,Z2,Z3] r4.1),((decide (Z0<r5.1)),()))].length) * 16<=lim:=(by rw[er5,er4];exact g1_7);⟨g8,(have h:=(aD (cL (aD (aD (aD (aD (cL (aD (aD (aD h).2).2).2 r4 er4)).2).2).2).2 r5 er5)).2;(aX (fun _ hm=>⟨hc0,hm⟩) hm0 _ rfl trivial h))⟩))⟩)⟩)⟩⟩))⟩)⟩))⟩⟩⟩⟩,⟨h_b,⟨g1_0,have g9:=g1_0;⟨g1_1,have g10:=g1_1;⟨g1_2,have g11:=g1_2;(fun r4 er4=>⟨(have g12:0<=r4.1:=(by rw[er4];exact g1_3);⟨g12,(have g13:r4.1<([Z1,Z1,Z2,Z3].length:Int):=(by rw[er4];exact g1_4);⟨g13,(q0 (⟨h_b,⟨g9,(have g14:0<=r4.2:=(by rw[er4];exact g1_5);⟨g14,(have g15:r4.2<=1000000000000000:=(by rw[er4];exact g1_6);⟨g15,(fun r5 er5=>(have g16:(v0.2.2.length+[((nI [Z1,Z1,Z2,Z3] r4.1),((decide (Z0<r5.1)),()))].length) * 16<=lim:=(by rw[er5,er4];exact g1_7);⟨g16,(have h:=(aD (cL (aD (aD (aD (aD (cL (aD (aD (aD h).2).2).2 r4 er4)).2).2).2).2 r5 er5)).2;(aX (fun _ hm=>⟨hc0,hm⟩) hm0 _ rfl trivial h))⟩))⟩)⟩)⟩⟩))⟩)⟩),⟨h_b,⟨g9,(have g17:0<=r4.2:=(by rw[er4];exact g1_5);⟨g17,(have g18:r4.2<=1000000000000000:=(by rw[er4];exact g1_6);⟨g18,(fun r5 er5=>(have g19:0<=r4.1:=(by rw[er4];exact g1_3);⟨g19,(have g20:r4.1<([Z1,Z1,Z2,Z3].length:Int):=(by rw[er4];exact g1_4);⟨g20,(have g21:(v0.2.2.length+[((nI [Z1,Z1,Z2,Z3] r4.1),((decide (Z0<r5.1)),()))].length) * 16<=lim:=(by rw[er5,er4];exact g1_7);⟨g21,(have h:=(aD (cL (aD (aD (aD (aD (cL (aD (aD (aD h).2).2).2 r4 er4)).2).2).2).2 r5 er5)).2;(aX (fun _ hm=>⟨hc0,hm⟩) hm0 _ rfl trivial h))⟩)⟩)⟩))⟩)⟩)⟩⟩⟩)⟩⟩⟩⟩⟩) (aD (cL (aD (aD (aD (aD (cL (aD (aD (aD h).2).2).2 _ rfl)).2).2).2).2 _ rfl)).1) (aD (aD (aD (aD (cL (aD (aD (aD h).2).2).2 _ rfl)).2).2).2).1) (aD (aD (aD (cL (aD (aD (aD h).2).2).2 _ rfl)).2).2).1) (aD (aD (cL (aD (aD (aD h).2).2).2 _ rfl)).2).1) (aD (cL (aD (aD (aD h).2).2).2 _ rfl)).1) (aD (aD (aD h).2).2).1) (aD (aD h).2).1) (aD h).1)) fun _ h=>((cB h :) trivial))))
 ·rw[vc88]
  exact⟨h_b,⟨p0,⟨p1,(oG h fun _ h=>(oL h fun _ _ h=>(cj (fun m hm=>⟨trivial,hm⟩) _ rfl trivial (gA h (fun e0 h hv0=>⟨h_b,⟨p0,(oG h fun _ h=>(oG h fun _ h=>(oL h fun _ _ h=>(oC h (fun _ h=>⟨h_b,⟨p0,(oG h fun _ h=>(oG h fun _ h=>(oL h fun _ _ h=>(oG h fun _ h=>h))))⟩⟩) fun _ h=>h))))⟩⟩)))))⟩⟩⟩
def c129:Con:=⟨[.any,.dat ag],fun args hp K=>hpR (fun b p=>args2 (fun a0 a1=>mY a0 (ff ag a1 fun c=>(Sm TBy b)/\(M.aq b)/\(0<=p)/\(p<=998000000000000)/\(LD (M.ki b p c) fun r=>K (.data af r.1) [(1000000,.box [.data TBy b,dI r.2])]))) args []) hp,.plain,true⟩
abbrev C129:Ctx:=cx [(41,c41)] 31 [] 0 false
def ann129:=an [[.fixRow 3 ag,kp 25],[kp 2073],[kp 16],[kp 16401],[kp 49169],[kp 16],[kp 1048593],[kp 16],[kp 16]] []
theorem vc129 (b:LI) (p:Int) (c:ag.D) (K:KA):vcT C129 aB ann129 f129 [.ptr 1000000 0,.data ag c] [(1000000,.box [.data TBy b,dI p])] (.dat af) K =
 (cond (c.2.1==true) ((Sm TBy b)/\(M.aq b)/\(0<=p)/\(p<=1000000000000000)/\(LD (M.pick b p Z5) fun r1=>cond (decide (r1.1=Z0)) (K (.data af (Z0,(Z0,((⟨#[]⟩:ByteArray),())))) [(1000000,.box [.data TBy b,dI r1.2])]) (cond (decide (c.1=Z1)) ((Sm TBy b)/\(M.aq b)/\(0<=r1.2)/\(r1.2<=1000000000000000)/\(LD (M.pick b r1.2 Z4) fun r2=>K (.data af (Z1,(r2.1,((⟨#[]⟩:ByteArray),())))) [(1000000,.box [.data TBy b,dI r2.2])])) (cond (decide (c.1=Z2)) ((Sm TBy b)/\(M.aq b)/\(0<=r1.2)/\(r1.2<=1000000000000000)/\(LD (M.pick b r1.2 Z4) fun r3=>(0<=r3.1)/\(r3.1<([(⟨#[]⟩:ByteArray),(⟨#[97]⟩:ByteArray),(⟨#[98]⟩:ByteArray),(⟨#[97,98]⟩:ByteArray)].length:Int))/\K (.data af (Z2,(Z0,((nth (t:=Ty.str) [(⟨#[]⟩:ByteArray),(⟨#[97]⟩:ByteArray),(⟨#[98]⟩:ByteArray),(⟨#[97,98]⟩:ByteArray)] r3.1),())))) [(1000000,.box [.data TBy b,dI r3.2])])) ((Sm TBy b)/\(M.aq b)/\(0<=r1.2)/\(r1.2<=1000000000000000)/\(LD (M.pick b r1.2 Z2) fun r4=>K (.data af (Z3,(r4.1,((⟨#[]⟩:ByteArray),())))) [(1000000,.box [.data TBy b,dI r4.2])])))))) (cond (decide (c.1=Z1)) ((Sm TBy b)/\(M.aq b)/\(0<=p)/\(p<=1000000000000000)/\(LD (M.pick b p Z4) fun r2=>K (.data af (Z1,(r2.1,((⟨#[]⟩:ByteArray),())))) [(1000000,.box [.data TBy b,dI r2.2])])) (cond (decide (c.1=Z2)) ((Sm TBy b)/\(M.aq b)/\(0<=p)/\(p<=1000000000000000)/\(LD (M.pick b p Z4) fun r3=>(0<=r3.1)/\(r3.1<([(⟨#[]⟩:ByteArray),(⟨#[97]⟩:ByteArray),(⟨#[98]⟩:ByteArray),(⟨#[97,98]⟩:ByteArray)].length:Int))/\K (.data af (Z2,(Z0,((nth (t:=Ty.str) [(⟨#[]⟩:ByteArray),(⟨#[97]⟩:ByteArray),(⟨#[98]⟩:ByteArray),(⟨#[97,98]⟩:ByteArray)] r3.1),())))) [(1000000,.box [.data TBy b,dI r3.2])])) ((Sm TBy b)/\(M.aq b)/\(0<=p)/\(p<=1000000000000000)/\(LD (M.pick b p Z2) fun r4=>K (.data af (Z3,(r4.1,((⟨#[]⟩:ByteArray),())))) [(1000000,.box [.data TBy b,dI r4.2])]))))):=by kernel_rfl
theorem con129_ok:bf P 129 c129:=br C129 func129 (kC con41_ok kN) fun args hp K h0=>by
 unfold c129 at h0
 dsimp only at h0
 obtain⟨b,p,rfl,h00⟩:=fu h0
 obtain⟨a0,a1,rfl,_,h1⟩:=bT h00
 obtain⟨rfl,h2⟩:=dH h1
 obtain⟨c,rfl,h3⟩:=bp h2
 obtain⟨h_b,p0,p1,p2,hK⟩:=h3
 have h:ok (F.jj b p c) (fun r=>K (.data af r.1) [(1000000,.box [.data TBy b,dI r.2])]):=az (F.xS b p c h_b p0 p1 p2) (hK _ rfl)
 refine⟨rfl,ann129,aB,(.dat af),(aH (by kernel_rfl)),?_⟩
 ·rw[vc129]
  exact(oC h (fun _ h=>⟨h_b,⟨p0,⟨p1,(oG h fun _ h=>(oL h fun _ _ h=>(oC h (fun _ h=>h) fun _ h=>(oC h (fun _ h=>⟨h_b,⟨p0,(oG h fun _ h=>(oG h fun _ h=>(oL h fun _ _ h=>h)))⟩⟩) fun _ h=>(oC h (fun _ h=>⟨h_b,⟨p0,(oG h fun _ h=>(oG h fun _ h=>(oL h fun _ _ h=>(oG h fun _ h=>(oG h fun _ h=>h)))))⟩⟩) fun _ h=>⟨h_b,⟨p0,(oG h fun _ h=>(oG h fun _ h=>(oL h fun _ _ h=>h)))⟩⟩)))))⟩⟩⟩) fun _ h=>(oC h (fun _ h=>⟨h_b,⟨p0,⟨p1,(oG h fun _ h=>(oL h fun _ _ h=>h))⟩⟩⟩) fun _ h=>(oC h (fun _ h=>⟨h_b,⟨p0,⟨p1,(oG h fun _ h=>(oL h fun _ _ h=>(oG h fun _ h=>(oG h fun _ h=>h))))⟩⟩⟩) fun _ h=>⟨h_b,⟨p0,⟨p1,(oG h fun _ h=>(oL h fun _ _ h=>h))⟩⟩⟩)))
def c130:Con:=⟨[.any,.dat aC],fun args hp K=>hpR (fun b p=>args2 (fun a0 a1=>mY a0 (ff aC a1 fun n=>(Sm TBy b)/\(M.aq b)/\(0<=p)/\(p<=998000000000000)/\(LD (M.eT b p n) fun r=>K (.data af r.1) [(1000000,.box [.data TBy b,dI r.2])]))) args []) hp,.plain,true⟩
abbrev C130:Ctx:=cx [(41,c41),(106,c106)] 77 [] 0 false
def ann130:=an [[kp 19],[kp 51],[kp 563],[kp 51],[kp 8755],[kp 33331],[kp 33331],[kp 33331],[kp 51],[kp 33554483],[kp 51],[kp 4294967859],[kp 4294967347],[kp 51],[kp 115],[kp 549755814003],[kp 115],[kp 115],[.keep [0,4,5,54]],[.keep [0,4,5,56]],[kp 48],[kp 2377900603251621937],[kp 48],[kp 18518801667747479601],[kp 48],[.keep [0,4,5,70]],[kp 48],[kp 16]] [[kp 51],[kp 51]]
abbrev s130_0 (b:LI) (p:Int) (n:Int) (c0_0:Int) (c0_1:Int) (v0:Unit):St:=⟨[(0,.ptr 1000000 0),(1,dI n),(4,.ptr 4 0),(5,.ptr 5 0),(9,dI c0_0)],[(1000000,.box [.data TBy b,dI c0_1]),(4,.box [dI Z0,dI Z0,.data Ty.str (⟨#[]⟩:ByteArray)]),(5,.box [dI Z0,dI Z0,.data Ty.str (⟨#[]⟩:ByteArray)])]⟩
abbrev LP130_0 (b:LI) (p:Int) (n:Int) (m:Nat) (st_:St) (K:KX):Prop:=∃c0_0:Int,∃c0_1:Int,True/\ep (s130_0 b p n c0_0 c0_1) (F.ir b p n c0_0 c0_1) (fun v0:Unit=>True) (fun e0:Int×Int×Int×ByteArray=>True->K (.exit 0) (⟨[(0,.ptr 1000000 0),(1,dI n),(4,.ptr 4 0),(5,.ptr 5 0)],[(1000000,.box [.data TBy b,dI e0.1]),(4,.box [dI Z0,dI Z0,.data Ty.str (⟨#[]⟩:ByteArray)]),(5,.box [dI e0.2.1,dI e0.2.2.1,.data Ty.str e0.2.2.2])]⟩:St)) m st_
abbrev s130_1 (b:LI) (p:Int) (n:Int) (v1:Int×Int×ByteArray):St:=⟨[(0,.ptr 1000000 0),(1,dI n),(4,.ptr 4 0),(5,.ptr 5 0),(6,dI v1.1)],[(1000000,.box [.data TBy b,dI v1.2.1]),(4,.box [dI Z0,dI Z0,.data Ty.str (⟨#[]⟩:ByteArray)]),(5,.box [dI Z2,dI Z0,.data Ty.str v1.2.2])]⟩
abbrev LP130_1 (b:LI) (p:Int) (n:Int) (m:Nat) (st_:St) (K:KX):Prop:=True/\ep (s130_1 b p n) (F.eH b p n) (fun v1:Int×Int×ByteArray=>True) (fun e1:Int×ByteArray=>True->K (.exit 1) (⟨[(0,.ptr 1000000 0),(1,dI n),(4,.ptr 4 0),(5,.ptr 5 0)],[(1000000,.box [.data TBy b,dI e1.1]),(4,.box [dI Z0,dI Z0,.data Ty.str (⟨#[]⟩:ByteArray)]),(5,.box [dI Z2,dI Z0,.data Ty.str e1.2])]⟩:St)) m st_
def L130 (b:LI) (p:Int) (n:Int):bH:=lp2 0 (LP130_0 b p n) 1 (LP130_1 b p n)
theorem vc130 (b:LI) (p:Int) (n:Int) (K:KA):vcT C130 (L130 b p n) ann130 (qt [(1000000,true)] f130) [.ptr 1000000 0,dI n] [(1000000,.box [.data TBy b,dI p])] (.dat af) K =
 ((Sm TBy b)/\(M.aq b)/\(0<=p)/\(p<=1000000000000000)/\(LD (M.pick b p (7:Int)) fun r1=>(∃m_,∃c0_0:Int,∃c0_1:Int,True/\ep (s130_0 b p n c0_0 c0_1) (F.ir b p n c0_0 c0_1) (fun v0:Unit=>True) (fun e0:Int×Int×Int×ByteArray=>True->(Sm TBy b)/\(M.aq b)/\(0<=e0.1)/\(e0.1<=999000000000000)/\(LD (M.odd b e0.1 n) fun r2=>cond r2.1 ((Sm TBy b)/\(M.aq b)/\(0<=r2.2)/\(r2.2<=1000000000000000)/\(LD (M.pick b r2.2 Z4) fun r3=>cond (decide (r3.1=Z0)) (K (.data af (e0.2.1,((10000:Int),(e0.2.2.2,())))) [(1000000,.box [.data TBy b,dI r3.2])]) (cond (decide (r3.1=Z1)) ((e0.2.2.2.size+(⟨#[97,98,99,100,101,102,103]⟩:ByteArray).size<=9223372036854775807)/\K (.data af (e0.2.1,(e0.2.2.1,((e0.2.2.2++(⟨#[97,98,99,100,101,102,103]⟩:ByteArray)),())))) [(1000000,.box [.data TBy b,dI r3.2])]) (cond (decide (r3.1=Z2)) ((Sm TBy b)/\(M.aq b)/\(0<=r3.2)/\(r3.2<=1000000000000000)/\(LD (M.pick b r3.2 (7:Int)) fun r4=>K (.data af (wrap64 (r4.1-Z1),(e0.2.2.1,(e0.2.2.2,())))) [(1000000,.box [.data TBy b,dI r4.2])])) ((e0.2.2.2.size+(⟨#[65]⟩:ByteArray).size<=9223372036854775807)/\K (.data af (e0.2.1,(e0.2.2.1,((e0.2.2.2++(⟨#[65]⟩:ByteArray)),())))) [(1000000,.box [.data TBy b,dI r3.2])]))))) (K (.data af (e0.2.1,(e0.2.2.1,(e0.2.2.2,())))) [(1000000,.box [.data TBy b,dI r2.2])]))) m_ (s130_0 b p n r1.1 r1.2 ())))):=by kernel_rfl
abbrev S130l0_0 (b:LI) (p:Int) (n:Int) (c0_0:Int) (c0_1:Int) (v0:Unit) (m:Nat) (K:KX):Prop:=(Sm TBy b)/\(M.aq b)/\(0<=c0_1)/\(c0_1<=1000000000000000)/\(LD (M.pick b c0_1 (7:Int)) fun r5=>(Sm TBy b)/\(M.aq b)/\(0<=r5.2)/\(r5.2<=1000000000000000)/\(LD (M.pick b r5.2 (8:Int)) fun r6=>cond (decide (r6.1=Z0)) ((Sm TBy b)/\(M.aq b)/\(0<=r6.2)/\(r6.2<=1000000000000000)/\(LD (M.pick b r6.2 Z5) fun r7=>(0<=r7.1)/\(r7.1<([(9999:Int),(-9999:Int),(255:Int),(256:Int),(-256:Int)].length:Int))/\K (.exit 0) (⟨[(0,.ptr 1000000 0),(1,dI n),(4,.ptr 4 0),(5,.ptr 5 0)],[(1000000,.box [.data TBy b,dI r7.2]),(4,.box [dI Z0,dI Z0,.data Ty.str (⟨#[]⟩:ByteArray)]),(5,.box [dI Z1,dI (nI [(9999:Int),(-9999:Int),(255:Int),(256:Int),(-256:Int)] r7.1),.data Ty.str (⟨#[]⟩:ByteArray)])]⟩:St))) (K (.exit 0) (⟨[(0,.ptr 1000000 0),(1,dI n),(4,.ptr 4 0),(5,.ptr 5 0)],[(1000000,.box [.data TBy b,dI r6.2]),(4,.box [dI Z0,dI Z0,.data Ty.str (⟨#[]⟩:ByteArray)]),(5,.box [dI Z1,dI (wrap64 (r5.1-Z3)),.data Ty.str (⟨#[]⟩:ByteArray)])]⟩:St))))
abbrev S130l0_1 (b:LI) (p:Int) (n:Int) (c0_0:Int) (c0_1:Int) (v0:Unit) (m:Nat) (K:KX):Prop:=(Sm TBy b)/\(M.aq b)/\(0<=c0_1)/\(c0_1<=1000000000000000)/\(LD (M.pick b c0_1 Z4) fun r8=>(∃m_,True/\ep (s130_1 b p n) (F.eH b p n) (fun v1:Int×Int×ByteArray=>True) (fun e1:Int×ByteArray=>True->K (.exit 0) (⟨[(0,.ptr 1000000 0),(1,dI n),(4,.ptr 4 0),(5,.ptr 5 0)],[(1000000,.box [.data TBy b,dI e1.1]),(4,.box [dI Z0,dI Z0,.data Ty.str (⟨#[]⟩:ByteArray)]),(5,.box [dI Z2,dI Z0,.data Ty.str e1.2])]⟩:St)) m_ (s130_1 b p n (r8.1,r8.2,(⟨#[]⟩:ByteArray)))))
abbrev S130l0_2 (b:LI) (p:Int) (n:Int) (c0_0:Int) (c0_1:Int) (v0:Unit) (m:Nat) (K:KX):Prop:=(Sm TBy b)/\(M.aq b)/\(0<=c0_1)/\(c0_1<=1000000000000000)/\(LD (M.pick b c0_1 Z2) fun r9=>K (.exit 0) (⟨[(0,.ptr 1000000 0),(1,dI n),(4,.ptr 4 0),(5,.ptr 5 0)],[(1000000,.box [.data TBy b,dI r9.2]),(4,.box [dI Z0,dI Z0,.data Ty.str (⟨#[]⟩:ByteArray)]),(5,.box [dI Z3,dI r9.1,.data Ty.str (⟨#[]⟩:ByteArray)])]⟩:St))
abbrev S130l0_3 (b:LI) (p:Int) (n:Int) (c0_0:Int) (c0_1:Int) (v0:Unit) (m:Nat) (K:KX):Prop:=cond (decide (c0_0=Z4)) (cond (decide (c0_0=Z4)) (S130l0_1  b p n c0_0 c0_1 v0 m K) (S130l0_2  b p n c0_0 c0_1 v0 m K)) (cond (decide (c0_0=Z5)) (S130l0_1  b p n c0_0 c0_1 v0 m K) (S130l0_2  b p n c0_0 c0_1 v0 m K))
theorem lvc130_0 (b:LI) (p:Int) (n:Int) (c0_0:Int) (c0_1:Int) (v0:Unit) (m:Nat) (K:KX):lvT C130 (L130 b p n) ann130 (qt [(1000000,true)] f130) 0 0 (s130_0 b p n c0_0 c0_1 v0) m K =
 (cond (decide (c0_0=Z0)) (K (.exit 0) (⟨[(0,.ptr 1000000 0),(1,dI n),(4,.ptr 4 0),(5,.ptr 5 0)],[(1000000,.box [.data TBy b,dI c0_1]),(4,.box [dI Z0,dI Z0,.data Ty.str (⟨#[]⟩:ByteArray)]),(5,.box [dI Z0,dI Z0,.data Ty.str (⟨#[]⟩:ByteArray)])]⟩:St)) (cond (decide (c0_0=Z1)) (cond (decide (c0_0=Z1)) (S130l0_0  b p n c0_0 c0_1 v0 m K) (S130l0_3  b p n c0_0 c0_1 v0 m K)) (cond (decide (c0_0=Z2)) (cond (decide (c0_0=Z2)) (S130l0_0  b p n c0_0 c0_1 v0 m K) (S130l0_3  b p n c0_0 c0_1 v0 m K)) (cond (decide (c0_0=Z3)) (S130l0_0  b p n c0_0 c0_1 v0 m K) (S130l0_3  b p n c0_0 c0_1 v0 m K))))):=by kernel_rfl
theorem lvc130_1 (b:LI) (p:Int) (n:Int)  (v1:Int×Int×ByteArray) (m:Nat) (K:KX):lvT C130 (L130 b p n) ann130 (qt [(1000000,true)] f130) 1 1 (s130_1 b p n v1) m K =
 (cond (decide (Z0<v1.1)) (((Sm TBy b)/\(M.aq b)/\(0<=v1.2.1)/\(v1.2.1<=1000000000000000)/\(LD (M.pick b v1.2.1 Z3) fun r10=>(v1.2.2.size+(strOf [((wrap64 ((97:Int)+r10.1)) % 256)]).size<=9223372036854775807)/\(nxT (LP130_1 b p n) m K (s130_1 b p n (wrap64 (v1.1-Z1),r10.2,(v1.2.2++(strOf [((wrap64 ((97:Int)+r10.1)) % 256)])))))))/\((Sm TBy b)/\(M.aq b)/\(0<=v1.2.1)/\(v1.2.1<=1000000000000000)/\(LD (M.pick b v1.2.1 Z3) fun r10=>Q1 ((v1.2.2.size+(strOf [((wrap64 ((97:Int)+r10.1)) % 256)]).size<=9223372036854775807)/\(nxT (LP130_1 b p n) m K (s130_1 b p n (wrap64 (v1.1-Z1),r10.2,(v1.2.2++(strOf [((wrap64 ((97:Int)+r10.1)) % 256)]))))))))) (K (.exit 1) (⟨[(0,.ptr 1000000 0),(1,dI n),(4,.ptr 4 0),(5,.ptr 5 0)],[(1000000,.box [.data TBy b,dI v1.2.1]),(4,.box [dI Z0,dI Z0,.data Ty.str (⟨#[]⟩:ByteArray)]),(5,.box [dI Z2,dI Z0,.data Ty.str v1.2.2])]⟩:St))):=by kernel_rfl
theorem con130_ok:bf P 130 c130:=Fg [(1000000,true)] C130 func130 (kC con41_ok (kC con106_ok kN)) fun args hp K h0=>by
 unfold c130 at h0
 dsimp only at h0
 obtain⟨b,p,rfl,h00⟩:=fu h0
 obtain⟨a0,a1,rfl,_,h1⟩:=bT h00
 obtain⟨rfl,h2⟩:=dH h1
 obtain⟨n,rfl,h3⟩:=bp h2
 obtain⟨h_b,p0,p1,p2,hK⟩:=h3
 have h:ok (F.iJ b p n) (fun r=>K (.data af r.1) [(1000000,.box [.data TBy b,dI r.2])]):=az (F.vV b p n h_b p0 p1 p2) (hK _ rfl)
 refine⟨rfl,ann130,(L130 b p n),(.dat af),(lS (i0:=0) (i1:=1) (by kernel_rfl) ?_ ?_),?_⟩
 ·rintro _ _ K ⟨c0_0,c0_1,hc0,v0,rfl,hv0,h⟩
  exact cast (lvc130_0 _ _ _ _ _ _ _ _).symm (cS h (fun m1 hm0 h=>(oC h (fun _ h=>((cB h :) trivial)) fun _ h=>(oC h (fun b_3 h=>(bE b_3 ⟨h_b,(oG h fun g1 h=>(oG h fun _ h=>(oG h fun _ h=>(oL h fun _ _ h=>⟨h_b,⟨g1,(oG h fun _ h=>(oG h fun _ h=>(oL h fun _ _ h=>(oC h (fun _ h=>⟨h_b,⟨g1,(oG h fun _ h=>(oG h fun _ h=>(oL h fun _ _ h=>(oG h fun _ h=>(oG h fun _ h=>((cB h :) trivial))))))⟩⟩) fun _ h=>((cB h :) trivial)))))⟩⟩))))⟩)) fun _ h=>(oC h (fun b_51 h=>(bE b_51 ⟨h_b,(oG h fun g2 h=>(oG h fun _ h=>(oG h fun _ h=>(oL h fun _ _ h=>⟨h_b,⟨g2,(oG h fun _ h=>(oG h fun _ h=>(oL h fun _ _ h=>(oC h (fun _ h=>⟨h_b,⟨g2,(oG h fun _ h=>(oG h fun _ h=>(oL h fun _ _ h=>(oG h fun _ h=>(oG h fun _ h=>((cB h :) trivial))))))⟩⟩) fun _ h=>((cB h :) trivial)))))⟩⟩))))⟩)) fun _ h=>(oC h (fun _ h=>⟨h_b,(oG h fun g3 h=>(oG h fun _ h=>(oG h fun _ h=>(oL h fun _ _ h=>⟨h_b,⟨g3,(oG h fun _ h=>(oG h fun _ h=>(oL h fun _ _ h=>(oC h (fun _ h=>⟨h_b,⟨g3,(oG h fun _ h=>(oG h fun _ h=>(oL h fun _ _ h=>(oG h fun _ h=>(oG h fun _ h=>((cB h :) trivial))))))⟩⟩) fun _ h=>((cB h :) trivial)))))⟩⟩))))⟩) fun _ h=>(oC h (fun b_74 h=>(bE b_74 ⟨h_b,(oG h fun _ h=>(oG h fun _ h=>(oG h fun _ h=>(oL h fun _ _ h=>(cj (fun m hm=>⟨trivial,hm⟩) _ rfl trivial (gA h (fun e1 h hv1=>((cB h :) trivial))))))))⟩)) fun _ h=>(oC h (fun _ h=>⟨h_b,(oG h fun _ h=>(oG h fun _ h=>(oG h fun _ h=>(oL h fun _ _ h=>(cj (fun m hm=>⟨trivial,hm⟩) _ rfl trivial (gA h (fun e1 h hv1=>((cB h :) trivial))))))))⟩) fun _ h=>⟨h_b,(oG h fun _ h=>(oG h fun _ h=>(oG h fun _ h=>(oL h fun _ _ h=>((cB h :) trivial)))))⟩))))))))
 ·rintro _ _ K ⟨hc1,v1,rfl,hv1,h⟩
  exact cast (lvc130_1 _ _ _ _ _ _).symm (cS h (fun m1 hm1 h=>(oC h (fun _ h=>((fun(g2_0:M.aq b)=>(fun(g2_1:0<=v1.2.1)=>(fun(g2_2:v1.2.1<=1000000000000000)=>(fun(g2_3:v1.2.2.size+(strOf [((wrap64 ((97:Int)+(M.pick b v1.2.1 Z3).1)) % 256)]).size<=9223372036854775807)=>⟨⟨h_b,⟨g2_0,have g4:=g2_0;⟨g2_1,have g5:=g2_1;⟨g2_2,have g6:=g2_2;(fun r10 er10=>(have g7:v1.2.2.size+(strOf [((wrap64 ((97:Int)+r10.1)) % 256)]).size<=9223372036854775807:=(by rw[er10];exact g2_3);⟨g7,(have h:=(aD (cL (aD (aD (aD h).2).2).2 r10 er10)).2;(aX (fun _ hm=>⟨hc1,hm⟩) hm1 _ rfl trivial h))⟩))⟩⟩⟩⟩,⟨h_b,⟨g2_0,have g8:=g2_0;⟨g2_1,have g9:=g2_1;⟨g2_2,have g10:=g2_2;(fun r10 er10=>(q1 (have g11:v1.2.2.size+(strOf [((wrap64 ((97:Int)+r10.1)) % 256)]).size<=9223372036854775807:=(by rw[er10];exact g2_3);⟨g11,(have h:=(aD (cL (aD (aD (aD h).2).2).2 r10 er10)).2;(aX (fun _ hm=>⟨hc1,hm⟩) hm1 _ rfl trivial h))⟩)))⟩⟩⟩⟩⟩) (aD (cL (aD (aD (aD h).2).2).2 _ rfl)).1) (aD (aD (aD h).2).2).1) (aD (aD h).2).1) (aD h).1)) fun _ h=>((cB h :) trivial))))
 ·rw[vc130]
  exact⟨h_b,⟨p0,⟨p1,(oG h fun _ h=>(oL h fun r1 _ h=>(cj (fun m hm=>⟨r1.1,r1.2,trivial,hm⟩) _ rfl trivial (gA h (fun e0 h hv0=>⟨h_b,⟨p0,(oG h fun _ h=>(oG h fun _ h=>(oL h fun _ _ h=>(oC h (fun _ h=>⟨h_b,⟨p0,(oG h fun _ h=>(oG h fun _ h=>(oL h fun _ _ h=>(oC h (fun _ h=>h) fun _ h=>(oC h (fun _ h=>(oG h fun _ h=>h)) fun _ h=>(oC h (fun _ h=>⟨h_b,⟨p0,(oG h fun _ h=>(oG h fun _ h=>(oL h fun _ _ h=>h)))⟩⟩) fun _ h=>(oG h fun _ h=>h)))))))⟩⟩) fun _ h=>h))))⟩⟩)))))⟩⟩⟩
def c89:Con:=⟨[.any,.lent ag,.dat aC],fun args hp K=>hpR (fun b p=>wO (fun a0 a1 a2=>mY a0 (lJ ag a1 fun columns=>ff aC a2 fun n=>(Sm TBy b)/\(Sm TCS columns)/\(M.aq b)/\(0<=p)/\(p<=997000000000000)/\(LD (M.lC b p columns n) fun r=>K (.own 0 none) [(0,.arr .sh af r.1),(1000000,.box [.data TBy b,dI r.2])]))) args []) hp,.plain,true⟩
abbrev C89:Ctx:=cx [(41,c41),(106,c106),(129,c129),(130,c130)] 59 [] 0 false
def ann89:=an [[kp 7],[kp 135],[kp 391],[kp 8583],[kp 391],[kp 391],[kp 134217857],[kp 536871041],[kp 128],[kp 550292684929],[kp 128],[.keep [0,7,45]],[.keep [0,7,49]],[kp 128],[kp 64]] [[kp 133]]
abbrev s89_0 (b:LI) (p:Int) (columns:LC) (n:Int) (i0:Int) (v0:Int×LV):St:=⟨[(0,.ptr 1000000 0),(1,.brw ag columns),(2,dI n),(7,.own 9 none),(8,dI i0)],[(1000000,.box [.data TBy b,dI v0.1]),(9,.arr .sh af v0.2)]⟩
abbrev LP89_0 (b:LI) (p:Int) (columns:LC) (n:Int) (m:Nat) (st_:St) (K:KX):Prop:=True/\bX (t:=ag) (s89_0 b p columns n) columns (F.jr b p columns n) (fun v0:Int×LV=>True) (bg (fun v0:Int×LV=>True->K (.exit 0) (⟨[(0,.ptr 1000000 0),(2,dI n),(7,.own 9 none)],[(1000000,.box [.data TBy b,dI v0.1]),(9,.arr .sh af v0.2)]⟩:St)) (fun _=>False)) m st_
def L89 (b:LI) (p:Int) (columns:LC) (n:Int):bH:=lp1 0 (LP89_0 b p columns n)
theorem vc89 (b:LI) (p:Int) (columns:LC) (n:Int) (K:KA):vcT C89 (L89 b p columns n) ann89 f89 [.ptr 1000000 0,.brw ag columns,dI n] [(1000000,.box [.data TBy b,dI p])] .raw K =
 (∃m_,True/\bX (t:=ag) (s89_0 b p columns n) columns (F.jr b p columns n) (fun v0:Int×LV=>True) (bg (fun v0:Int×LV=>True->(Sm TBy b)/\(M.aq b)/\(0<=v0.1)/\(v0.1<=999000000000000)/\(LD (M.odd b v0.1 n) fun r1=>cond r1.1 ((Sm TBy b)/\(M.aq b)/\(0<=r1.2)/\(r1.2<=1000000000000000)/\(LD (M.pick b r1.2 Z3) fun r2=>cond (decide (r2.1=Z0)) (((v0.2.length+([(Z0,(Z0,((⟨#[]⟩:ByteArray),())))]:List af.D).length) * 32<=lim)/\K (.own 0 none) [(0,.arr .sh af (v0.2++[(Z0,(Z0,((⟨#[]⟩:ByteArray),())))])),(1000000,.box [.data TBy b,dI r2.2])]) (cond (decide (r2.1=Z1)) (cond (decide (Z0<(v0.2.length:Int))) ((Sm TBy b)/\(M.aq b)/\(0<=r2.2)/\(r2.2<=1000000000000000)/\(LD (M.pick b r2.2 (v0.2.length:Int)) fun r3=>(Sm TBy b)/\(M.aq b)/\(0<=r3.2)/\(r3.2<=998000000000000)/\(LD (M.eT b r3.2 Z3) fun r4=>(0<=r3.1)/\(r3.1<(v0.2.length:Int))/\K (.own 0 none) [(0,.arr .sh af (v0.2.set r3.1.toNat r4.1)),(1000000,.box [.data TBy b,dI r4.2])]))) (K (.own 0 none) [(0,.arr .sh af v0.2),(1000000,.box [.data TBy b,dI r2.2])])) ((Sm TBy b)/\(M.aq b)/\(0<=r2.2)/\(r2.2<=998000000000000)/\(LD (M.eT b r2.2 Z0) fun r5=>(Sm TBy b)/\(M.aq b)/\(0<=r5.2)/\(r5.2<=998000000000000)/\(LD (M.eT b r5.2 Z0) fun r6=>(Sm TBy b)/\(M.aq b)/\(0<=r6.2)/\(r6.2<=998000000000000)/\(LD (M.eT b r6.2 Z0) fun r7=>((v0.2.length+[r5.1,r6.1,r7.1].length) * 32<=lim)/\K (.own 0 none) [(0,.arr .sh af (v0.2++[r5.1,r6.1,r7.1])),(1000000,.box [.data TBy b,dI r7.2])]))))))) (K (.own 0 none) [(0,.arr .sh af v0.2),(1000000,.box [.data TBy b,dI r1.2])]))) (fun _=>False)) m_ (s89_0 b p columns n Z0 (p,[]))):=by kernel_rfl
theorem lvc89_0 (b:LI) (p:Int) (columns:LC) (n:Int)  (i0:Int) (v0:Int×LV) (m:Nat) (K:KX):lvT C89 (L89 b p columns n) ann89 f89 0 0 (s89_0 b p columns n i0 v0) m K =
 (cond (decide (i0<(columns.length:Int))) ((0<=i0)/\(i0<(columns.length:Int))/\(Sm TBy b)/\(M.aq b)/\(0<=v0.1)/\(v0.1<=998000000000000)/\(LD (M.ki b v0.1 (nC columns i0)) fun r8=>((v0.2.length+[r8.1].length) * 32<=lim)/\(nxT (LP89_0 b p columns n) m K (s89_0 b p columns n (wrap64 (i0+Z1)) (r8.2,(v0.2++[r8.1])))))) (K (.exit 0) (⟨[(0,.ptr 1000000 0),(2,dI n),(7,.own 9 none)],[(1000000,.box [.data TBy b,dI v0.1]),(9,.arr .sh af v0.2)]⟩:St))):=by kernel_rfl
theorem con89_ok:bf P 89 c89:=br C89 func89 (kC con41_ok (kC con106_ok (kC con129_ok (kC con130_ok kN)))) fun args hp K h0=>by
 unfold c89 at h0
 dsimp only at h0
 obtain⟨b,p,rfl,h00⟩:=fu h0
 obtain⟨a0,a1,a2,rfl,_,h1⟩:=jP h00
 obtain⟨rfl,h2⟩:=dH h1
 obtain⟨columns,rfl,h3⟩:=cZ h2
 obtain⟨n,rfl,h4⟩:=bp h3
 obtain⟨h_b,h_columns,p0,p1,p2,hK⟩:=h4
 have h:ok (F.kQ b p columns n) (fun r=>K (.own 0 none) [(0,.arr .sh af r.1),(1000000,.box [.data TBy b,dI r.2])]):=az (F.zK b p columns n h_b h_columns p0 p1 p2) (hK _ rfl)
 refine⟨rfl,ann89,(L89 b p columns n),.raw,(bL (i0:=0) (by kernel_rfl) ?_),?_⟩
 ·rintro _ _ K ⟨hc0,i0,v0,rfl,hl0,rfl,hv0,h⟩
  exact cast (lvc89_0 _ _ _ _ _ _ _ _).symm (bB (t:=ag) hl0 h (fun ht0 h=>⟨hl0,⟨ht0,⟨h_b,(oG h fun _ h=>(oG h fun _ h=>(oG h fun _ h=>(oL h fun _ _ h=>(oG h fun _ h=>(aZ (t:=ag) (fun _ hm=>⟨hc0,hm⟩) _ rfl hl0 ht0 (bz h_columns) trivial h))))))⟩⟩⟩) fun h=>(h trivial))
 ·rw[vc89]
  exact(bn (t:=ag) (fun m hm=>⟨trivial,hm⟩) _ rfl trivial (aT h (fun v0 h hv0=>⟨h_b,⟨p0,(oG h fun _ h=>(oG h fun _ h=>(oL h fun _ _ h=>(oC h (fun _ h=>⟨h_b,⟨p0,(oG h fun _ h=>(oG h fun _ h=>(oL h fun _ _ h=>(oC h (fun _ h=>(oG h fun _ h=>h)) fun _ h=>(oC h (fun _ h=>(oC h (fun _ h=>⟨h_b,⟨p0,(oG h fun _ h=>(oG h fun _ h=>(oL h fun _ _ h=>⟨h_b,⟨p0,(oG h fun _ h=>(oG h fun _ h=>(oL h fun _ _ h=>(oG h fun _ h=>(oG h fun _ h=>h)))))⟩⟩)))⟩⟩) fun _ h=>h)) fun _ h=>⟨h_b,⟨p0,(oG h fun _ h=>(oG h fun _ h=>(oL h fun _ _ h=>⟨h_b,⟨p0,(oG h fun _ h=>(oG h fun _ h=>(oL h fun _ _ h=>⟨h_b,⟨p0,(oG h fun _ h=>(oG h fun _ h=>(oL h fun _ _ h=>(oG h fun _ h=>h))))⟩⟩)))⟩⟩)))⟩⟩)))))⟩⟩) fun _ h=>h))))⟩⟩) (fun _ h=>h.elim)))
def c185:Con:=⟨[.dat TVS],fun args hp K=>g1 (pD TVS) (fun row=>(Sm TVS row)/\(LD row fun r=>K (.own 0 none) [(0,.arr .sh af r)])) args hp,.bor,false⟩
abbrev C185:Ctx:=cx [] 6 [] 0 false
def ann185:=an [[kp 1],[kp 4]] []
theorem vc185 (row:LV) (K:KA):vcT C185 aB ann185 f185 [.data TVS row] [] .raw K =
 (((([]:List af.D).length+row.length) * 32<=lim)/\K (.own 0 none) [(0,.arr .sh af ([]++row))]):=by kernel_rfl
theorem con185_ok:bf P 185 c185:=br C185 func185 kN fun args hp K h0=>by
 obtain⟨row,rfl,rfl,h_row,hK⟩:=g1e h0
 have h:ok (F.yo row) (fun r=>K (.own 0 none) [(0,.arr .sh af r)]):=az (F.Ay row h_row) (hK _ rfl)
 refine⟨rfl,ann185,aB,.raw,(aH (by kernel_rfl)),?_⟩
 ·rw[vc185]
  exact⟨(qa (jN af) h_row rfl),h⟩
def c151:Con:=⟨[.any,.lent ag,.dat aC],fun args hp K=>hpR (fun b p=>wO (fun a0 a1 a2=>mY a0 (lJ ag a1 fun c=>ff aC a2 fun n=>(Sm TBy b)/\(Sm TCS c)/\(M.aq b)/\(0<=p)/\(p<=996000000000000)/\(c.length<=6)/\(n=0)/\(LD (M.ot b p c n) fun r=>K (.own 0 none) [(0,.arr .dp TVS r.1),(1000000,.box [.data TBy b,dI r.2])]))) args []) hp,.plain,true⟩
abbrev C151:Ctx:=cx [(41,c41),(89,c89),(185,c185)] 43 [] 0 true
def ann151:=an [[kp 7],[kp 135],[kp 391],[kp 8583],[kp 391],[kp 8388999],[kp 391],[kp 391],[kp 64]] [[kp 128]]
abbrev s151_0 (b:LI) (p:Int) (c:LC) (n:Int) (v0:Int×Int×(List LV)):St:=⟨[(0,.ptr 1000000 0),(1,.brw ag c),(2,dI n),(7,.own 9 none),(8,dI v0.1)],[(1000000,.box [.data TBy b,dI v0.2.1]),(9,.arr .dp TVS v0.2.2)]⟩
abbrev LP151_0 (b:LI) (p:Int) (c:LC) (n:Int) (m:Nat) (st_:St) (K:KX):Prop:=True/\ep (s151_0 b p c n) (F.jB b p c n) (fun v0:Int×Int×(List LV)=>True) (fun e0:Int×(List LV)=>True->K (.exit 0) (⟨[(7,.own 9 none)],[(1000000,.box [.data TBy b,dI e0.1]),(9,.arr .dp TVS e0.2)]⟩:St)) m st_
def L151 (b:LI) (p:Int) (c:LC) (n:Int):bH:=lp1 0 (LP151_0 b p c n)
theorem vc151 (b:LI) (p:Int) (c:LC) (n:Int) (K:KA):vcT C151 (L151 b p c n) ann151 f151 [.ptr 1000000 0,.brw ag c,dI n] [(1000000,.box [.data TBy b,dI p])] .raw K =
 ((Sm TBy b)/\(M.aq b)/\(0<=p)/\(p<=1000000000000000)/\(LD (M.pick b p (7:Int)) fun r1=>(∃m_,True/\ep (s151_0 b p c n) (F.jB b p c n) (fun v0:Int×Int×(List LV)=>True) (fun e0:Int×(List LV)=>True->K (.own 0 none) [(0,.arr .dp TVS e0.2),(1000000,.box [.data TBy b,dI e0.1])]) m_ (s151_0 b p c n (r1.1,r1.2,[]))))):=by kernel_rfl
theorem lvc151_0 (b:LI) (p:Int) (c:LC) (n:Int)  (v0:Int×Int×(List LV)) (m:Nat) (K:KX):lvT C151 (L151 b p c n) ann151 f151 0 0 (s151_0 b p c n v0) m K =
 (cond (decide (Z0<v0.1)) (cond ((decide (Z0<(v0.2.2.length:Int)))==true) ((Sm TBy b)/\(M.aq b)/\(0<=v0.2.1)/\(v0.2.1<=1000000000000000)/\(LD (M.pick b v0.2.1 Z3) fun r2=>cond (decide (r2.1=Z0)) ((Sm TBy b)/\(M.aq b)/\(0<=r2.2)/\(r2.2<=1000000000000000)/\(LD (M.pick b r2.2 (v0.2.2.length:Int)) fun r3=>(0<=r3.1)/\(r3.1<(v0.2.2.length:Int))/\(Sm TVS (nth (t:=TVS) v0.2.2 r3.1))/\(LD (nth (t:=TVS) v0.2.2 r3.1) fun r4=>((v0.2.2.length+[r4].length) * 24<=lim)/\(nxT (LP151_0 b p c n) m K (s151_0 b p c n (wrap64 (v0.1-Z1),r3.2,(v0.2.2++[r4]))))))) ((Sm TBy b)/\(Sm TCS c)/\(M.aq b)/\(0<=r2.2)/\(r2.2<=997000000000000)/\(LD (M.lC b r2.2 c n) fun r5=>((v0.2.2.length+[r5.1].length) * 24<=lim)/\(nxT (LP151_0 b p c n) m K (s151_0 b p c n (wrap64 (v0.1-Z1),r5.2,(v0.2.2++[r5.1])))))))) ((Sm TBy b)/\(Sm TCS c)/\(M.aq b)/\(0<=v0.2.1)/\(v0.2.1<=997000000000000)/\(LD (M.lC b v0.2.1 c n) fun r5=>((v0.2.2.length+[r5.1].length) * 24<=lim)/\(nxT (LP151_0 b p c n) m K (s151_0 b p c n (wrap64 (v0.1-Z1),r5.2,(v0.2.2++[r5.1]))))))) (K (.exit 0) (⟨[(7,.own 9 none)],[(1000000,.box [.data TBy b,dI v0.2.1]),(9,.arr .dp TVS v0.2.2)]⟩:St))):=by kernel_rfl
theorem con151_ok:bf P 151 c151:=br C151 func151 (kC con41_ok (kC con89_ok (kC con185_ok kN))) fun args hp K h0=>by
 unfold c151 at h0
 dsimp only at h0
 obtain⟨b,p,rfl,h00⟩:=fu h0
 obtain⟨a0,a1,a2,rfl,_,h1⟩:=jP h00
 obtain⟨rfl,h2⟩:=dH h1
 obtain⟨c,rfl,h3⟩:=cZ h2
 obtain⟨n,rfl,h4⟩:=bp h3
 obtain⟨h_b,h_c,p0,p1,p2,p3,p4,hK⟩:=h4
 have h:ok (F.kL b p c n) (fun r=>K (.own 0 none) [(0,.arr .dp TVS r.1),(1000000,.box [.data TBy b,dI r.2])]):=az (F.ze b p c n h_b h_c p0 p1 p2 p3 p4) (hK _ rfl)
 refine⟨rfl,ann151,(L151 b p c n),.raw,(bL (i0:=0) (by kernel_rfl) ?_),?_⟩
 ·rintro _ _ K ⟨hc0,v0,rfl,hv0,h⟩
  exact cast (lvc151_0 _ _ _ _ _ _ _).symm (cS h (fun m1 hm0 h=>(oC h (fun _ h=>(oC h (fun _ h=>⟨h_b,(oG h fun g1 h=>(oG h fun _ h=>(oG h fun _ h=>(oL h fun _ _ h=>(oC h (fun _ h=>⟨h_b,⟨g1,(oG h fun _ h=>(oG h fun _ h=>(oL h fun _ _ h=>(oG h fun _ h=>(oG h fun _ h=>(oG h fun _ h=>(oL h fun _ _ h=>(oG h fun _ h=>(aX (fun _ hm=>⟨hc0,hm⟩) hm0 _ rfl trivial h)))))))))⟩⟩) fun _ h=>⟨h_b,⟨h_c,⟨g1,(oG h fun _ h=>(oG h fun _ h=>(oL h fun _ _ h=>(oG h fun _ h=>(aX (fun _ hm=>⟨hc0,hm⟩) hm0 _ rfl trivial h)))))⟩⟩⟩)))))⟩) fun _ h=>⟨h_b,⟨h_c,(oG h fun _ h=>(oG h fun _ h=>(oG h fun _ h=>(oL h fun _ _ h=>(oG h fun _ h=>(aX (fun _ hm=>⟨hc0,hm⟩) hm0 _ rfl trivial h))))))⟩⟩)) fun _ h=>((cB h :) trivial))))
 ·rw[vc151]
  exact⟨h_b,⟨p0,⟨p1,(oG h fun _ h=>(oL h fun _ _ h=>(cj (fun m hm=>⟨trivial,hm⟩) _ rfl trivial (gA h (fun e0 h hv0=>h)))))⟩⟩⟩
def c104:Con:=⟨[.any,.dat aC],fun args hp K=>hpR (fun b p=>args2 (fun a0 a1=>mY a0 (ff aC a1 fun n=>(Sm TBy b)/\(M.aq b)/\(0<=p)/\(p<=995000000000000)/\(LD (M.dU b p n) fun r=>K (.own 0 none) [(0,.arr .dp ax r.1),(1000000,.box [.data TBy b,dI r.2])]))) args []) hp,.plain,true⟩
abbrev C104:Ctx:=cx [(41,c41),(88,c88),(106,c106),(151,c151)] 73 [] 0 true
def ann104:=an [[kp 3],[kp 35],[kp 99],[kp 16483],[kp 99],[kp 227],[kp 227],[.fixRow 8 ax,kp 355],[kp 99],[kp 274877906977],[.keep [5,40]],[kp 32],[.keep [5,40,51]],[kp 32],[.keep [5,59]],[kp 32],[kp 16]] [[kp 35]]
abbrev s104_0 (b:LI) (p:Int) (n:Int) (v0:Int×Int×LTb):St:=⟨[(0,.ptr 1000000 0),(1,dI n),(5,.own 9 none),(6,dI v0.1)],[(1000000,.box [.data TBy b,dI v0.2.1]),(9,.arr .dp ax v0.2.2)]⟩
abbrev LP104_0 (b:LI) (p:Int) (n:Int) (m:Nat) (st_:St) (K:KX):Prop:=True/\ep (s104_0 b p n) (F.gz b p n) (fun v0:Int×Int×LTb=>True) (fun e0:Int×LTb=>True->K (.exit 0) (⟨[(0,.ptr 1000000 0),(1,dI n),(5,.own 9 none)],[(1000000,.box [.data TBy b,dI e0.1]),(9,.arr .dp ax e0.2)]⟩:St)) m st_
def L104 (b:LI) (p:Int) (n:Int):bH:=lp1 0 (LP104_0 b p n)
theorem vc104 (b:LI) (p:Int) (n:Int) (K:KA):vcT C104 (L104 b p n) ann104 f104 [.ptr 1000000 0,dI n] [(1000000,.box [.data TBy b,dI p])] .raw K =
 ((Sm TBy b)/\(M.aq b)/\(0<=p)/\(p<=1000000000000000)/\(LD (M.pick b p Z3) fun r1=>(∃m_,True/\ep (s104_0 b p n) (F.gz b p n) (fun v0:Int×Int×LTb=>True) (fun e0:Int×LTb=>True->(Sm TBy b)/\(M.aq b)/\(0<=e0.1)/\(e0.1<=999000000000000)/\(LD (M.odd b e0.1 n) fun r2=>cond r2.1 ((Sm TBy b)/\(M.aq b)/\(0<=r2.2)/\(r2.2<=1000000000000000)/\(LD (M.pick b r2.2 Z3) fun r3=>cond (decide (r3.1=Z0)) (((e0.2.length+([([],([],())),([],([],())),([],([],()))]:List ax.D).length) * 48<=lim)/\K (.own 0 none) [(0,.arr .dp ax (e0.2++[([],([],())),([],([],())),([],([],()))])),(1000000,.box [.data TBy b,dI r3.2])]) (cond (decide (r3.1=Z1)) ((0<=Z0)/\(Z0<(e0.2.length:Int))/\(((nT e0.2 Z0).2.1.length+([[((9:Int),(Z0,((⟨#[]⟩:ByteArray),())))]]:List TVS.D).length) * 24<=lim)/\(0<=Z0)/\(Z0<((e0.2.set Z0.toNat ((nT e0.2 Z0).1,([],()))).length:Int))/\(Z0=Z0)/\(let y1:LTb:=((e0.2.set Z0.toNat ((nT e0.2 Z0).1,([],()))).set Z0.toNat ((nT (e0.2.set Z0.toNat ((nT e0.2 Z0).1,([],()))) Z0).1,(((nT e0.2 Z0).2.1++[[((9:Int),(Z0,((⟨#[]⟩:ByteArray),())))]]),())));K (.own 0 none) [(0,.arr .dp ax y1),(1000000,.box [.data TBy b,dI r3.2])])) ((0<=Z0)/\(Z0<(e0.2.length:Int))/\(((nT e0.2 Z0).1.length+[(Z1,(false,()))].length) * 16<=lim)/\(0<=Z0)/\(Z0<((e0.2.set Z0.toNat ([],(nT e0.2 Z0).2)).length:Int))/\(Z0=Z0)/\(let y2:LTb:=((e0.2.set Z0.toNat ([],(nT e0.2 Z0).2)).set Z0.toNat (((nT e0.2 Z0).1++[(Z1,(false,()))]),(nT (e0.2.set Z0.toNat ([],(nT e0.2 Z0).2)) Z0).2));K (.own 0 none) [(0,.arr .dp ax y2),(1000000,.box [.data TBy b,dI r3.2])]))))) (K (.own 0 none) [(0,.arr .dp ax e0.2),(1000000,.box [.data TBy b,dI r2.2])]))) m_ (s104_0 b p n (wrap64 (Z1+r1.1),r1.2,[]))))):=by kernel_rfl
theorem lvc104_0 (b:LI) (p:Int) (n:Int)  (v0:Int×Int×LTb) (m:Nat) (K:KX):lvT C104 (L104 b p n) ann104 f104 0 0 (s104_0 b p n v0) m K =
 (cond (decide (Z0<v0.1)) ((Sm TBy b)/\(M.aq b)/\(0<=v0.2.1)/\(v0.2.1<=998000000000000)/\(LD (M.fQ b v0.2.1 Z0) fun r4=>(Sm TBy b)/\(M.aq b)/\(0<=r4.2)/\(r4.2<=1000000000000000)/\(LD (M.pick b r4.2 Z2) fun r5=>((r4.1.length:Int)≠0)/\(0<=Z0)/\(Z0<=wrap64 (Z1+(r5.1.tmod (r4.1.length:Int))))/\(wrap64 (Z1+(r5.1.tmod (r4.1.length:Int)))<=(r4.1.length:Int))/\(wrap64 (Z1+(r5.1.tmod (r4.1.length:Int)))=wrap64 (Z1+(r5.1.tmod (r4.1.length:Int))))/\(Sm TBy b)/\(Sm TCS (ay r4.1 (some (Z0,wrap64 (Z1+(r5.1.tmod (r4.1.length:Int)))))))/\(M.aq b)/\(0<=r5.2)/\(r5.2<=996000000000000)/\((ay r4.1 (some (Z0,wrap64 (Z1+(r5.1.tmod (r4.1.length:Int)))))).length<=6)/\(Z0=0)/\(LD (M.ot b r5.2 (ay r4.1 (some (Z0,wrap64 (Z1+(r5.1.tmod (r4.1.length:Int)))))) Z0) fun r6=>((v0.2.2.length+[((ay r4.1 (some (Z0,wrap64 (Z1+(r5.1.tmod (r4.1.length:Int)))))),(r6.1,()))].length) * 48<=lim)/\(nxT (LP104_0 b p n) m K (s104_0 b p n (wrap64 (v0.1-Z1),r6.2,(v0.2.2++[((ay r4.1 (some (Z0,wrap64 (Z1+(r5.1.tmod (r4.1.length:Int)))))),(r6.1,()))])))))))) (K (.exit 0) (⟨[(0,.ptr 1000000 0),(1,dI n),(5,.own 9 none)],[(1000000,.box [.data TBy b,dI v0.2.1]),(9,.arr .dp ax v0.2.2)]⟩:St))):=by kernel_rfl
theorem con104_ok:bf P 104 c104:=br C104 func104 (kC con41_ok (kC con88_ok (kC con106_ok (kC con151_ok kN)))) fun args hp K h0=>by
 unfold c104 at h0
 dsimp only at h0
 obtain⟨b,p,rfl,h00⟩:=fu h0
 obtain⟨a0,a1,rfl,_,h1⟩:=bT h00
 obtain⟨rfl,h2⟩:=dH h1
 obtain⟨n,rfl,h3⟩:=bp h2
 obtain⟨h_b,p0,p1,p2,hK⟩:=h3
 have h:ok (F.gR b p n) (fun r=>K (.own 0 none) [(0,.arr .dp ax r.1),(1000000,.box [.data TBy b,dI r.2])]):=az (F.ud b p n h_b p0 p1 p2) (hK _ rfl)
 refine⟨rfl,ann104,(L104 b p n),.raw,(bL (i0:=0) (by kernel_rfl) ?_),?_⟩
 ·rintro _ _ K ⟨hc0,v0,rfl,hv0,h⟩
  exact cast (lvc104_0 _ _ _ _ _ _).symm (cS h (fun m1 hm0 h=>(oC h (fun _ h=>⟨h_b,(oG h fun g1 h=>(oG h fun _ h=>(oG h fun _ h=>(oL h fun _ _ h=>⟨h_b,⟨g1,(oG h fun _ h=>(oG h fun _ h=>(oL h fun _ _ h=>(oG h fun _ h=>⟨(Int.natCast_nonneg 0),(oG h fun _ h=>(oG h fun _ h=>⟨rfl,⟨h_b,(oG h fun _ h=>⟨g1,(oG h fun _ h=>(oG h fun _ h=>(oG h fun _ h=>(oG h fun _ h=>(oL h fun _ _ h=>(oG h fun _ h=>(aX (fun _ hm=>⟨hc0,hm⟩) hm0 _ rfl trivial h)))))))⟩)⟩⟩))⟩))))⟩⟩))))⟩) fun _ h=>((cB h :) trivial))))
 ·rw[vc104]
  exact⟨h_b,⟨p0,⟨p1,(oG h fun _ h=>(oL h fun _ _ h=>(cj (fun m hm=>⟨trivial,hm⟩) _ rfl trivial (gA h (fun e0 h hv0=>⟨h_b,⟨p0,(oG h fun _ h=>(oG h fun _ h=>(oL h fun _ _ h=>(oC h (fun _ h=>⟨h_b,⟨p0,(oG h fun _ h=>(oG h fun _ h=>(oL h fun _ _ h=>(oC h (fun _ h=>(oG h fun _ h=>h)) fun _ h=>(oC h (fun _ h=>⟨(Int.natCast_nonneg 0),(oG h fun _ h=>(oG h fun _ h=>⟨(Int.natCast_nonneg 0),(oG h fun _ h=>⟨rfl,(have h:=cL h _ rfl;h)⟩)⟩))⟩) fun _ h=>⟨(Int.natCast_nonneg 0),(oG h fun _ h=>(oG h fun _ h=>⟨(Int.natCast_nonneg 0),(oG h fun _ h=>⟨rfl,(have h:=cL h _ rfl;h)⟩)⟩))⟩)))))⟩⟩) fun _ h=>h))))⟩⟩)))))⟩⟩⟩
def c91:Con:=⟨[.any,.dat TCS,.dat aC],fun args hp K=>hpR (fun b p=>wO (fun a0 a1 a2=>mY a0 (ff TCS a1 fun columns=>ff aC a2 fun kind=>(Sm TBy b)/\(Sm TCS columns)/\(M.aq b)/\(0<=p)/\(p<=997000000000000)/\(LD (M.dK b p columns kind) fun r=>K (.data aE r.1) [(1000000,.box [.data TBy b,dI r.2])]))) args []) hp,.plain,true⟩
abbrev C91:Ctx:=cx [(41,c41),(129,c129)] 41 [] 0 false
def ann91:=an [[kp 71],[kp 199],[kp 32967],[kp 199],[kp 455],[kp 8589935047],[kp 64],[kp 64]] [[kp 69]]
abbrev s91_0 (b:LI) (p:Int) (columns:LC) (kind:Int) (v0:Int×Int):St:=⟨[(0,.ptr 1000000 0),(1,.data TCS columns),(2,dI kind),(6,.ptr 6 0),(7,dI v0.1)],[(1000000,.box [.data TBy b,dI v0.2]),(6,.box [dI Z0,dI Z0,dI Z0,dI Z0,.data Ty.str (⟨#[]⟩:ByteArray)])]⟩
abbrev LP91_0 (b:LI) (p:Int) (columns:LC) (kind:Int) (m:Nat) (st_:St) (K:KX):Prop:=True/\ep (s91_0 b p columns kind) (F.iN b p columns kind) (fun v0:Int×Int=>True) (bg (fun e0:Int=>True->K (.exit 0) (⟨[(0,.ptr 1000000 0),(2,dI kind),(6,.ptr 6 0)],[(1000000,.box [.data TBy b,dI e0]),(6,.box [dI Z0,dI Z0,dI Z0,dI Z0,.data Ty.str (⟨#[]⟩:ByteArray)])]⟩:St)) (fun q0:Int×Int=>K .ret (⟨[(6,.ptr 6 0)],[(1000000,.box [.data TBy b,dI q0.1]),(6,.box [dI Z2,dI q0.2,dI Z0,dI Z0,.data Ty.str (⟨#[]⟩:ByteArray)])]⟩:St))) m st_
def L91 (b:LI) (p:Int) (columns:LC) (kind:Int):bH:=lp1 0 (LP91_0 b p columns kind)
theorem vc91 (b:LI) (p:Int) (columns:LC) (kind:Int) (K:KA):vcT C91 (L91 b p columns kind) ann91 f91 [.ptr 1000000 0,.data TCS columns,dI kind] [(1000000,.box [.data TBy b,dI p])] (.dat aE) K =
 (∃m_,True/\ep (s91_0 b p columns kind) (F.iN b p columns kind) (fun v0:Int×Int=>True) (bg (fun e0:Int=>True->(Sm TBy b)/\(M.aq b)/\(0<=e0)/\(e0<=998000000000000)/\(LD (M.ki b e0 (kind,(false,()))) fun r1=>K (.data aE (Z1,(Z0,(r1.1,())))) [(1000000,.box [.data TBy b,dI r1.2])])) (fun q0:Int×Int=>K (.data aE (Z2,(q0.2,((Z0,(Z0,((⟨#[]⟩:ByteArray),()))),())))) [(1000000,.box [.data TBy b,dI q0.1])])) m_ (s91_0 b p columns kind (Z0,p))):=by kernel_rfl
abbrev S91l0_0 (b:LI) (p:Int) (columns:LC) (kind:Int)  (v0:Int×Int) (m:Nat) (K:KX):Prop:=K (.exit 0) (⟨[(0,.ptr 1000000 0),(2,dI kind),(6,.ptr 6 0)],[(1000000,.box [.data TBy b,dI v0.2]),(6,.box [dI Z0,dI Z0,dI Z0,dI Z0,.data Ty.str (⟨#[]⟩:ByteArray)])]⟩:St)
theorem lvc91_0 (b:LI) (p:Int) (columns:LC) (kind:Int)  (v0:Int×Int) (m:Nat) (K:KX):lvT C91 (L91 b p columns kind) ann91 f91 0 0 (s91_0 b p columns kind v0) m K =
 (cond ((decide (v0.1<Z4))==true) (cond (decide (Z0<(columns.length:Int))) ((Sm TBy b)/\(M.aq b)/\(0<=v0.2)/\(v0.2<=1000000000000000)/\(LD (M.pick b v0.2 (columns.length:Int)) fun r2=>(0<=r2.1)/\(r2.1<(columns.length:Int))/\cond ((decide ((nC columns r2.1).1=kind))==true) ((Sm TBy b)/\(M.aq b)/\(0<=r2.2)/\(r2.2<=1000000000000000)/\(LD (M.pick b r2.2 Z3) fun r3=>cond (decide (Z0<r3.1)) (K .ret (⟨[(6,.ptr 6 0)],[(1000000,.box [.data TBy b,dI r3.2]),(6,.box [dI Z2,dI r2.1,dI Z0,dI Z0,.data Ty.str (⟨#[]⟩:ByteArray)])]⟩:St)) (nxT (LP91_0 b p columns kind) m K (s91_0 b p columns kind (wrap64 (v0.1+Z1),r3.2))))) (nxT (LP91_0 b p columns kind) m K (s91_0 b p columns kind (wrap64 (v0.1+Z1),r2.2))))) (S91l0_0  b p columns kind v0 m K)) (S91l0_0  b p columns kind v0 m K)):=by kernel_rfl
theorem con91_ok:bf P 91 c91:=br C91 func91 (kC con41_ok (kC con129_ok kN)) fun args hp K h0=>by
 unfold c91 at h0
 dsimp only at h0
 obtain⟨b,p,rfl,h00⟩:=fu h0
 obtain⟨a0,a1,a2,rfl,_,h1⟩:=jP h00
 obtain⟨rfl,h2⟩:=dH h1
 obtain⟨columns,rfl,h3⟩:=bp h2
 obtain⟨kind,rfl,h4⟩:=bp h3
 obtain⟨h_b,h_columns,p0,p1,p2,hK⟩:=h4
 have h:ok (F.jE b p columns kind) (fun r=>K (.data aE r.1) [(1000000,.box [.data TBy b,dI r.2])]):=az (F.xC b p columns kind h_b h_columns p0 p1 p2) (hK _ rfl)
 refine⟨rfl,ann91,(L91 b p columns kind),(.dat aE),(bL (i0:=0) (by kernel_rfl) ?_),?_⟩
 ·rintro _ _ K ⟨hc0,v0,rfl,hv0,h⟩
  exact cast (lvc91_0 _ _ _ _ _ _ _).symm (cS h (fun m1 hm0 h=>(oC h (fun _ h=>(oC h (fun _ h=>⟨h_b,(oG h fun g1 h=>(oG h fun _ h=>(oG h fun _ h=>(oL h fun _ _ h=>(oG h fun _ h=>(oG h fun _ h=>(oC h (fun _ h=>⟨h_b,⟨g1,(oG h fun _ h=>(oG h fun _ h=>(oL h fun _ _ h=>(oC h (fun _ h=>h) fun _ h=>(aX (fun _ hm=>⟨hc0,hm⟩) hm0 _ rfl trivial h)))))⟩⟩) fun _ h=>(aX (fun _ hm=>⟨hc0,hm⟩) hm0 _ rfl trivial h))))))))⟩) fun _ h=>((cB h :) trivial))) fun _ h=>((cB h :) trivial))))
 ·rw[vc91]
  exact(cj (fun m hm=>⟨trivial,hm⟩) _ rfl trivial (aT h (fun e0 h hv0=>⟨h_b,⟨p0,(oG h fun _ h=>(oG h fun _ h=>(oL h fun _ _ h=>h)))⟩⟩) (fun q0 h=>h)))
def c42r (n_:Nat):Con:=⟨[.any,.dat TCS,.dat aC,.dat aC],fun args hp K=>hpR (fun b p=>CH (fun a0 a1 a2 a3=>mY a0 (ff TCS a1 fun columns=>ff aC a2 fun kind=>ff aC a3 fun deep=>(Sm TBy b)/\(Sm TCS columns)/\(M.aq b)/\(0<=p)/\(p+40 * (M.eB deep:Int)<=996000000000000)/\(deep<=3)/\(deep.toNat<n_)/\(LD (M.bG n_ b p columns kind deep) fun r=>K (.own 0 none) [(0,.arr .sh aE r.1),(1000000,.box [.data TBy b,dI r.2])]))) args []) hp,.plain,true⟩
abbrev C42 (n_:Nat):Ctx:=cx [(41,c41),(91,c91),(42,c42r n_)] 111 [] 0 false
def ann42:=an [[kp 15],[kp 65551],[kp 256],[kp 8388623],[kp 256],[kp 1099511627791],[kp 256],[kp 140737488355339],[kp 422212465065995],[kp 256],[.keep [0,1,3,47,67]],[kp 256],[.keep [0,1,3,77]],[kp 256],[kp 523],[kp 256]] []
theorem vc42 (n_:Nat) (b:LI) (p:Int) (columns:LC) (kind:Int) (deep:Int) (K:KA):vcT (C42 n_) aB ann42 f42 [.ptr 1000000 0,.data TCS columns,dI kind,dI deep] [(1000000,.box [.data TBy b,dI p])] .raw K =
 (cond ((decide (deep<Z1))==false) ((Sm TBy b)/\(M.aq b)/\(0<=p)/\(p<=1000000000000000)/\(LD (M.pick b p Z4) fun r1=>cond (decide (r1.1=Z0)) ((Sm TBy b)/\(Sm TCS columns)/\(M.aq b)/\(0<=r1.2)/\(r1.2<=997000000000000)/\(LD (M.dK b r1.2 columns kind) fun r2=>K (.own 0 none) [(0,.arr .sh aE [r2.1]),(1000000,.box [.data TBy b,dI r2.2])])) (cond (decide (kind=Z1)) ((Sm TBy b)/\(Sm TCS columns)/\(M.aq b)/\(0<=r1.2)/\(r1.2+40 * (M.eB (wrap64 (deep-Z1)):Int)<=996000000000000)/\((wrap64 (deep-Z1))<=3)/\((wrap64 (deep-Z1)).toNat<n_)/\(LD (M.bG n_ b r1.2 columns kind (wrap64 (deep-Z1))) fun r3=>(Sm TBy b)/\(Sm TCS columns)/\(M.aq b)/\(0<=r3.2)/\(r3.2<=997000000000000)/\(LD (M.dK b r3.2 columns kind) fun r4=>((r3.1.length+[r4.1].length) * 48<=lim)/\(((r3.1++[r4.1]).length+([(Z3,(Z0,((Z0,(Z0,((⟨#[]⟩:ByteArray),()))),())))]:List aE.D).length) * 48<=lim)/\K (.own 0 none) [(0,.arr .sh aE ((r3.1++[r4.1])++[(Z3,(Z0,((Z0,(Z0,((⟨#[]⟩:ByteArray),()))),())))])),(1000000,.box [.data TBy b,dI r4.2])]))) (cond (decide (kind=Z2)) ((Sm TBy b)/\(Sm TCS columns)/\(M.aq b)/\(0<=r1.2)/\(r1.2<=997000000000000)/\(LD (M.dK b r1.2 columns kind) fun r5=>K (.own 0 none) [(0,.arr .sh aE [r5.1]),(1000000,.box [.data TBy b,dI r5.2])])) ((Sm TBy b)/\(M.aq b)/\(0<=r1.2)/\(r1.2<=1000000000000000)/\(LD (M.pick b r1.2 Z6) fun r6=>cond (decide (r6.1=Z0)) ((Sm TBy b)/\(Sm TCS columns)/\(M.aq b)/\(0<=r6.2)/\(r6.2+40 * (M.eB (wrap64 (deep-Z1)):Int)<=996000000000000)/\((wrap64 (deep-Z1))<=3)/\((wrap64 (deep-Z1)).toNat<n_)/\(LD (M.bG n_ b r6.2 columns Z3 (wrap64 (deep-Z1))) fun r7=>(Sm TBy b)/\(Sm TCS columns)/\(M.aq b)/\(0<=r7.2)/\(r7.2+40 * (M.eB (wrap64 (deep-Z2)):Int)<=996000000000000)/\((wrap64 (deep-Z2))<=3)/\((wrap64 (deep-Z2)).toNat<n_)/\(LD (M.bG n_ b r7.2 columns Z3 (wrap64 (deep-Z2))) fun r8=>((r7.1.length+r8.1.length) * 48<=lim)/\(Sm TBy b)/\(M.aq b)/\(0<=r8.2)/\(r8.2<=1000000000000000)/\(LD (M.pick b r8.2 Z2) fun r9=>(((r7.1++r8.1).length+([(wrap64 (Z5+r9.1),(Z0,((Z0,(Z0,((⟨#[]⟩:ByteArray),()))),())))]:List aE.D).length) * 48<=lim)/\K (.own 0 none) [(0,.arr .sh aE ((r7.1++r8.1)++[(wrap64 (Z5+r9.1),(Z0,((Z0,(Z0,((⟨#[]⟩:ByteArray),()))),())))])),(1000000,.box [.data TBy b,dI r9.2])])))) (cond (decide (r6.1=Z1)) ((Sm TBy b)/\(Sm TCS columns)/\(M.aq b)/\(0<=r6.2)/\(r6.2+40 * (M.eB (wrap64 (deep-Z1)):Int)<=996000000000000)/\((wrap64 (deep-Z1))<=3)/\((wrap64 (deep-Z1)).toNat<n_)/\(LD (M.bG n_ b r6.2 columns Z3 (wrap64 (deep-Z1))) fun r10=>((r10.1.length+([((7:Int),(Z0,((Z0,(Z0,((⟨#[]⟩:ByteArray),()))),())))]:List aE.D).length) * 48<=lim)/\K (.own 0 none) [(0,.arr .sh aE (r10.1++[((7:Int),(Z0,((Z0,(Z0,((⟨#[]⟩:ByteArray),()))),())))])),(1000000,.box [.data TBy b,dI r10.2])])) (cond (decide (r6.1=Z2)) ((Sm TBy b)/\(M.aq b)/\(0<=r6.2)/\(r6.2<=1000000000000000)/\(LD (M.pick b r6.2 Z3) fun r11=>(Sm TBy b)/\(Sm TCS columns)/\(M.aq b)/\(0<=r11.2)/\(r11.2+40 * (M.eB (wrap64 (deep-Z1)):Int)<=996000000000000)/\((wrap64 (deep-Z1))<=3)/\((wrap64 (deep-Z1)).toNat<n_)/\(LD (M.bG n_ b r11.2 columns (wrap64 (Z1+r11.1)) (wrap64 (deep-Z1))) fun r12=>((r12.1.length+([((8:Int),(Z0,((Z0,(Z0,((⟨#[]⟩:ByteArray),()))),())))]:List aE.D).length) * 48<=lim)/\K (.own 0 none) [(0,.arr .sh aE (r12.1++[((8:Int),(Z0,((Z0,(Z0,((⟨#[]⟩:ByteArray),()))),())))])),(1000000,.box [.data TBy b,dI r12.2])]))) ((Sm TBy b)/\(M.aq b)/\(0<=r6.2)/\(r6.2<=1000000000000000)/\(LD (M.pick b r6.2 Z3) fun r13=>(Sm TBy b)/\(Sm TCS columns)/\(M.aq b)/\(0<=r13.2)/\(r13.2+40 * (M.eB (wrap64 (deep-Z1)):Int)<=996000000000000)/\((wrap64 (deep-Z1))<=3)/\((wrap64 (deep-Z1)).toNat<n_)/\(LD (M.bG n_ b r13.2 columns (wrap64 (Z1+r13.1)) (wrap64 (deep-Z1))) fun r14=>(Sm TBy b)/\(Sm TCS columns)/\(M.aq b)/\(0<=r14.2)/\(r14.2<=997000000000000)/\(LD (M.dK b r14.2 columns (wrap64 (Z1+r13.1))) fun r15=>((r14.1.length+[r15.1].length) * 48<=lim)/\(Sm TBy b)/\(M.aq b)/\(0<=r15.2)/\(r15.2<=1000000000000000)/\(LD (M.pick b r15.2 Z4) fun r16=>(((r14.1++[r15.1]).length+([(Z4,(wrap64 (Z1+r16.1),((Z0,(Z0,((⟨#[]⟩:ByteArray),()))),())))]:List aE.D).length) * 48<=lim)/\K (.own 0 none) [(0,.arr .sh aE ((r14.1++[r15.1])++[(Z4,(wrap64 (Z1+r16.1),((Z0,(Z0,((⟨#[]⟩:ByteArray),()))),())))])),(1000000,.box [.data TBy b,dI r16.2])]))))))))))))) ((Sm TBy b)/\(Sm TCS columns)/\(M.aq b)/\(0<=p)/\(p<=997000000000000)/\(LD (M.dK b p columns kind) fun r2=>K (.own 0 none) [(0,.arr .sh aE [r2.1]),(1000000,.box [.data TBy b,dI r2.2])]))):=by kernel_rfl
theorem con42r_ok:∀n_,bf P 42 (c42r n_)
 | 0=>br (cx [] 111 [] 0 false) func42 kN fun args hp K h0=>by
  unfold c42r at h0
  dsimp only at h0
  obtain⟨b,p,rfl,h00⟩:=fu h0
  obtain⟨a0,a1,a2,a3,rfl,_,h1⟩:=sR h00
  obtain⟨rfl,h2⟩:=dH h1
  obtain⟨columns,rfl,h3⟩:=bp h2
  obtain⟨kind,rfl,h4⟩:=bp h3
  obtain⟨deep,rfl,h5⟩:=bp h4
  obtain⟨h_b,h_columns,p0,p1,p2,p3,p4,_⟩:=h5
  exact absurd p4 (Nat.not_lt_zero _)
 | n_+1=>(fun ih=>br (C42 n_) func42 (kC con41_ok (kC con91_ok (kC ih kN))) fun args hp K h0=>by
  unfold c42r at h0
  dsimp only at h0
  obtain⟨b,p,rfl,h00⟩:=fu h0
  obtain⟨a0,a1,a2,a3,rfl,_,h1⟩:=sR h00
  obtain⟨rfl,h2⟩:=dH h1
  obtain⟨columns,rfl,h3⟩:=bp h2
  obtain⟨kind,rfl,h4⟩:=bp h3
  obtain⟨deep,rfl,h5⟩:=bp h4
  obtain⟨h_b,h_columns,p0,p1,p2,p3,p4,hK⟩:=h5
  have h:ok (F.lR n_ b p columns kind deep) (fun r=>K (.own 0 none) [(0,.arr .sh aE r.1),(1000000,.box [.data TBy b,dI r.2])]):=az (F.xO n_ b p columns kind deep h_b h_columns p0 p1 p2 p3 p4) (hK _ rfl)
  refine⟨rfl,ann42,aB,.raw,(aH (by kernel_rfl)),?_⟩
  ·rw[vc42]
   exact(oC h (fun _ h=>⟨h_b,⟨p0,⟨p1,(oG h fun _ h=>(oL h fun _ _ h=>(oC h (fun _ h=>⟨h_b,⟨h_columns,⟨p0,(oG h fun _ h=>(oG h fun _ h=>(oL h fun _ _ h=>h)))⟩⟩⟩) fun _ h=>(oC h (fun _ h=>⟨h_b,⟨h_columns,⟨p0,(oG h fun _ h=>(oG h fun _ h=>(oG h fun _ h=>(oG h fun _ h=>(oL h fun _ _ h=>⟨h_b,⟨h_columns,⟨p0,(oG h fun _ h=>(oG h fun _ h=>(oL h fun _ _ h=>(oG h fun _ h=>(oG h fun _ h=>h)))))⟩⟩⟩)))))⟩⟩⟩) fun _ h=>(oC h (fun _ h=>⟨h_b,⟨h_columns,⟨p0,(oG h fun _ h=>(oG h fun _ h=>(oL h fun _ _ h=>h)))⟩⟩⟩) fun _ h=>⟨h_b,⟨p0,(oG h fun _ h=>(oG h fun _ h=>(oL h fun _ _ h=>(oC h (fun _ h=>⟨h_b,⟨h_columns,⟨p0,(oG h fun _ h=>(oG h fun _ h=>(oG h fun _ h=>(oG h fun _ h=>(oL h fun _ _ h=>⟨h_b,⟨h_columns,⟨p0,(oG h fun _ h=>(oG h fun _ h=>(oG h fun _ h=>(oG h fun _ h=>(oL h fun _ _ h=>(oG h fun _ h=>⟨h_b,⟨p0,(oG h fun _ h=>(oG h fun _ h=>(oL h fun _ _ h=>(oG h fun _ h=>h))))⟩⟩))))))⟩⟩⟩)))))⟩⟩⟩) fun _ h=>(oC h (fun _ h=>⟨h_b,⟨h_columns,⟨p0,(oG h fun _ h=>(oG h fun _ h=>(oG h fun _ h=>(oG h fun _ h=>(oL h fun _ _ h=>(oG h fun _ h=>h))))))⟩⟩⟩) fun _ h=>(oC h (fun _ h=>⟨h_b,⟨p0,(oG h fun _ h=>(oG h fun _ h=>(oL h fun _ _ h=>⟨h_b,⟨h_columns,⟨p0,(oG h fun _ h=>(oG h fun _ h=>(oG h fun _ h=>(oG h fun _ h=>(oL h fun _ _ h=>(oG h fun _ h=>h))))))⟩⟩⟩)))⟩⟩) fun _ h=>⟨h_b,⟨p0,(oG h fun _ h=>(oG h fun _ h=>(oL h fun _ _ h=>⟨h_b,⟨h_columns,⟨p0,(oG h fun _ h=>(oG h fun _ h=>(oG h fun _ h=>(oG h fun _ h=>(oL h fun _ _ h=>⟨h_b,⟨h_columns,⟨p0,(oG h fun _ h=>(oG h fun _ h=>(oL h fun _ _ h=>(oG h fun _ h=>⟨h_b,⟨p0,(oG h fun _ h=>(oG h fun _ h=>(oL h fun _ _ h=>(oG h fun _ h=>h))))⟩⟩))))⟩⟩⟩)))))⟩⟩⟩)))⟩⟩))))))⟩⟩)))))⟩⟩⟩) fun _ h=>⟨h_b,⟨h_columns,⟨p0,⟨p1,(oG h fun _ h=>(oL h fun _ _ h=>h))⟩⟩⟩⟩)) (con42r_ok n_)
def c42:Con:=c42r 64
theorem con42_ok:bf P 42 c42:=con42r_ok 64
def c69:Con:=⟨[.dat aC,.dat aC,.dat aC],fun args hp K=>g3 (pD aC) (pD aC) (pD aC) (fun n low high=>K (dB (M.inR n low high)) []) args hp,.plain,false⟩
abbrev C69:Ctx:=cx [] 15 [] 0 false
def ann69:=an [[kp 7],[kp 64]] []
theorem vc69 (n:Int) (low:Int) (high:Int) (K:KA):vcT C69 aB ann69 f69 [dI n,dI low,dI high] [] (.dat Ty.bool) K =
 (cond ((decide (low<=n))==true) (K (dB (decide (n<=high))) []) (K (dB false) [])):=by kernel_rfl
theorem con69_ok:bf P 69 c69:=br C69 func69 kN fun args hp K h0=>by
 obtain⟨n,low,high,rfl,rfl,hK⟩:=g3e h0
 have h:ok (F.vK n low high) (fun r=>K (dB r) []):=az (F.BK n low high) hK
 refine⟨rfl,ann69,aB,(.dat Ty.bool),(aH (by kernel_rfl)),?_⟩
 ·rw[vc69]
  exact(oC h (fun _ h=>h) fun _ h=>h)
def c94:Con:=⟨[.dat TCS],fun args hp K=>g1 (pD TCS) (fun columns=>(Sm TCS columns)/\K (dB (M.bD columns)) []) args hp,.plain,false⟩
abbrev C94:Ctx:=cx [(69,c69)] 20 [] 0 false
def ann94:=an [[kp 1],[kp 9],[kp 137],[kp 9],[kp 65545],[kp 4],[kp 4]] [[kp 1]]
abbrev s94_0 (columns:LC) (i0:Int) (v0:Unit):St:=⟨[(0,.data TCS columns),(3,dI i0)],[]⟩
abbrev LP94_0 (columns:LC) (m:Nat) (st_:St) (K:KX):Prop:=True/\bX (t:=ag) (s94_0 columns) columns (F.gn columns) (fun v0:Unit=>True) (bg (fun v0:Unit=>True->K (.exit 0) (⟨[(0,.data TCS columns)],[]⟩:St)) (fun q0:Unit=>K .ret (⟨[(2,dB false)],[]⟩:St))) m st_
def L94 (columns:LC):bH:=lp1 0 (LP94_0 columns)
theorem vc94 (columns:LC) (K:KA):vcT C94 (L94 columns) ann94 f94 [.data TCS columns] [] (.dat Ty.bool) K =
 (∃m_,True/\bX (t:=ag) (s94_0 columns) columns (F.gn columns) (fun v0:Unit=>True) (bg (fun v0:Unit=>True->K (dB (decide ((columns.length:Int)<=Z4))) []) (fun q0:Unit=>K (dB false) [])) m_ (s94_0 columns Z0 ())):=by kernel_rfl
theorem lvc94_0 (columns:LC)  (i0:Int) (v0:Unit) (m:Nat) (K:KX):lvT C94 (L94 columns) ann94 f94 0 0 (s94_0 columns i0 v0) m K =
 (cond (decide (i0<(columns.length:Int))) ((0<=i0)/\(i0<(columns.length:Int))/\cond (!(M.inR (nC columns i0).1 Z1 Z3)) (K .ret (⟨[(2,dB false)],[]⟩:St)) (nxT (LP94_0 columns) m K (s94_0 columns (wrap64 (i0+Z1)) ()))) (K (.exit 0) (⟨[(0,.data TCS columns)],[]⟩:St))):=by kernel_rfl
theorem con94_ok:bf P 94 c94:=br C94 func94 (kC con69_ok kN) fun args hp K h0=>by
 obtain⟨columns,rfl,rfl,h_columns,hK⟩:=g1e h0
 have h:ok (F.mq columns) (fun r=>K (dB r) []):=az (F.tF columns h_columns) hK
 refine⟨rfl,ann94,(L94 columns),(.dat Ty.bool),(bL (i0:=0) (by kernel_rfl) ?_),?_⟩
 ·rintro _ _ K ⟨hc0,i0,v0,rfl,hl0,rfl,hv0,h⟩
  exact cast (lvc94_0 _ _ _ _ _).symm (bB (t:=ag) hl0 h (fun ht0 h=>⟨hl0,⟨ht0,(oC h (fun _ h=>h) fun _ h=>(aZ (t:=ag) (fun _ hm=>⟨hc0,hm⟩) _ rfl hl0 ht0 (bz h_columns) trivial h))⟩⟩) fun h=>(h trivial))
 ·rw[vc94]
  exact(bn (t:=ag) (fun m hm=>⟨trivial,hm⟩) _ rfl trivial (aT h (fun v0 h hv0=>h) (fun q0 h=>h)))
def c180:Con:=⟨[.dat Ty.str],fun args hp K=>g1 (pD Ty.str) (fun s=>(Sm Ty.str s)/\K (dB (M.text s)) []) args hp,.plain,false⟩
abbrev C180:Ctx:=cx [] 23 [] 0 false
def ann180:=an [[kp 1],[kp 9],[kp 137],[kp 9],[kp 524297],[kp 4],[kp 4]] [[kp 1]]
abbrev s180_0 (s:ByteArray) (i0:Int) (v0:Unit):St:=⟨[(0,.data Ty.str s),(3,dI i0)],[]⟩
abbrev LP180_0 (s:ByteArray) (m:Nat) (st_:St) (K:KX):Prop:=True/\cm (s180_0 s) Z0 (s.size:Int) (F.jh s) (fun v0:Unit=>True) (bg (fun v0:Unit=>True->K (.exit 0) (⟨[(0,.data Ty.str s)],[]⟩:St)) (fun q0:Unit=>K .ret (⟨[(2,dB false)],[]⟩:St))) m st_
def L180 (s:ByteArray):bH:=lp1 0 (LP180_0 s)
theorem vc180 (s:ByteArray) (K:KA):vcT C180 (L180 s) ann180 f180 [.data Ty.str s] [] (.dat Ty.bool) K =
 (∃m_,True/\cm (s180_0 s) Z0 (s.size:Int) (F.jh s) (fun v0:Unit=>True) (bg (fun v0:Unit=>True->K (dB (decide ((s.size:Int)<=Z6))) []) (fun q0:Unit=>K (dB false) [])) m_ (s180_0 s Z0 ())):=by kernel_rfl
theorem lvc180_0 (s:ByteArray)  (i0:Int) (v0:Unit) (m:Nat) (K:KX):lvT C180 (L180 s) ann180 f180 0 0 (s180_0 s i0 v0) m K =
 (cond (decide (i0<(s.size:Int))) ((0<=i0)/\(i0<(s.size:Int))/\cond ((decide (((s.get! i0.toNat).toNat:Int)<(97:Int)))==false) ((0<=i0)/\(i0<(s.size:Int))/\cond (decide ((122:Int)<((s.get! i0.toNat).toNat:Int))) (K .ret (⟨[(2,dB false)],[]⟩:St)) (nxT (LP180_0 s) m K (s180_0 s (wrap64 (i0+Z1)) ()))) (K .ret (⟨[(2,dB false)],[]⟩:St))) (K (.exit 0) (⟨[(0,.data Ty.str s)],[]⟩:St))):=by kernel_rfl
theorem con180_ok:bf P 180 c180:=br C180 func180 kN fun args hp K h0=>by
 obtain⟨s,rfl,rfl,h_s,hK⟩:=g1e h0
 have h:ok (F.qK s) (fun r=>K (dB r) []):=az (F.yw s h_s) hK
 refine⟨rfl,ann180,(L180 s),(.dat Ty.bool),(bL (i0:=0) (by kernel_rfl) ?_),?_⟩
 ·rintro _ _ K ⟨hc0,i0,v0,rfl,hl0,rfl,hv0,h⟩
  exact cast (lvc180_0 _ _ _ _ _).symm (bM h (fun ht0 h=>⟨hl0,⟨ht0,(oC h (fun _ h=>⟨hl0,⟨ht0,(oC h (fun _ h=>h) fun _ h=>(aN (fun _ hm=>⟨hc0,hm⟩) _ rfl hl0 fS ht0 (IF h_s) trivial h))⟩⟩) fun _ h=>h)⟩⟩) fun h=>(h trivial))
 ·rw[vc180]
  exact(bA (fun m hm=>⟨trivial,hm⟩) Z0 _ rfl (Int.natCast_nonneg 0) trivial (aT h (fun v0 h hv0=>h) (fun q0 h=>h)))
def c137:Con:=⟨[.dat af],fun args hp K=>g1 (pD af) (fun v=>(Sm af v)/\K (dB (M.aR v)) []) args hp,.plain,false⟩
abbrev C137:Ctx:=cx [(69,c69),(180,c180)] 45 [] 0 false
def ann137:=an [[.fixRow 1 af,kp 2],[kp 18],[kp 50],[kp 4],[kp 32786],[kp 4],[kp 33554450],[kp 4],[.keep [1,35]],[kp 4],[kp 4]] []
theorem vc137 (v:af.D) (K:KA):vcT C137 aB ann137 f137 [.data af v] [] (.dat Ty.bool) K =
 (cond (decide (v.1=Z0)) (cond ((decide (v.2.1=Z0))==true) (K (dB (decide (v.2.2.1=(⟨#[]⟩:ByteArray)))) []) (K (dB false) [])) (cond (decide (v.1=Z1)) (cond ((M.inR v.2.1 (-9999:Int) (9999:Int))==true) (K (dB (decide (v.2.2.1=(⟨#[]⟩:ByteArray)))) []) (K (dB false) [])) (cond (decide (v.1=Z2)) (cond ((decide (v.2.1=Z0))==true) ((Sm Ty.str v.2.2.1)/\K (dB (M.text v.2.2.1)) []) (K (dB false) [])) (cond (decide (v.1=Z3)) (cond ((M.inR v.2.1 Z0 Z1)==true) (K (dB (decide (v.2.2.1=(⟨#[]⟩:ByteArray)))) []) (K (dB false) [])) (K (dB false) []))))):=by kernel_rfl
theorem con137_ok:bf P 137 c137:=br C137 func137 (kC con69_ok (kC con180_ok kN)) fun args hp K h0=>by
 obtain⟨v,rfl,rfl,h_v,hK⟩:=g1e h0
 have h:ok (F.pG v) (fun r=>K (dB r) []):=az (F.xJ v h_v) hK
 refine⟨rfl,ann137,aB,(.dat Ty.bool),(aH (by kernel_rfl)),?_⟩
 ·rw[vc137]
  exact(oC h (fun _ h=>(oC h (fun _ h=>h) fun _ h=>h)) fun _ h=>(oC h (fun _ h=>(oC h (fun _ h=>h) fun _ h=>h)) fun _ h=>(oC h (fun _ h=>(oC h (fun _ h=>⟨h_v.2.2.1,h⟩) fun _ h=>h)) fun _ h=>(oC h (fun _ h=>(oC h (fun _ h=>h) fun _ h=>h)) fun _ h=>h))))
def c95:Con:=⟨[.dat TCS,.mv,.dat aE],fun args hp K=>hpN 0 .sh aC (fun kinds=>wO (fun a0 a1 a2=>ff TCS a0 fun columns=>FB 0 a1 (ff aE a2 fun p=>(Sm TCS columns)/\(Sm (Ty.sl aC) kinds)/\(Sm aE p)/\(kinds.length<=1000)/\(LD (M.vX columns kinds p) fun r=>K (.tup [.own 0 none,dB r.2]) [(0,.arr .sh aC r.1)]))) args []) hp,.mv,false⟩
abbrev C95:Ctx:=cx [(69,c69),(137,c137)] 191 [] 0 true
def ann95:=an [[.fixRow 5 aE,kp 35],[kp 291],[kp 137438953763],[kp 192],[kp 1099511628067],[kp 3298534883619],[.keep [1,5,52]],[kp 192],[kp 192],[kp 1152922604118475043],[.keep [0,1,5,68]],[kp 192],[kp 192],[.keep [1,5,8,40,79]],[kp 770],[kp 192],[.keep [1,5,8,40,107]],[kp 1282],[kp 192],[.keep [1,8,40,137]],[.keep [1,8,40,137]],[kp 2306],[kp 192],[.keep [1,8,40,166]],[kp 192],[.keep [1,8,179]],[kp 192],[kp 192]] []
abbrev S95_0 (columns:LC) (kinds:LI) (p:aE.D) (K:KA):Prop:=(0<=Z0)/\(Z0<=(bI (wrap64 ((kinds.length:Int)-Z2)) Z0))/\((bI (wrap64 ((kinds.length:Int)-Z2)) Z0)<=(kinds.length:Int))/\((bI (wrap64 ((kinds.length:Int)-Z2)) Z0)=(bI (wrap64 ((kinds.length:Int)-Z2)) Z0))/\(Z0=0)/\(((bI (wrap64 ((kinds.length:Int)-Z2)) Z0).toNat+[Z1].length) * 8<=lim)/\K (.tup [.own 0 none,dB false]) [(0,.arr .sh aC (kinds.take (bI (wrap64 ((kinds.length:Int)-Z2)) Z0).toNat++[Z1]))]
abbrev S95_1 (columns:LC) (kinds:LI) (p:aE.D) (K:KA):Prop:=(0<=Z0)/\(Z0<=(bI (wrap64 ((kinds.length:Int)-Z2)) Z0))/\((bI (wrap64 ((kinds.length:Int)-Z2)) Z0)<=(kinds.length:Int))/\((bI (wrap64 ((kinds.length:Int)-Z2)) Z0)=(bI (wrap64 ((kinds.length:Int)-Z2)) Z0))/\(Z0=0)/\(((bI (wrap64 ((kinds.length:Int)-Z2)) Z0).toNat+[Z3].length) * 8<=lim)/\K (.tup [.own 0 none,dB false]) [(0,.arr .sh aC (kinds.take (bI (wrap64 ((kinds.length:Int)-Z2)) Z0).toNat++[Z3]))]
abbrev S95_2 (columns:LC) (kinds:LI) (p:aE.D) (K:KA):Prop:=(S95_1 columns kinds p K)
abbrev S95_3 (columns:LC) (kinds:LI) (p:aE.D) (K:KA):Prop:=cond ((decide (Z1<(kinds.length:Int)))==true) ((0<=wrap64 ((kinds.length:Int)-Z1))/\(wrap64 ((kinds.length:Int)-Z1)<(kinds.length:Int))/\cond ((decide ((nI kinds (wrap64 ((kinds.length:Int)-Z1)))=Z3))==true) ((0<=wrap64 ((kinds.length:Int)-Z2))/\(wrap64 ((kinds.length:Int)-Z2)<(kinds.length:Int))/\(0<=Z0)/\(Z0<=(bI (wrap64 ((kinds.length:Int)-Z2)) Z0))/\((bI (wrap64 ((kinds.length:Int)-Z2)) Z0)<=(kinds.length:Int))/\((bI (wrap64 ((kinds.length:Int)-Z2)) Z0)=(bI (wrap64 ((kinds.length:Int)-Z2)) Z0))/\(Z0=0)/\(((bI (wrap64 ((kinds.length:Int)-Z2)) Z0).toNat+[Z3].length) * 8<=lim)/\K (.tup [.own 0 none,dB (decide ((nI kinds (wrap64 ((kinds.length:Int)-Z2)))=Z3))]) [(0,.arr .sh aC (kinds.take (bI (wrap64 ((kinds.length:Int)-Z2)) Z0).toNat++[Z3]))]) (S95_2 columns kinds p K)) (S95_2 columns kinds p K)
abbrev S95_4 (columns:LC) (kinds:LI) (p:aE.D) (K:KA):Prop:=cond (decide (p.1=(7:Int))) (cond ((decide (Z0<(kinds.length:Int)))==true) ((0<=wrap64 ((kinds.length:Int)-Z1))/\(wrap64 ((kinds.length:Int)-Z1)<(kinds.length:Int))/\K (.tup [.own 0 none,dB (decide ((nI kinds (wrap64 ((kinds.length:Int)-Z1)))=Z3))]) [(0,.arr .sh aC kinds)]) (K (.tup [.own 0 none,dB false]) [(0,.arr .sh aC kinds)])) (cond (decide (p.1=(8:Int))) ((0<=Z0)/\(Z0<=(bI (wrap64 ((kinds.length:Int)-Z1)) Z0))/\((bI (wrap64 ((kinds.length:Int)-Z1)) Z0)<=(kinds.length:Int))/\((bI (wrap64 ((kinds.length:Int)-Z1)) Z0)=(bI (wrap64 ((kinds.length:Int)-Z1)) Z0))/\(Z0=0)/\(((bI (wrap64 ((kinds.length:Int)-Z1)) Z0).toNat+[Z3].length) * 8<=lim)/\K (.tup [.own 0 none,dB (decide (Z0<(kinds.length:Int)))]) [(0,.arr .sh aC (kinds.take (bI (wrap64 ((kinds.length:Int)-Z1)) Z0).toNat++[Z3]))]) (K (.tup [.own 0 none,dB false]) [(0,.arr .sh aC kinds)]))
abbrev S95_5 (columns:LC) (kinds:LI) (p:aE.D) (K:KA):Prop:=cond (decide (p.1=Z1)) ((Sm af p.2.2.1)/\cond ((!(M.aR p.2.2.1))==false) (cond (decide (p.2.2.1.1=Z0)) (K (.tup [.own 0 none,dB false]) [(0,.arr .sh aC kinds)]) (((kinds.length+[p.2.2.1.1].length) * 8<=lim)/\K (.tup [.own 0 none,dB true]) [(0,.arr .sh aC (kinds++[p.2.2.1.1]))])) (K (.tup [.own 0 none,dB false]) [(0,.arr .sh aC kinds)])) (cond (decide (p.1=Z2)) (cond (!(M.inR p.2.1 Z0 (wrap64 ((columns.length:Int)-Z1)))) (K (.tup [.own 0 none,dB false]) [(0,.arr .sh aC kinds)]) ((0<=p.2.1)/\(p.2.1<(columns.length:Int))/\((kinds.length+[(nC columns p.2.1).1].length) * 8<=lim)/\K (.tup [.own 0 none,dB true]) [(0,.arr .sh aC (kinds++[(nC columns p.2.1).1]))])) (cond (decide (p.1=Z3)) (cond ((decide (Z1<(kinds.length:Int)))==true) ((0<=wrap64 ((kinds.length:Int)-Z1))/\(wrap64 ((kinds.length:Int)-Z1)<(kinds.length:Int))/\cond ((decide ((nI kinds (wrap64 ((kinds.length:Int)-Z1)))=Z1))==true) ((0<=wrap64 ((kinds.length:Int)-Z2))/\(wrap64 ((kinds.length:Int)-Z2)<(kinds.length:Int))/\(0<=Z0)/\(Z0<=(bI (wrap64 ((kinds.length:Int)-Z2)) Z0))/\((bI (wrap64 ((kinds.length:Int)-Z2)) Z0)<=(kinds.length:Int))/\((bI (wrap64 ((kinds.length:Int)-Z2)) Z0)=(bI (wrap64 ((kinds.length:Int)-Z2)) Z0))/\(Z0=0)/\(((bI (wrap64 ((kinds.length:Int)-Z2)) Z0).toNat+[Z1].length) * 8<=lim)/\K (.tup [.own 0 none,dB (decide ((nI kinds (wrap64 ((kinds.length:Int)-Z2)))=Z1))]) [(0,.arr .sh aC (kinds.take (bI (wrap64 ((kinds.length:Int)-Z2)) Z0).toNat++[Z1]))]) (S95_0 columns kinds p K)) (S95_0 columns kinds p K)) (cond (decide (p.1=Z4)) (cond ((decide (Z1<(kinds.length:Int)))==true) ((0<=wrap64 ((kinds.length:Int)-Z1))/\(wrap64 ((kinds.length:Int)-Z1)<(kinds.length:Int))/\(0<=wrap64 ((kinds.length:Int)-Z2))/\(wrap64 ((kinds.length:Int)-Z2)<(kinds.length:Int))/\cond ((decide ((nI kinds (wrap64 ((kinds.length:Int)-Z1)))=(nI kinds (wrap64 ((kinds.length:Int)-Z2)))))==true) ((0<=Z0)/\(Z0<=(bI (wrap64 ((kinds.length:Int)-Z2)) Z0))/\((bI (wrap64 ((kinds.length:Int)-Z2)) Z0)<=(kinds.length:Int))/\((bI (wrap64 ((kinds.length:Int)-Z2)) Z0)=(bI (wrap64 ((kinds.length:Int)-Z2)) Z0))/\(Z0=0)/\(((bI (wrap64 ((kinds.length:Int)-Z2)) Z0).toNat+[Z3].length) * 8<=lim)/\K (.tup [.own 0 none,dB (M.inR p.2.1 Z1 Z4)]) [(0,.arr .sh aC (kinds.take (bI (wrap64 ((kinds.length:Int)-Z2)) Z0).toNat++[Z3]))]) (S95_2 columns kinds p K)) (S95_2 columns kinds p K)) (cond (decide (p.1=Z5)) (cond (decide (p.1=Z5)) (S95_3 columns kinds p K) (S95_4 columns kinds p K)) (cond (decide (p.1=Z6)) (S95_3 columns kinds p K) (S95_4 columns kinds p K))))))
abbrev S95_6 (columns:LC) (kinds:LI) (p:aE.D) (K:KA):Prop:=cond ((!decide (p.1=Z2))==true) (cond ((!decide (p.1=Z4))==true) (cond (!decide (p.2.1=Z0)) (K (.tup [.own 0 none,dB false]) [(0,.arr .sh aC kinds)]) (S95_5 columns kinds p K)) (S95_5 columns kinds p K)) (S95_5 columns kinds p K)
theorem vc95 (columns:LC) (kinds:LI) (p:aE.D) (K:KA):vcT C95 aB ann95 f95 [.data TCS columns,.own 0 none,.data aE p] [(0,.arr .sh aC kinds)] .raw K =
 (cond ((!decide (p.1=Z1))==true) (cond ((!(Ty.beq af p.2.2.1 (Z0,(Z0,((⟨#[]⟩:ByteArray),())))))==false) (S95_6 columns kinds p K) (K (.tup [.own 0 none,dB false]) [(0,.arr .sh aC kinds)])) (S95_6 columns kinds p K)):=by kernel_rfl
theorem con95_ok:bf P 95 c95:=br C95 func95 (kC con69_ok (kC con137_ok kN)) fun args hp K h0=>by
 unfold c95 at h0
 dsimp only at h0
 obtain⟨kinds,rfl,h00⟩:=rC (n:=0) (d:=.sh) (t:=aC) h0
 obtain⟨a0,a1,a2,rfl,_,h1⟩:=jP h00
 obtain⟨columns,rfl,h2⟩:=bp h1
 obtain⟨rfl,h3⟩:=yY h2
 obtain⟨p,rfl,h4⟩:=bp h3
 obtain⟨h_columns,h_kinds,h_p,p0,hK⟩:=h4
 have h:ok (F.kO columns kinds p) (fun r=>K (.tup [.own 0 none,dB r.2]) [(0,.arr .sh aC r.1)]):=az (F.yl columns kinds p h_columns h_kinds h_p p0) (hK _ rfl)
 refine⟨rfl,ann95,aB,.raw,(aH (by kernel_rfl)),?_⟩
 ·rw[vc95]
  exact(oC h (fun b_1 h=>(oC h (fun _ h=>(oC h (fun b_3 h=>(oC h (fun b_4 h=>(oC h (fun _ h=>h) fun _ h=>(dZ (bnt (bet b_1)) (dZ (bnt (bet b_3)) (oC h (fun _ h=>(oC h (fun _ h=>(oG h fun _ h=>(oG h fun _ h=>(oC h (fun _ h=>(oG h fun _ h=>(oG h fun _ h=>⟨(Int.natCast_nonneg 0),(oG h fun _ h=>(oG h fun _ h=>⟨rfl,⟨rfl,(oG h fun _ h=>h)⟩⟩))⟩))) fun _ h=>⟨(Int.natCast_nonneg 0),(oG h fun _ h=>(oG h fun _ h=>⟨rfl,⟨rfl,(oG h fun _ h=>h)⟩⟩))⟩)))) fun _ h=>⟨(Int.natCast_nonneg 0),(oG h fun _ h=>(oG h fun _ h=>⟨rfl,⟨rfl,(oG h fun _ h=>h)⟩⟩))⟩)) fun _ h=>(dZ (bnt (bet b_4)) (oC h (fun b_25 h=>(bE b_25 (oC h (fun _ h=>(oG h fun _ h=>(oG h fun _ h=>(oC h (fun _ h=>(oG h fun _ h=>(oG h fun _ h=>⟨(Int.natCast_nonneg 0),(oG h fun _ h=>(oG h fun _ h=>⟨rfl,⟨rfl,(oG h fun _ h=>h)⟩⟩))⟩))) fun _ h=>⟨(Int.natCast_nonneg 0),(oG h fun _ h=>(oG h fun _ h=>⟨rfl,⟨rfl,(oG h fun _ h=>h)⟩⟩))⟩)))) fun _ h=>⟨(Int.natCast_nonneg 0),(oG h fun _ h=>(oG h fun _ h=>⟨rfl,⟨rfl,(oG h fun _ h=>h)⟩⟩))⟩))) fun _ h=>(oC h (fun _ h=>(oC h (fun _ h=>(oG h fun _ h=>(oG h fun _ h=>(oC h (fun _ h=>(oG h fun _ h=>(oG h fun _ h=>⟨(Int.natCast_nonneg 0),(oG h fun _ h=>(oG h fun _ h=>⟨rfl,⟨rfl,(oG h fun _ h=>h)⟩⟩))⟩))) fun _ h=>⟨(Int.natCast_nonneg 0),(oG h fun _ h=>(oG h fun _ h=>⟨rfl,⟨rfl,(oG h fun _ h=>h)⟩⟩))⟩)))) fun _ h=>⟨(Int.natCast_nonneg 0),(oG h fun _ h=>(oG h fun _ h=>⟨rfl,⟨rfl,(oG h fun _ h=>h)⟩⟩))⟩)) fun _ h=>(oC h (fun _ h=>(oC h (fun _ h=>(oG h fun _ h=>(oG h fun _ h=>h))) fun _ h=>h)) fun _ h=>(oC h (fun _ h=>⟨(Int.natCast_nonneg 0),(oG h fun _ h=>(oG h fun _ h=>⟨rfl,⟨rfl,(oG h fun _ h=>h)⟩⟩))⟩) fun _ h=>h)))))))))) fun b_4 h=>(dZ (bnt (bet b_1)) (dZ (bnt (bet b_3)) (dZ (cH (bnf (bef b_4)) (by decide)) (bE (bnf (bef b_4)) (oC h (fun _ h=>(oG h fun _ h=>(oG h fun _ h=>(oG h fun _ h=>(oG h fun _ h=>(oC h (fun _ h=>⟨(Int.natCast_nonneg 0),(oG h fun _ h=>(oG h fun _ h=>⟨rfl,⟨rfl,(oG h fun _ h=>h)⟩⟩))⟩) fun _ h=>⟨(Int.natCast_nonneg 0),(oG h fun _ h=>(oG h fun _ h=>⟨rfl,⟨rfl,(oG h fun _ h=>h)⟩⟩))⟩)))))) fun _ h=>⟨(Int.natCast_nonneg 0),(oG h fun _ h=>(oG h fun _ h=>⟨rfl,⟨rfl,(oG h fun _ h=>h)⟩⟩))⟩))))))) fun b_3 h=>(dZ (bnt (bet b_1)) (bE (bnf (bef b_3)) (oC h (fun _ h=>h) fun b_110 h=>⟨(gj (bnf b_110)),⟨(ov (bnf b_110)),⟨(qa h_kinds (GS trivial) rfl),h⟩⟩⟩))))) fun _ h=>h)) fun b_1 h=>(bE (uet (unt (cH (bnf (bef b_1)) (by decide)))) (bE (uet (unt (cH (bnf (bef b_1)) (by decide)))) (oC h (fun _ h=>h) fun _ h=>(bE (bnf (bef b_1)) ⟨h_p.2.2.1,(oC h (fun _ h=>(oC h (fun _ h=>h) fun _ h=>⟨(qa h_kinds (GS trivial) rfl),h⟩)) fun _ h=>h)⟩)))))
def c46:Con:=⟨[.dat TCS,.dat TPS],fun args hp K=>g2 (pD TCS) (pD TPS) (fun columns e=>(Sm TCS columns)/\(Sm TPS e)/\K (dI (M.cW columns e)) []) args hp,.plain,false⟩
abbrev C46:Ctx:=cx [(94,c94),(95,c95)] 46 [] 0 false
def ann46:=an [[kp 3],[kp 32771],[kp 16],[kp 35],[kp 99],[kp 227],[kp 8388835],[kp 227],[kp 227],[.keep [5,42]],[kp 16],[kp 16]] [[kp 96]]
abbrev s46_0 (columns:LC) (e:LPt) (v0:Bool×Int×LI):St:=⟨[(0,.data TCS columns),(1,.data TPS e),(5,.own 16 none),(6,dB v0.1),(7,dI v0.2.1)],[(16,.arr .sh aC v0.2.2)]⟩
abbrev LP46_0 (columns:LC) (e:LPt) (m:Nat) (st_:St) (K:KX):Prop:=True/\ep (s46_0 columns e) (F.cX columns e) (fun v0:Bool×Int×LI=>True) (fun e0:Bool×LI=>True->K (.exit 0) (⟨[(5,.own 16 none),(6,dB e0.1)],[(16,.arr .sh aC e0.2)]⟩:St)) m st_
def L46 (columns:LC) (e:LPt):bH:=lp1 0 (LP46_0 columns e)
theorem vc46 (columns:LC) (e:LPt) (K:KA):vcT C46 (L46 columns e) ann46 f46 [.data TCS columns,.data TPS e] [] (.dat aC) K =
 ((Sm TCS columns)/\cond ((!(M.bD columns))==false) (cond (decide ((12:Int)<(e.length:Int))) (K (dI (-1:Int)) []) (∃m_,True/\ep (s46_0 columns e) (F.cX columns e) (fun v0:Bool×Int×LI=>True) (fun e0:Bool×LI=>True->cond ((!e0.1)==false) (cond (!decide ((e0.2.length:Int)=Z1)) (K (dI (-1:Int)) []) ((0<=Z0)/\(Z0<(e0.2.length:Int))/\K (dI (nI e0.2 Z0)) [])) (K (dI (-1:Int)) [])) m_ (s46_0 columns e (true,Z0,[])))) (K (dI (-1:Int)) [])):=by kernel_rfl
theorem lvc46_0 (columns:LC) (e:LPt)  (v0:Bool×Int×LI) (m:Nat) (K:KX):lvT C46 (L46 columns e) ann46 f46 0 0 (s46_0 columns e v0) m K =
 (cond ((decide (v0.2.1<(e.length:Int)))==true) (cond v0.1 ((0<=v0.2.1)/\(v0.2.1<(e.length:Int))/\(Sm TCS columns)/\(Sm (Ty.sl aC) v0.2.2)/\(Sm aE (nP e v0.2.1))/\(v0.2.2.length<=1000)/\(LD (M.vX columns v0.2.2 (nP e v0.2.1)) fun r1=>(nxT (LP46_0 columns e) m K (s46_0 columns e (r1.2,wrap64 (v0.2.1+Z1),r1.1))))) (K (.exit 0) (⟨[(5,.own 16 none),(6,dB v0.1)],[(16,.arr .sh aC v0.2.2)]⟩:St))) (K (.exit 0) (⟨[(5,.own 16 none),(6,dB v0.1)],[(16,.arr .sh aC v0.2.2)]⟩:St))):=by kernel_rfl
theorem con46_ok:bf P 46 c46:=br C46 func46 (kC con94_ok (kC con95_ok kN)) fun args hp K h0=>by
 obtain⟨columns,e,rfl,rfl,h_columns,h_e,hK⟩:=g2e h0
 have h:ok (F.nL columns e) (fun r=>K (dI r) []):=az (F.wj columns e h_columns h_e) hK
 refine⟨rfl,ann46,(L46 columns e),(.dat aC),(bL (i0:=0) (by kernel_rfl) ?_),?_⟩
 ·rintro _ _ K ⟨hc0,v0,rfl,hv0,h⟩
  exact cast (lvc46_0 _ _ _ _ _).symm (cS h (fun m1 hm0 h=>(oC h (fun _ h=>(oC h (fun _ h=>(oG h fun _ h=>(oG h fun _ h=>⟨h_columns,(oG h fun _ h=>⟨(aQ h_e v0.2.1),(oG h fun _ h=>(oL h fun _ _ h=>(aX (fun _ hm=>⟨hc0,hm⟩) hm0 _ rfl trivial h)))⟩)⟩))) fun _ h=>((cB h :) trivial))) fun _ h=>((cB h :) trivial))))
 ·rw[vc46]
  exact⟨h_columns,(oC h (fun _ h=>(oC h (fun _ h=>h) fun _ h=>(cj (fun m hm=>⟨trivial,hm⟩) _ rfl trivial (gA h (fun e0 h hv0=>(oC h (fun _ h=>(oC h (fun _ h=>h) fun _ h=>⟨(Int.natCast_nonneg 0),(oG h fun _ h=>h)⟩)) fun _ h=>h)))))) fun _ h=>h)⟩
def c177:Con:=⟨[.dat ah],fun args hp K=>g1 (pD ah) (fun s=>(Sm ah s)/\K (dB (M.bJ s)) []) args hp,.plain,false⟩
abbrev C177:Ctx:=cx [] 68 [] 0 false
def ann177:=an [[.fixRow 1 ah,kp 2],[kp 10],[kp 26],[kp 58],[kp 4]] []
abbrev S177_0 (s:ah.D) (K:KA):Prop:=cond ((decide (s.1=Z3))==false) (K (dB (decide ((s.2.2.2.2.2.1.length:Int)=Z0))) []) (K (dB true) [])
abbrev S177_1 (s:ah.D) (K:KA):Prop:=cond ((decide (s.1=Z4))==false) (cond ((decide ((s.2.2.2.2.1.length:Int)=Z0))==true) (S177_0 s K) (K (dB false) [])) (S177_0 s K)
abbrev S177_2 (s:ah.D) (K:KA):Prop:=cond ((decide (s.1=Z1))==false) (cond ((decide (s.2.2.2.1=Z0))==true) (S177_1 s K) (K (dB false) [])) (S177_1 s K)
abbrev S177_3 (s:ah.D) (K:KA):Prop:=cond ((decide (s.1=Z5))==false) (cond ((decide (s.2.2.1=Z0))==true) (S177_2 s K) (K (dB false) [])) (S177_2 s K)
abbrev S177_4 (s:ah.D) (K:KA):Prop:=cond ((decide (s.1=Z1))==false) (cond ((decide (s.2.2.2.1=Z0))==true) (S177_0 s K) (K (dB false) [])) (S177_0 s K)
abbrev S177_5 (s:ah.D) (K:KA):Prop:=cond ((decide (s.1=Z5))==false) (cond ((decide (s.2.2.1=Z0))==true) (S177_4 s K) (K (dB false) [])) (S177_4 s K)
theorem vc177 (s:ah.D) (K:KA):vcT C177 aB ann177 f177 [.data ah s] [] (.dat Ty.bool) K =
 (cond ((decide (s.1=Z4))==false) (cond ((decide (s.1=Z2))==false) (cond ((!(decide (s.1=Z1)))==false) (cond ((decide (s.2.1=Z0))==true) (S177_3 s K) (K (dB false) [])) (S177_3 s K)) (cond ((!(decide (s.1=Z1)))==false) (cond ((decide (s.2.1=Z0))==true) (S177_5 s K) (K (dB false) [])) (S177_5 s K))) (cond ((decide (s.1=Z2))==false) (cond ((!(decide (s.1=Z1)))==false) (cond ((decide (s.2.1=Z0))==true) (S177_2 s K) (K (dB false) [])) (S177_2 s K)) (cond ((!(decide (s.1=Z1)))==false) (cond ((decide (s.2.1=Z0))==true) (S177_4 s K) (K (dB false) [])) (S177_4 s K)))):=by kernel_rfl
theorem con177_ok:bf P 177 c177:=br C177 func177 kN fun args hp K h0=>by
 obtain⟨s,rfl,rfl,h_s,hK⟩:=g1e h0
 have h:ok (F.oh s) (fun r=>K (dB r) []):=az (F.vC s h_s) hK
 refine⟨rfl,ann177,aB,(.dat Ty.bool),(aH (by kernel_rfl)),?_⟩
 ·rw[vc177]
  exact(oC h (fun b_1 h=>(oC h (fun _ h=>(oC h (fun b_3 h=>(oC h (fun _ h=>(bE (ugt (cH (bnf (bgt b_3)) (by decide))) (oC h (fun _ h=>(dZ (ugf (bnf (bgt b_3))) (bE (ugt (bgt b_1)) (oC h (fun _ h=>(bE (ugt (cH (bnf (bgt b_3)) (by decide))) h)) fun _ h=>h)))) fun _ h=>h))) fun _ h=>h)) fun b_3 h=>(oC h (fun _ h=>(oC h (fun _ h=>(bE (ugt (bnt (bgf b_3))) (oC h (fun _ h=>(bE (ugt (bgt b_1)) (oC h (fun _ h=>(oC h (fun _ h=>h) fun _ h=>h)) fun _ h=>h))) fun _ h=>h))) fun _ h=>h)) fun b_27 h=>(bE (ugt (bnt (bgf b_3))) (oC h (fun _ h=>(bE (ugt (bgt b_1)) (oC h (fun _ h=>(bE (ugt (cH (bgf b_27) (by decide))) h)) fun _ h=>h))) fun _ h=>h))))) fun b_2 h=>(dZ (ugf (unt (cH (bgf b_2) (by decide)))) (bE (ugt (cH (bgf b_2) (by decide))) (oC h (fun _ h=>(bE (ugt (cH (bgf b_2) (by decide))) (oC h (fun _ h=>(bE (ugt (cH (bgf b_2) (by decide))) h)) fun _ h=>h))) fun _ h=>h))))) fun b_1 h=>(bE (ugt (cH (bgf b_1) (by decide))) (dZ (ugf (unt (cH (bgf b_1) (by decide)))) (bE (ugt (cH (bgf b_1) (by decide))) (oC h (fun _ h=>(dZ (ugf (bgf b_1)) (bE (ugt (cH (bgf b_1) (by decide))) h))) fun _ h=>h)))))
def c119:Con:=⟨[.dat TTb,.lent TCS,.dat ah],fun args hp K=>g3 (pD TTb) (pB TCS) (pD ah) (fun tables ahead s=>(Sm TTb tables)/\(Sm (Ty.sl TCS) ahead)/\(Sm ah s)/\(LD (M.fJ tables ahead s) fun r=>K (.tup [.data TCS r.1,dB r.2]) [])) args hp,.plain,false⟩
abbrev C119:Ctx:=cx [(46,c46),(69,c69),(177,c177)] 185 [] 0 false
def ann119:=an [[.fixRow 5 ah,kp 35],[kp 32803],[kp 192],[kp 524323],[kp 67108897],[kp 192],[kp 192],[.keep [1,5,51]],[kp 192],[kp 290],[.keep [1,5,8,61]],[kp 6917529027641082146],[kp 192],[.keep [1,5,8,61,70]],[kp 800],[kp 1824],[.keep [5,8,9,10,77]],[kp 1824],[.keep [5,8,9,10,89]],[kp 192],[kp 1824],[kp 192],[.keep [1,5,8,61,106]],[kp 2080],[kp 192],[.keep [1,5,8,61,126]],[.keep [1,5,8,136]],[kp 192],[kp 4386],[.keep [1,5,8,12,141]],[kp 4386],[.keep [1,5,8,12,158]],[kp 192],[kp 4386],[kp 192],[.keep [8,181]],[kp 192],[kp 192]] [[],[kp 512],[],[kp 256]]
abbrev s119_1 (tables:LTb) (ahead:(List LC)) (s:ah.D) (i1:Int) (v1:LC):St:=⟨[(5,.adr ah s),(8,.own 53 none),(9,.own 72 none),(10,dI i1)],[(53,.arr .sh ag ([]++(nth (t:=TCS) ahead s.2.1))),(72,.arr .sh ag v1)]⟩
abbrev LP119_1 (tables:LTb) (ahead:(List LC)) (s:ah.D) (m:Nat) (st_:St) (K:KX):Prop:=True/\bX (t:=aC) (s119_1 tables ahead s) s.2.2.2.2.2.1 (F.gm tables ahead s) (fun v1:LC=>True) (bg (fun v1:LC=>True->K (.exit 1) (⟨[(9,.own 72 none)],[(72,.arr .sh ag v1)]⟩:St)) (fun q1:Unit=>K .ret (⟨[(6,.own 90 none),(7,dB false)],[(90,.arr .sh ag [])]⟩:St))) m st_
abbrev s119_3 (tables:LTb) (ahead:(List LC)) (s:ah.D) (v3:Int×LC):St:=⟨[(1,.brw TCS ahead),(5,.adr ah s),(8,.own 53 none),(12,dI v3.1)],[(53,.arr .sh ag v3.2)]⟩
abbrev LP119_3 (tables:LTb) (ahead:(List LC)) (s:ah.D) (m:Nat) (st_:St) (K:KX):Prop:=True/\ep (s119_3 tables ahead s) (F.dV tables ahead s) (fun v3:Int×LC=>True) (bg (fun e3:LC=>True->K (.exit 3) (⟨[(8,.own 53 none)],[(53,.arr .sh ag e3)]⟩:St)) (fun q3:Unit=>K .ret (⟨[(6,.own 159 none),(7,dB false)],[(159,.arr .sh ag [])]⟩:St))) m st_
def L119 (tables:LTb) (ahead:(List LC)) (s:ah.D):bH:=lp2 1 (LP119_1 tables ahead s) 3 (LP119_3 tables ahead s)
theorem vc119 (tables:LTb) (ahead:(List LC)) (s:ah.D) (K:KA):vcT C119 (L119 tables ahead s) ann119 f119 [.data TTb tables,.brw TCS ahead,.data ah s] [] (.tup [TCS,Ty.bool]) K =
 ((Sm ah s)/\cond (!(M.bJ s)) (K (.tup [.data TCS [],dB false]) []) (cond (decide (s.1=Z1)) (cond (!(M.inR s.2.2.2.1 Z0 (wrap64 ((tables.length:Int)-Z1)))) (K (.tup [.data TCS [],dB false]) []) ((0<=s.2.2.2.1)/\(s.2.2.2.1<(tables.length:Int))/\((([]:List ag.D).length+(nT tables s.2.2.2.1).1.length) * 16<=lim)/\K (.tup [.data TCS ([]++(nT tables s.2.2.2.1).1),dB true]) [])) (cond ((!(M.inR s.2.1 Z0 (wrap64 ((ahead.length:Int)-Z1))))==false) (cond (!(M.inR s.2.2.1 Z0 (wrap64 ((ahead.length:Int)-Z1)))) (K (.tup [.data TCS [],dB false]) []) ((0<=s.2.1)/\(s.2.1<(ahead.length:Int))/\((([]:List ag.D).length+(nth (t:=TCS) ahead s.2.1).length) * 16<=lim)/\cond (decide (s.1=Z2)) ((Sm TCS ([]++(nth (t:=TCS) ahead s.2.1)))/\(Sm TPS s.2.2.2.2.1)/\K (.tup [.data TCS ([]++(nth (t:=TCS) ahead s.2.1)),dB (decide ((M.cW ([]++(nth (t:=TCS) ahead s.2.1)) s.2.2.2.2.1)=Z3))]) []) (cond (decide (s.1=Z3)) (∃m_,True/\bX (t:=aC) (s119_1 tables ahead s) s.2.2.2.2.2.1 (F.gm tables ahead s) (fun v1:LC=>True) (bg (fun v1:LC=>True->K (.tup [.data TCS v1,dB (decide ((v1.length:Int)<=Z4))]) []) (fun q1:Unit=>K (.tup [.data TCS [],dB false]) [])) m_ (s119_1 tables ahead s Z0 [])) (cond (decide (s.1=Z4)) ((0<=s.2.2.1)/\(s.2.2.1<(ahead.length:Int))/\((([]++(nth (t:=TCS) ahead s.2.1)).length+(nth (t:=TCS) ahead s.2.2.1).length) * 16<=lim)/\cond ((decide (((([]++(nth (t:=TCS) ahead s.2.1))++(nth (t:=TCS) ahead s.2.2.1)).length:Int)<=Z4))==true) ((Sm TCS (([]++(nth (t:=TCS) ahead s.2.1))++(nth (t:=TCS) ahead s.2.2.1)))/\(Sm TPS s.2.2.2.2.1)/\K (.tup [.data TCS (([]++(nth (t:=TCS) ahead s.2.1))++(nth (t:=TCS) ahead s.2.2.1)),dB (decide ((M.cW (([]++(nth (t:=TCS) ahead s.2.1))++(nth (t:=TCS) ahead s.2.2.1)) s.2.2.2.2.1)=Z3))]) []) (K (.tup [.data TCS (([]++(nth (t:=TCS) ahead s.2.1))++(nth (t:=TCS) ahead s.2.2.1)),dB false]) [])) (cond (decide (s.1=Z5)) ((0<=s.2.2.1)/\(s.2.2.1<(ahead.length:Int))/\cond (!decide ((([]++(nth (t:=TCS) ahead s.2.1)).length:Int)=((nth (t:=TCS) ahead s.2.2.1).length:Int))) (K (.tup [.data TCS [],dB false]) []) (∃m_,True/\ep (s119_3 tables ahead s) (F.dV tables ahead s) (fun v3:Int×LC=>True) (bg (fun e3:LC=>True->K (.tup [.data TCS e3,dB true]) []) (fun q3:Unit=>K (.tup [.data TCS [],dB false]) [])) m_ (s119_3 tables ahead s (Z0,([]++(nth (t:=TCS) ahead s.2.1)))))) (cond (decide (s.1=Z6)) (K (.tup [.data TCS ([]++(nth (t:=TCS) ahead s.2.1)),dB true]) []) (K (.tup [.data TCS [],dB false]) []))))))) (K (.tup [.data TCS [],dB false]) [])))):=by kernel_rfl
theorem lvc119_0 (tables:LTb) (ahead:(List LC)) (s:ah.D)  (i1:Int) (v1:LC) (m:Nat) (K:KX):lvT C119 (L119 tables ahead s) ann119 f119 0 1 (s119_1 tables ahead s i1 v1) m K =
 (cond (decide (i1<(s.2.2.2.2.2.1.length:Int))) ((0<=i1)/\(i1<(s.2.2.2.2.2.1.length:Int))/\cond (!(M.inR (nI s.2.2.2.2.2.1 i1) Z0 (wrap64 ((([]++(nth (t:=TCS) ahead s.2.1)).length:Int)-Z1)))) (K .ret (⟨[(6,.own 90 none),(7,dB false)],[(90,.arr .sh ag [])]⟩:St)) ((0<=i1)/\(i1<(s.2.2.2.2.2.1.length:Int))/\(0<=(nI s.2.2.2.2.2.1 i1))/\((nI s.2.2.2.2.2.1 i1)<(([]++(nth (t:=TCS) ahead s.2.1)).length:Int))/\((v1.length+([(nC ([]++(nth (t:=TCS) ahead s.2.1)) (nI s.2.2.2.2.2.1 i1))]:List ag.D).length) * 16<=lim)/\(nxT (LP119_1 tables ahead s) m K (s119_1 tables ahead s (wrap64 (i1+Z1)) (v1++[(nC ([]++(nth (t:=TCS) ahead s.2.1)) (nI s.2.2.2.2.2.1 i1))]))))) (K (.exit 1) (⟨[(9,.own 72 none)],[(72,.arr .sh ag v1)]⟩:St))):=by kernel_rfl
theorem lvc119_1 (tables:LTb) (ahead:(List LC)) (s:ah.D)  (v3:Int×LC) (m:Nat) (K:KX):lvT C119 (L119 tables ahead s) ann119 f119 1 3 (s119_3 tables ahead s v3) m K =
 (cond (decide (v3.1<(v3.2.length:Int))) ((0<=v3.1)/\(v3.1<(v3.2.length:Int))/\(0<=s.2.2.1)/\(s.2.2.1<(ahead.length:Int))/\(0<=v3.1)/\(v3.1<((nth (t:=TCS) ahead s.2.2.1).length:Int))/\cond (!decide ((nC v3.2 v3.1).1=(nC (nth (t:=TCS) ahead s.2.2.1) v3.1).1)) (K .ret (⟨[(6,.own 159 none),(7,dB false)],[(159,.arr .sh ag [])]⟩:St)) ((0<=v3.1)/\(v3.1<(v3.2.length:Int))/\cond ((nC v3.2 v3.1).2.1==false) ((0<=s.2.2.1)/\(s.2.2.1<(ahead.length:Int))/\(0<=v3.1)/\(v3.1<((nth (t:=TCS) ahead s.2.2.1).length:Int))/\(0<=v3.1)/\(v3.1<(v3.2.length:Int))/\(let y1:LC:=(v3.2.set v3.1.toNat ((nC v3.2 v3.1).1,(nC (nth (t:=TCS) ahead s.2.2.1) v3.1).2));(nxT (LP119_3 tables ahead s) m K (s119_3 tables ahead s (wrap64 (v3.1+Z1),y1))))) ((0<=v3.1)/\(v3.1<(v3.2.length:Int))/\(nxT (LP119_3 tables ahead s) m K (s119_3 tables ahead s (wrap64 (v3.1+Z1),(v3.2.set v3.1.toNat ((nC v3.2 v3.1).1,(true,()))))))))) (K (.exit 3) (⟨[(8,.own 53 none)],[(53,.arr .sh ag v3.2)]⟩:St))):=by kernel_rfl
theorem con119_ok:bf P 119 c119:=br C119 func119 (kC con46_ok (kC con69_ok (kC con177_ok kN))) fun args hp K h0=>by
 obtain⟨tables,ahead,s,rfl,rfl,h_tables,h_ahead,h_s,hK⟩:=g3e h0
 have h:ok (F.gU tables ahead s) (fun r=>K (.tup [.data TCS r.1,dB r.2]) []):=az (F.uy tables ahead s h_tables h_ahead h_s) (hK _ rfl)
 refine⟨rfl,ann119,(L119 tables ahead s),(.tup [TCS,Ty.bool]),(lS (i0:=1) (i1:=3) (by kernel_rfl) ?_ ?_),?_⟩
 ·rintro _ _ K ⟨hc1,i1,v1,rfl,hl1,rfl,hv1,h⟩
  exact cast (lvc119_0 _ _ _ _ _ _ _).symm (bB (t:=aC) hl1 h (fun ht1 h=>⟨hl1,⟨ht1,(oC h (fun _ h=>h) fun b_22 h=>⟨hl1,⟨ht1,⟨(gj (bnf b_22)),⟨(ov (bnf b_22)),(oG h fun _ h=>(aZ (t:=aC) (fun _ hm=>⟨hc1,hm⟩) _ rfl hl1 ht1 (bz h_s.2.2.2.2.2.1) trivial h))⟩⟩⟩⟩)⟩⟩) fun h=>(h trivial))
 ·rintro _ _ K ⟨hc3,v3,rfl,hv3,h⟩
  exact cast (lvc119_1 _ _ _ _ _ _).symm (cS h (fun m1 hm3 h=>(oC h (fun _ h=>(oG h fun g1 h=>(oG h fun g2 h=>(oG h fun g3 h=>(oG h fun g4 h=>⟨g1,(oG h fun g5 h=>(oC h (fun _ h=>h) fun _ h=>⟨g1,⟨g2,(oC h (fun _ h=>⟨g3,⟨g4,⟨g1,⟨g5,⟨g1,⟨g2,(have h:=cL h _ rfl;(aX (fun _ hm=>⟨hc3,hm⟩) hm3 _ rfl trivial h))⟩⟩⟩⟩⟩⟩) fun _ h=>⟨g1,⟨g2,(aX (fun _ hm=>⟨hc3,hm⟩) hm3 _ rfl trivial h)⟩⟩)⟩⟩))⟩))))) fun _ h=>((cB h :) trivial))))
 ·rw[vc119]
  exact⟨h_s,(oC h (fun _ h=>h) fun _ h=>(oC h (fun _ h=>(oC h (fun _ h=>h) fun b_3 h=>⟨(gj (bnf b_3)),⟨(ov (bnf b_3)),⟨(qa (jN ag) (aQ h_tables s.2.2.2.1).1 rfl),h⟩⟩⟩)) fun _ h=>(oC h (fun b_4 h=>(oC h (fun _ h=>h) fun b_5 h=>⟨(gj (bnf (bgt b_4))),⟨(ov (bnf (bgt b_4))),⟨(qa (jN ag) (aQ h_ahead s.2.1) rfl),(oC h (fun _ h=>(oG h fun _ h=>⟨h_s.2.2.2.2.1,h⟩)) fun _ h=>(oC h (fun _ h=>(bn (t:=aC) (fun m hm=>⟨trivial,hm⟩) _ rfl trivial (aT h (fun v1 h hv1=>h) (fun q1 h=>h)))) fun _ h=>(oC h (fun _ h=>⟨(gj (bnf b_5)),⟨(ov (bnf b_5)),(oG h fun _ h=>(oC h (fun _ h=>(oG h fun _ h=>⟨h_s.2.2.2.2.1,h⟩)) fun _ h=>h))⟩⟩) fun _ h=>(oC h (fun _ h=>⟨(gj (bnf b_5)),⟨(ov (bnf b_5)),(oC h (fun _ h=>h) fun _ h=>(cj (fun m hm=>⟨trivial,hm⟩) _ rfl trivial (aT h (fun e3 h hv3=>h) (fun q3 h=>h))))⟩⟩) fun _ h=>(oC h (fun _ h=>h) fun _ h=>h)))))⟩⟩⟩)) fun _ h=>h)))⟩
def c120:Con:=⟨[.lent aC,.dat ah],fun args hp K=>g2 (pB aC) (pD ah) (fun ahead s=>(Sm (Ty.sl aC) ahead)/\(Sm ah s)/\(M.fI (ahead.length:Int) s)/\K (dI (M.aP ahead s)) []) args hp,.plain,false⟩
abbrev C120:Ctx:=cx [] 40 [] 0 false
def ann120:=an [[.fixRow 3 ah,kp 9],[kp 73],[kp 201],[kp 16],[kp 585],[kp 16],[kp 4194313],[kp 16],[kp 16]] []
theorem vc120 (ahead:LI) (s:ah.D) (K:KA):vcT C120 aB ann120 f120 [.brw aC ahead,.data ah s] [] (.dat aC) K =
 (cond (decide (s.1=Z1)) (K (dI Z6) []) (cond (decide (s.1=Z4)) ((0<=s.2.1)/\(s.2.1<(ahead.length:Int))/\(0<=s.2.2.1)/\(s.2.2.1<(ahead.length:Int))/\K (dI (wrap64 ((nI ahead s.2.1) * (nI ahead s.2.2.1)))) []) (cond (decide (s.1=Z5)) ((0<=s.2.1)/\(s.2.1<(ahead.length:Int))/\(0<=s.2.2.1)/\(s.2.2.1<(ahead.length:Int))/\K (dI (wrap64 ((nI ahead s.2.1)+(nI ahead s.2.2.1)))) []) ((0<=s.2.1)/\(s.2.1<(ahead.length:Int))/\K (dI (nI ahead s.2.1)) [])))):=by kernel_rfl
theorem con120_ok:bf P 120 c120:=br C120 func120 kN fun args hp K h0=>by
 obtain⟨ahead,s,rfl,rfl,h_ahead,h_s,p0,hK⟩:=g2e h0
 have h:ok (F.ru ahead s) (fun r=>K (dI r) []):=az (F.zH ahead s h_ahead h_s p0) hK
 refine⟨rfl,ann120,aB,(.dat aC),(aH (by kernel_rfl)),?_⟩
 ·rw[vc120]
  exact(oC h (fun _ h=>h) fun _ h=>(oC h (fun _ h=>(oG h fun _ h=>(oG h fun _ h=>(oG h fun _ h=>(oG h fun _ h=>h))))) fun _ h=>(oC h (fun _ h=>(oG h fun _ h=>(oG h fun _ h=>(oG h fun _ h=>(oG h fun _ h=>h))))) fun _ h=>(oG h fun _ h=>(oG h fun _ h=>h)))))
def c70:Con:=⟨[.dat TTb,.lent ah],fun args hp K=>g2 (pD TTb) (pB ah) (fun tables plan=>(Sm TTb tables)/\(Sm TSS plan)/\(LD (M.cY tables plan) fun r=>K (.tup [.data (Ty.sl TCS) r.1,dB r.2]) [])) args hp,.plain,false⟩
abbrev C70:Ctx:=cx [(119,c119),(120,c120)] 52 [] 0 false
def ann70:=an [[kp 3],[kp 67],[kp 195],[kp 451],[kp 65987],[kp 451],[kp 1987],[kp 1073742787],[.freeze 31,kp 48],[kp 451],[kp 451],[kp 562949953421763],[.freeze 50,kp 48],[kp 48]] [[kp 64]]
abbrev s70_0 (tables:LTb) (plan:LS) (i0:Int) (v0:(List LC)×LI):St:=⟨[(0,.data TTb tables),(1,.brw ah plan),(6,.own 11 none),(7,.own 12 none),(8,dI i0)],[(11,.arr .sh TCS v0.1),(12,.arr .sh aC v0.2)]⟩
abbrev LP70_0 (tables:LTb) (plan:LS) (m:Nat) (st_:St) (K:KX):Prop:=True/\cm (s70_0 tables plan) Z0 (plan.length:Int) (F.iH tables plan) (fun v0:(List LC)×LI=>True) (bg (fun v0:(List LC)×LI=>True->K (.exit 0) (⟨[(6,.own 11 none)],[(11,.arr .sh TCS v0.1)]⟩:St)) (fun q0:Unit=>K .ret (⟨[(4,.data (Ty.sl TCS) []),(5,dB false)],[]⟩:St))) m st_
def L70 (tables:LTb) (plan:LS):bH:=lp1 0 (LP70_0 tables plan)
theorem vc70 (tables:LTb) (plan:LS) (K:KA):vcT C70 (L70 tables plan) ann70 f70 [.data TTb tables,.brw ah plan] [] (.tup [(Ty.sl TCS),Ty.bool]) K =
 (∃m_,True/\cm (s70_0 tables plan) Z0 (plan.length:Int) (F.iH tables plan) (fun v0:(List LC)×LI=>True) (bg (fun v0:(List LC)×LI=>True->K (.tup [.data (Ty.sl TCS) v0.1,dB true]) []) (fun q0:Unit=>K (.tup [.data (Ty.sl TCS) [],dB false]) [])) m_ (s70_0 tables plan Z0 ([],[]))):=by kernel_rfl
theorem lvc70_0 (tables:LTb) (plan:LS)  (i0:Int) (v0:(List LC)×LI) (m:Nat) (K:KX):lvT C70 (L70 tables plan) ann70 f70 0 0 (s70_0 tables plan i0 v0) m K =
 (cond (decide (i0<(plan.length:Int))) ((0<=i0)/\(i0<(plan.length:Int))/\(Sm TTb tables)/\(Sm (Ty.sl TCS) v0.1)/\(Sm ah (nS plan i0))/\(LD (M.fJ tables v0.1 (nS plan i0)) fun r1=>cond (!r1.2) (K .ret (⟨[(4,.data (Ty.sl TCS) []),(5,dB false)],[]⟩:St)) (((v0.1.length+[r1.1].length) * 24<=lim)/\(0<=i0)/\(i0<(plan.length:Int))/\(Sm (Ty.sl aC) v0.2)/\(Sm ah (nS plan i0))/\(M.fI (v0.2.length:Int) (nS plan i0))/\((v0.2.length+[(M.aP v0.2 (nS plan i0))].length) * 8<=lim)/\(0<=i0)/\(i0<((v0.2++[(M.aP v0.2 (nS plan i0))]).length:Int))/\cond (decide ((300:Int)<(nI (v0.2++[(M.aP v0.2 (nS plan i0))]) i0))) (K .ret (⟨[(4,.data (Ty.sl TCS) []),(5,dB false)],[]⟩:St)) (nxT (LP70_0 tables plan) m K (s70_0 tables plan (wrap64 (i0+Z1)) ((v0.1++[r1.1]),(v0.2++[(M.aP v0.2 (nS plan i0))]))))))) (K (.exit 0) (⟨[(6,.own 11 none)],[(11,.arr .sh TCS v0.1)]⟩:St))):=by kernel_rfl
theorem con70_ok:bf P 70 c70:=br C70 func70 (kC con119_ok (kC con120_ok kN)) fun args hp K h0=>by
 obtain⟨tables,plan,rfl,rfl,h_tables,h_plan,hK⟩:=g2e h0
 have h:ok (F.tf tables plan) (fun r=>K (.tup [.data (Ty.sl TCS) r.1,dB r.2]) []):=az (F.Ab tables plan h_tables h_plan) (hK _ rfl)
 refine⟨rfl,ann70,(L70 tables plan),(.tup [(Ty.sl TCS),Ty.bool]),(bL (i0:=0) (by kernel_rfl) ?_),?_⟩
 ·rintro _ _ K ⟨hc0,i0,v0,rfl,hl0,rfl,hv0,h⟩
  exact cast (lvc70_0 _ _ _ _ _ _).symm (bM h (fun ht0 h=>⟨hl0,⟨ht0,⟨h_tables,(oG h fun _ h=>⟨(aQ h_plan i0),(oL h fun _ _ h=>(oC h (fun _ h=>h) fun _ h=>(oG h fun _ h=>⟨hl0,⟨ht0,(oG h fun _ h=>⟨(aQ h_plan i0),(oG h fun _ h=>(oG h fun _ h=>⟨hl0,(oG h fun _ h=>(oC h (fun _ h=>h) fun _ h=>(aN (fun _ hm=>⟨hc0,hm⟩) _ rfl hl0 fS ht0 (bz h_plan) trivial h)))⟩))⟩)⟩⟩)))⟩)⟩⟩⟩) fun h=>(h trivial))
 ·rw[vc70]
  exact(bA (fun m hm=>⟨trivial,hm⟩) Z0 _ rfl (Int.natCast_nonneg 0) trivial (aT h (fun v0 h hv0=>h) (fun q0 h=>h)))
def c105:Con:=⟨[.any,.dat TTb],fun args hp K=>hpR (fun b p=>args2 (fun a0 a1=>mY a0 (ff TTb a1 fun tables=>(Sm TBy b)/\(Sm TTb tables)/\(M.aq b)/\(0<=p)/\(p<=995000000000000)/\(∀t∈tables,M.iA t)/\(LD (M.kg b p tables) fun r=>K (.own 0 none) [(0,.arr .sh ah r.1),(1000000,.box [.data TBy b,dI r.2])]))) args []) hp,.plain,true⟩
abbrev C105:Ctx:=cx [(41,c41),(42,c42),(70,c70),(119,c119)] 165 [] 0 true
def ann105:=an [[kp 3],[.weak 26,kp 35],[kp 99],[kp 1073741923],[kp 99],[kp 483],[kp 1099511628003],[kp 16],[kp 739],[kp 1763],[kp 2251799813687011],[kp 1763],[kp 3811],[kp 288230376151715555],[kp 864691128455139043],[kp 2147],[kp 590584040734857367267],[kp 3299],[.mineC .sh 11 5 800181 aC,kp 7395],[kp 19342813113834066795306211],[kp 7395],[kp 7395],[kp 633825300114402931124503318243],[kp 633825300114402931124503318243],[kp 11491],[kp 27747],[kp 332306998946228968225951765070113891],[kp 2147],[kp 42535295865117307933210056305122741987],[.mineC .sh 11 4 800180 aE,.freeze 800180,.mineC .sh 11 5 800182 aC,.freeze 800182,kp 36579],[.keep [0,1,5,6,7,9,10,11,15,129]],[kp 36579],[.fixRow 16 ah,kp 102115],[kp 364259],[.keep [0,1,5,6,7,9,10,11,15,16,142]],[kp 36579],[.keep [0,1,5,6,10,11,144]],[kp 2147],[kp 1050723],[.keep [0,1,5,6,11,159]],[kp 99],[kp 16]] [[kp 32],[],[.freeze 67,.freeze 123,.freeze 800181,.mineC .sh 11 4 800180 aE,.freeze 800180,.mineC .sh 11 5 800182 aC,.freeze 800182,kp 2147],[kp 2147],[],[kp 2147]]
abbrev s105_0 (b:LI) (p:Int) (tables:LTb) (v0:Int×Int×LS):St:=⟨[(0,.ptr 1000000 0),(1,.data TTb tables),(5,.own 26 none),(6,dI v0.1)],[(1000000,.box [.data TBy b,dI v0.2.1]),(26,.arr .sh ah v0.2.2)]⟩
abbrev LP105_0 (b:LI) (p:Int) (tables:LTb) (m:Nat) (st_:St) (K:KX):Prop:=True/\ep (s105_0 b p tables) (F.iT b p tables) (fun v0:Int×Int×LS=>True) (bg (fun e0:Int×LS=>True->K (.exit 0) (⟨[(5,.own 26 none)],[(1000000,.box [.data TBy b,dI e0.1]),(26,.arr .sh ah e0.2)]⟩:St)) (fun q0:Int×LS=>K .ret (⟨[(4,.own 26 none)],[(1000000,.box [.data TBy b,dI q0.1]),(26,.arr .sh ah q0.2)]⟩:St))) m st_
abbrev s105_2 (b:LI) (p:Int) (tables:LTb) (c2_0:Int) (c2_1:(List LC)) (c2_2:Int) (c2_3:Int) (c2_4:Int) (c2_5:Int) (c2_6:LS) (c2_7:Int) (v2:Unit):St:=⟨[(0,.ptr 1000000 0),(1,.data TTb tables),(5,.own 26 none),(6,dI c2_0),(7,.data (Ty.sl TCS) c2_1),(9,dI c2_2),(10,dI c2_3),(11,.ptr 11 0),(58,dI c2_4)],[(1000000,.box [.data TBy b,dI c2_5]),(26,.arr .sh ah c2_6),(11,.box [dI Z1,dI Z0,dI Z0,dI c2_7,.cst (.slice none 0 0),.cst (.slice none 0 0)])]⟩
abbrev LP105_2 (b:LI) (p:Int) (tables:LTb) (m:Nat) (st_:St) (K:KX):Prop:=∃c2_0:Int,∃c2_1:(List LC),∃c2_2:Int,∃c2_3:Int,∃c2_4:Int,∃c2_5:Int,∃c2_6:LS,∃c2_7:Int,True/\ep (s105_2 b p tables c2_0 c2_1 c2_2 c2_3 c2_4 c2_5 c2_6 c2_7) (F.ee b p tables c2_0 c2_1 c2_2 c2_3 c2_4 c2_5 c2_6 c2_7) (fun v2:Unit=>True) (fun e2:Int×Int×Int×Int×Int×LPt×LI=>True->K (.exit 2) (⟨[(0,.ptr 1000000 0),(1,.data TTb tables),(5,.own 26 none),(6,dI c2_0),(11,.ptr 11 0)],[(1000000,.box [.data TBy b,dI e2.1]),(26,.arr .sh ah c2_6),(11,.box [dI e2.2.1,dI e2.2.2.1,dI e2.2.2.2.1,dI e2.2.2.2.2.1,.data TPS e2.2.2.2.2.2.1,.data (Ty.sl aC) e2.2.2.2.2.2.2])]⟩:St)) m st_
abbrev s105_3 (b:LI) (p:Int) (tables:LTb) (c3_0:Int) (c3_1:(List LC)) (c3_2:Int) (c3_3:LS) (c3_4:Int) (v3:Int×Int×LI):St:=⟨[(0,.ptr 1000000 0),(1,.data TTb tables),(5,.own 26 none),(6,dI c3_0),(7,.data (Ty.sl TCS) c3_1),(10,dI c3_2),(11,.ptr 11 0),(12,dI v3.1)],[(1000000,.box [.data TBy b,dI v3.2.1]),(26,.arr .sh ah c3_3),(11,.box [dI Z3,dI c3_4,dI Z0,dI Z0,.cst (.slice none 0 0),.own 800181 none]),(800181,.arr .sh aC v3.2.2)]⟩
abbrev LP105_3 (b:LI) (p:Int) (tables:LTb) (m:Nat) (st_:St) (K:KX):Prop:=∃c3_0:Int,∃c3_1:(List LC),∃c3_2:Int,∃c3_3:LS,∃c3_4:Int,True/\ep (s105_3 b p tables c3_0 c3_1 c3_2 c3_3 c3_4) (F.fX b p tables c3_0 c3_1 c3_2 c3_3 c3_4) (fun v3:Int×Int×LI=>True) (fun e3:Int×LI=>True->K (.exit 3) (⟨[(0,.ptr 1000000 0),(1,.data TTb tables),(5,.own 26 none),(6,dI c3_0),(11,.ptr 11 0)],[(1000000,.box [.data TBy b,dI e3.1]),(26,.arr .sh ah c3_3),(11,.box [dI Z3,dI c3_4,dI Z0,dI Z0,.cst (.slice none 0 0),.own 800181 none]),(800181,.arr .sh aC e3.2)]⟩:St)) m st_
abbrev s105_5 (b:LI) (p:Int) (tables:LTb) (c5_0:Int) (c5_1:(List LC)) (c5_2:Int) (c5_3:Int) (c5_4:Int) (c5_5:LS) (i5:Int) (v5:Int×Int×Int×Int):St:=⟨[(0,.ptr 1000000 0),(1,.data TTb tables),(5,.own 26 none),(6,dI c5_0),(7,.data (Ty.sl TCS) c5_1),(9,dI c5_2),(10,dI c5_3),(11,.ptr 11 0),(15,dI i5)],[(1000000,.box [.data TBy b,dI c5_4]),(26,.arr .sh ah c5_5),(11,.box [dI v5.1,dI v5.2.1,dI v5.2.2.1,dI v5.2.2.2,.data TPS [],.data (Ty.sl aC) []])]⟩
abbrev LP105_5 (b:LI) (p:Int) (tables:LTb) (m:Nat) (st_:St) (K:KX):Prop:=∃c5_0:Int,∃c5_1:(List LC),∃c5_2:Int,∃c5_3:Int,∃c5_4:Int,∃c5_5:LS,(c5_2<=ew/\True)/\cm (s105_5 b p tables c5_0 c5_1 c5_2 c5_3 c5_4 c5_5) Z0 c5_2 (F.ga b p tables c5_0 c5_1 c5_2 c5_3 c5_4 c5_5) (fun v5:Int×Int×Int×Int=>True) (bg (fun v5:Int×Int×Int×Int=>True->K (.exit 5) (⟨[(0,.ptr 1000000 0),(1,.data TTb tables),(5,.own 26 none),(6,dI c5_0),(11,.ptr 11 0)],[(1000000,.box [.data TBy b,dI c5_4]),(26,.arr .sh ah c5_5),(11,.box [dI v5.1,dI v5.2.1,dI v5.2.2.1,dI v5.2.2.2,.data TPS [],.data (Ty.sl aC) []])]⟩:St)) (fun _=>False)) m st_
def L105 (b:LI) (p:Int) (tables:LTb):bH:=fun id m st_ K=>match id with
 | 0=>LP105_0 b p tables m st_ K
 | 2=>LP105_2 b p tables m st_ K
 | 3=>LP105_3 b p tables m st_ K
 | 5=>LP105_5 b p tables m st_ K
 | _=>False
theorem vc105 (b:LI) (p:Int) (tables:LTb) (K:KA):vcT C105 (L105 b p tables) ann105 (qt [(1000002,true)] f105) [.ptr 1000000 0,.data TTb tables] [(1000000,.box [.data TBy b,dI p])] .raw K =
 ((Sm TBy b)/\(M.aq b)/\(0<=p)/\(p<=1000000000000000)/\(LD (M.pick b p (tables.length:Int)) fun r1=>(Sm TBy b)/\(M.aq b)/\(0<=r1.2)/\(r1.2<=1000000000000000)/\(LD (M.pick b r1.2 Z6) fun r2=>(∃m_,True/\ep (s105_0 b p tables) (F.iT b p tables) (fun v0:Int×Int×LS=>True) (bg (fun e0:Int×LS=>True->K (.own 0 none) [(0,.arr .sh ah e0.2),(1000000,.box [.data TBy b,dI e0.1])]) (fun q0:Int×LS=>K (.own 0 none) [(0,.arr .sh ah q0.2),(1000000,.box [.data TBy b,dI q0.1])])) m_ (s105_0 b p tables (r2.1,r2.2,[(Z1,(Z0,(Z0,(r1.1,([],([],()))))))])))))):=by kernel_rfl
theorem lvc105_0 (b:LI) (p:Int) (tables:LTb)  (v0:Int×Int×LS) (m:Nat) (K:KX):lvT C105 (L105 b p tables) ann105 (qt [(1000002,true)] f105) 0 0 (s105_0 b p tables v0) m K =
 (cond (decide (Z0<v0.1)) ((Sm TTb tables)/\(Sm TSS v0.2.2)/\(LD (M.cY tables v0.2.2) fun r3=>cond (!r3.2) (K .ret (⟨[(4,.own 26 none)],[(1000000,.box [.data TBy b,dI v0.2.1]),(26,.arr .sh ah v0.2.2)]⟩:St)) ((Sm TBy b)/\(M.aq b)/\(0<=v0.2.1)/\(v0.2.1<=1000000000000000)/\(LD (M.pick b v0.2.1 Z5) fun r4=>(Z4≠0)/\cond (decide (wrap64 (wrap64 ((v0.2.2.length:Int)-Z1)-(wrap64 (r4.1.tdiv Z4)))<Z0)) ((Sm TBy b)/\(M.aq b)/\(0<=r4.2)/\(r4.2<=1000000000000000)/\(LD (M.pick b r4.2 (tables.length:Int)) fun r5=>(Sm TBy b)/\(M.aq b)/\(0<=r5.2)/\(r5.2<=1000000000000000)/\(LD (M.pick b r5.2 (7:Int)) fun r6=>(∃m_,∃c2_0:Int,∃c2_1:(List LC),∃c2_2:Int,∃c2_3:Int,∃c2_4:Int,∃c2_5:Int,∃c2_6:LS,∃c2_7:Int,True/\ep (s105_2 b p tables c2_0 c2_1 c2_2 c2_3 c2_4 c2_5 c2_6 c2_7) (F.ee b p tables c2_0 c2_1 c2_2 c2_3 c2_4 c2_5 c2_6 c2_7) (fun v2:Unit=>True) (fun e2:Int×Int×Int×Int×Int×LPt×LI=>True->Q3 (((([]:List ah.D).length+c2_6.length) * 80<=lim)/\((([]++c2_6).length+[(e2.2.1,(e2.2.2.1,(e2.2.2.2.1,(e2.2.2.2.2.1,(e2.2.2.2.2.2.1,(e2.2.2.2.2.2.2,()))))))].length) * 80<=lim)/\(Sm TTb tables)/\(Sm TSS (([]++c2_6)++[(e2.2.1,(e2.2.2.1,(e2.2.2.2.1,(e2.2.2.2.2.1,(e2.2.2.2.2.2.1,(e2.2.2.2.2.2.2,()))))))]))/\(LD (M.cY tables (([]++c2_6)++[(e2.2.1,(e2.2.2.1,(e2.2.2.2.1,(e2.2.2.2.2.1,(e2.2.2.2.2.2.1,(e2.2.2.2.2.2.2,()))))))])) fun r7=>cond r7.2 (((c2_6.length+[(e2.2.1,(e2.2.2.1,(e2.2.2.2.1,(e2.2.2.2.2.1,(e2.2.2.2.2.2.1,(e2.2.2.2.2.2.2,()))))))].length) * 80<=lim)/\(nxT (LP105_0 b p tables) m K (s105_0 b p tables (wrap64 (c2_0-Z1),e2.1,(c2_6++[(e2.2.1,(e2.2.2.1,(e2.2.2.2.1,(e2.2.2.2.2.1,(e2.2.2.2.2.2.1,(e2.2.2.2.2.2.2,()))))))]))))) (nxT (LP105_0 b p tables) m K (s105_0 b p tables (wrap64 (c2_0-Z1),e2.1,c2_6)))))) m_ (s105_2 b p tables v0.1 r3.1 (v0.2.2.length:Int) Z0 r6.1 r6.2 v0.2.2 r5.1 ()))))) ((Sm TBy b)/\(M.aq b)/\(0<=r4.2)/\(r4.2<=1000000000000000)/\(LD (M.pick b r4.2 (tables.length:Int)) fun r5=>(Sm TBy b)/\(M.aq b)/\(0<=r5.2)/\(r5.2<=1000000000000000)/\(LD (M.pick b r5.2 (7:Int)) fun r6=>(∃m_,∃c2_0:Int,∃c2_1:(List LC),∃c2_2:Int,∃c2_3:Int,∃c2_4:Int,∃c2_5:Int,∃c2_6:LS,∃c2_7:Int,True/\ep (s105_2 b p tables c2_0 c2_1 c2_2 c2_3 c2_4 c2_5 c2_6 c2_7) (F.ee b p tables c2_0 c2_1 c2_2 c2_3 c2_4 c2_5 c2_6 c2_7) (fun v2:Unit=>True) (fun e2:Int×Int×Int×Int×Int×LPt×LI=>True->Q3 (((([]:List ah.D).length+c2_6.length) * 80<=lim)/\((([]++c2_6).length+[(e2.2.1,(e2.2.2.1,(e2.2.2.2.1,(e2.2.2.2.2.1,(e2.2.2.2.2.2.1,(e2.2.2.2.2.2.2,()))))))].length) * 80<=lim)/\(Sm TTb tables)/\(Sm TSS (([]++c2_6)++[(e2.2.1,(e2.2.2.1,(e2.2.2.2.1,(e2.2.2.2.2.1,(e2.2.2.2.2.2.1,(e2.2.2.2.2.2.2,()))))))]))/\(LD (M.cY tables (([]++c2_6)++[(e2.2.1,(e2.2.2.1,(e2.2.2.2.1,(e2.2.2.2.2.1,(e2.2.2.2.2.2.1,(e2.2.2.2.2.2.2,()))))))])) fun r7=>cond r7.2 (((c2_6.length+[(e2.2.1,(e2.2.2.1,(e2.2.2.2.1,(e2.2.2.2.2.1,(e2.2.2.2.2.2.1,(e2.2.2.2.2.2.2,()))))))].length) * 80<=lim)/\(nxT (LP105_0 b p tables) m K (s105_0 b p tables (wrap64 (c2_0-Z1),e2.1,(c2_6++[(e2.2.1,(e2.2.2.1,(e2.2.2.2.1,(e2.2.2.2.2.1,(e2.2.2.2.2.2.1,(e2.2.2.2.2.2.2,()))))))]))))) (nxT (LP105_0 b p tables) m K (s105_0 b p tables (wrap64 (c2_0-Z1),e2.1,c2_6)))))) m_ (s105_2 b p tables v0.1 r3.1 (v0.2.2.length:Int) (wrap64 (wrap64 ((v0.2.2.length:Int)-Z1)-(wrap64 (r4.1.tdiv Z4)))) r6.1 r6.2 v0.2.2 r5.1 ()))))))))) (K (.exit 0) (⟨[(5,.own 26 none)],[(1000000,.box [.data TBy b,dI v0.2.1]),(26,.arr .sh ah v0.2.2)]⟩:St))):=by kernel_rfl
abbrev S105l2_0 (b:LI) (p:Int) (tables:LTb) (c2_0:Int) (c2_1:(List LC)) (c2_2:Int) (c2_3:Int) (c2_4:Int) (c2_5:Int) (c2_6:LS) (c2_7:Int) (v2:Unit) (m:Nat) (K:KX):Prop:=(Sm TBy b)/\(M.aq b)/\(0<=c2_5)/\(c2_5<=1000000000000000)/\(LD (M.pick b c2_5 c2_2) fun r8=>(0<=c2_3)/\(c2_3<(c2_1.length:Int))/\(0<=r8.1)/\(r8.1<(c2_1.length:Int))/\((([]:List ag.D).length+(nth (t:=TCS) c2_1 c2_3).length) * 16<=lim)/\((([]++(nth (t:=TCS) c2_1 c2_3)).length+(nth (t:=TCS) c2_1 r8.1).length) * 16<=lim)/\cond (decide (((([]++(nth (t:=TCS) c2_1 c2_3))++(nth (t:=TCS) c2_1 r8.1)).length:Int)<=Z4)) ((Sm TBy b)/\(Sm TCS (([]++(nth (t:=TCS) c2_1 c2_3))++(nth (t:=TCS) c2_1 r8.1)))/\(M.aq b)/\(0<=r8.2)/\(r8.2+40 * (M.eB Z2:Int)<=996000000000000)/\(Z2<=3)/\(Z2.toNat<64)/\(LD (M.bG 64 b r8.2 (([]++(nth (t:=TCS) c2_1 c2_3))++(nth (t:=TCS) c2_1 r8.1)) Z3 Z2) fun r9=>K (.exit 2) (⟨[(0,.ptr 1000000 0),(1,.data TTb tables),(5,.own 26 none),(6,dI c2_0),(11,.ptr 11 0)],[(1000000,.box [.data TBy b,dI r9.2]),(26,.arr .sh ah c2_6),(11,.box [dI Z4,dI c2_3,dI r8.1,dI Z0,.data TPS r9.1,.data (Ty.sl aC) []])]⟩:St))) (K (.exit 2) (⟨[(0,.ptr 1000000 0),(1,.data TTb tables),(5,.own 26 none),(6,dI c2_0),(11,.ptr 11 0)],[(1000000,.box [.data TBy b,dI r8.2]),(26,.arr .sh ah c2_6),(11,.box [dI Z1,dI Z0,dI Z0,dI c2_7,.data TPS [],.data (Ty.sl aC) []])]⟩:St)))
abbrev S105l2_1 (b:LI) (p:Int) (tables:LTb) (c2_0:Int) (c2_1:(List LC)) (c2_2:Int) (c2_3:Int) (c2_4:Int) (c2_5:Int) (c2_6:LS) (c2_7:Int) (v2:Unit) (m:Nat) (K:KX):Prop:=cond (decide (c2_4=Z4)) (∃m_,∃c5_0:Int,∃c5_1:(List LC),∃c5_2:Int,∃c5_3:Int,∃c5_4:Int,∃c5_5:LS,(c5_2<=ew/\True)/\cm (s105_5 b p tables c5_0 c5_1 c5_2 c5_3 c5_4 c5_5) Z0 c5_2 (F.ga b p tables c5_0 c5_1 c5_2 c5_3 c5_4 c5_5) (fun v5:Int×Int×Int×Int=>True) (bg (fun v5:Int×Int×Int×Int=>True->K (.exit 2) (⟨[(0,.ptr 1000000 0),(1,.data TTb tables),(5,.own 26 none),(6,dI c5_0),(11,.ptr 11 0)],[(1000000,.box [.data TBy b,dI c5_4]),(26,.arr .sh ah c5_5),(11,.box [dI v5.1,dI v5.2.1,dI v5.2.2.1,dI v5.2.2.2,.data TPS [],.data (Ty.sl aC) []])]⟩:St)) (fun _=>False)) m_ (s105_5 b p tables c2_0 c2_1 c2_2 c2_3 c2_5 c2_6 Z0 (Z1,Z0,Z0,c2_7))) (cond (decide (c2_4=Z5)) (K (.exit 2) (⟨[(0,.ptr 1000000 0),(1,.data TTb tables),(5,.own 26 none),(6,dI c2_0),(11,.ptr 11 0)],[(1000000,.box [.data TBy b,dI c2_5]),(26,.arr .sh ah c2_6),(11,.box [dI Z6,dI c2_3,dI Z0,dI Z0,.data TPS [],.data (Ty.sl aC) []])]⟩:St)) (K (.exit 2) (⟨[(0,.ptr 1000000 0),(1,.data TTb tables),(5,.own 26 none),(6,dI c2_0),(11,.ptr 11 0)],[(1000000,.box [.data TBy b,dI c2_5]),(26,.arr .sh ah c2_6),(11,.box [dI Z1,dI Z0,dI Z0,dI c2_7,.data TPS [],.data (Ty.sl aC) []])]⟩:St)))
theorem lvc105_1 (b:LI) (p:Int) (tables:LTb) (c2_0:Int) (c2_1:(List LC)) (c2_2:Int) (c2_3:Int) (c2_4:Int) (c2_5:Int) (c2_6:LS) (c2_7:Int) (v2:Unit) (m:Nat) (K:KX):lvT C105 (L105 b p tables) ann105 (qt [(1000002,true)] f105) 1 2 (s105_2 b p tables c2_0 c2_1 c2_2 c2_3 c2_4 c2_5 c2_6 c2_7 v2) m K =
 (cond (decide (c2_4=Z0)) ((0<=c2_3)/\(c2_3<(c2_1.length:Int))/\(Sm TBy b)/\(Sm TCS (nth (t:=TCS) c2_1 c2_3))/\(M.aq b)/\(0<=c2_5)/\(c2_5+40 * (M.eB Z2:Int)<=996000000000000)/\(Z2<=3)/\(Z2.toNat<64)/\(LD (M.bG 64 b c2_5 (nth (t:=TCS) c2_1 c2_3) Z3 Z2) fun r10=>K (.exit 2) (⟨[(0,.ptr 1000000 0),(1,.data TTb tables),(5,.own 26 none),(6,dI c2_0),(11,.ptr 11 0)],[(1000000,.box [.data TBy b,dI r10.2]),(26,.arr .sh ah c2_6),(11,.box [dI Z2,dI c2_3,dI Z0,dI Z0,.data TPS r10.1,.data (Ty.sl aC) []])]⟩:St))) (cond (decide (c2_4=Z1)) ((Sm TBy b)/\(M.aq b)/\(0<=c2_5)/\(c2_5<=1000000000000000)/\(LD (M.pick b c2_5 Z3) fun r11=>(∃m_,∃c3_0:Int,∃c3_1:(List LC),∃c3_2:Int,∃c3_3:LS,∃c3_4:Int,True/\ep (s105_3 b p tables c3_0 c3_1 c3_2 c3_3 c3_4) (F.fX b p tables c3_0 c3_1 c3_2 c3_3 c3_4) (fun v3:Int×Int×LI=>True) (fun e3:Int×LI=>True->K (.exit 2) (⟨[(0,.ptr 1000000 0),(1,.data TTb tables),(5,.own 26 none),(6,dI c3_0),(11,.ptr 11 0)],[(1000000,.box [.data TBy b,dI e3.1]),(26,.arr .sh ah c3_3),(11,.box [dI Z3,dI c3_4,dI Z0,dI Z0,.data TPS [],.data (Ty.sl aC) e3.2])]⟩:St)) m_ (s105_3 b p tables c2_0 c2_1 c2_3 c2_6 c2_3 (r11.1,r11.2,[]))))) (cond (decide (c2_4=Z2)) (cond (decide (c2_4=Z2)) (S105l2_0  b p tables c2_0 c2_1 c2_2 c2_3 c2_4 c2_5 c2_6 c2_7 v2 m K) (S105l2_1  b p tables c2_0 c2_1 c2_2 c2_3 c2_4 c2_5 c2_6 c2_7 v2 m K)) (cond (decide (c2_4=Z3)) (S105l2_0  b p tables c2_0 c2_1 c2_2 c2_3 c2_4 c2_5 c2_6 c2_7 v2 m K) (S105l2_1  b p tables c2_0 c2_1 c2_2 c2_3 c2_4 c2_5 c2_6 c2_7 v2 m K))))):=by kernel_rfl
abbrev S105l3_0 (b:LI) (p:Int) (tables:LTb) (c3_0:Int) (c3_1:(List LC)) (c3_2:Int) (c3_3:LS) (c3_4:Int) (v3:Int×Int×LI) (m:Nat) (K:KX):Prop:=K (.exit 3) (⟨[(0,.ptr 1000000 0),(1,.data TTb tables),(5,.own 26 none),(6,dI c3_0),(11,.ptr 11 0)],[(1000000,.box [.data TBy b,dI v3.2.1]),(26,.arr .sh ah c3_3),(11,.box [dI Z3,dI c3_4,dI Z0,dI Z0,.cst (.slice none 0 0),.own 800181 none]),(800181,.arr .sh aC v3.2.2)]⟩:St)
theorem lvc105_2 (b:LI) (p:Int) (tables:LTb) (c3_0:Int) (c3_1:(List LC)) (c3_2:Int) (c3_3:LS) (c3_4:Int) (v3:Int×Int×LI) (m:Nat) (K:KX):lvT C105 (L105 b p tables) ann105 (qt [(1000002,true)] f105) 2 3 (s105_3 b p tables c3_0 c3_1 c3_2 c3_3 c3_4 v3) m K =
 (cond ((decide (Z0<=v3.1))==true) ((0<=c3_2)/\(c3_2<(c3_1.length:Int))/\cond (decide (Z0<((nth (t:=TCS) c3_1 c3_2).length:Int))) ((0<=c3_2)/\(c3_2<(c3_1.length:Int))/\((Sm TBy b)/\(M.aq b)/\(0<=v3.2.1)/\(v3.2.1<=1000000000000000)/\(LD (M.pick b v3.2.1 ((nth (t:=TCS) c3_1 c3_2).length:Int)) fun r12=>((v3.2.2.length+[r12.1].length) * 8<=lim)/\(nxT (LP105_3 b p tables) m K (s105_3 b p tables c3_0 c3_1 c3_2 c3_3 c3_4 (wrap64 (v3.1-Z1),r12.2,(v3.2.2++[r12.1]))))))/\((Sm TBy b)/\(M.aq b)/\(0<=v3.2.1)/\(v3.2.1<=1000000000000000)/\(LD (M.pick b v3.2.1 ((nth (t:=TCS) c3_1 c3_2).length:Int)) fun r12=>Q0 (((v3.2.2.length+[r12.1].length) * 8<=lim)/\(nxT (LP105_3 b p tables) m K (s105_3 b p tables c3_0 c3_1 c3_2 c3_3 c3_4 (wrap64 (v3.1-Z1),r12.2,(v3.2.2++[r12.1])))))))) (S105l3_0  b p tables c3_0 c3_1 c3_2 c3_3 c3_4 v3 m K)) (S105l3_0  b p tables c3_0 c3_1 c3_2 c3_3 c3_4 v3 m K)):=by kernel_rfl
theorem lvc105_3 (b:LI) (p:Int) (tables:LTb) (c5_0:Int) (c5_1:(List LC)) (c5_2:Int) (c5_3:Int) (c5_4:Int) (c5_5:LS) (i5:Int) (v5:Int×Int×Int×Int) (m:Nat) (K:KX):lvT C105 (L105 b p tables) ann105 (qt [(1000002,true)] f105) 3 5 (s105_5 b p tables c5_0 c5_1 c5_2 c5_3 c5_4 c5_5 i5 v5) m K =
 (cond (decide (i5<c5_2)) ((Sm TTb tables)/\(Sm (Ty.sl TCS) c5_1)/\(Sm ah (Z5,(c5_3,(i5,(Z0,([],([],())))))))/\(LD (M.fJ tables c5_1 (Z5,(c5_3,(i5,(Z0,([],([],()))))))) fun r13=>cond r13.2 (nxT (LP105_5 b p tables) m K (s105_5 b p tables c5_0 c5_1 c5_2 c5_3 c5_4 c5_5 (wrap64 (i5+Z1)) (Z5,c5_3,i5,Z0))) (nxT (LP105_5 b p tables) m K (s105_5 b p tables c5_0 c5_1 c5_2 c5_3 c5_4 c5_5 (wrap64 (i5+Z1)) (v5.1,v5.2.1,v5.2.2.1,v5.2.2.2))))) (K (.exit 5) (⟨[(0,.ptr 1000000 0),(1,.data TTb tables),(5,.own 26 none),(6,dI c5_0),(11,.ptr 11 0)],[(1000000,.box [.data TBy b,dI c5_4]),(26,.arr .sh ah c5_5),(11,.box [dI v5.1,dI v5.2.1,dI v5.2.2.1,dI v5.2.2.2,.data TPS [],.data (Ty.sl aC) []])]⟩:St))):=by kernel_rfl
theorem con105_ok:bf P 105 c105:=Fg [(1000002,true)] C105 func105 (kC con41_ok (kC con42_ok (kC con70_ok (kC con119_ok kN)))) fun args hp K h0=>by
 unfold c105 at h0
 dsimp only at h0
 obtain⟨b,p,rfl,h00⟩:=fu h0
 obtain⟨a0,a1,rfl,_,h1⟩:=bT h00
 obtain⟨rfl,h2⟩:=dH h1
 obtain⟨tables,rfl,h3⟩:=bp h2
 obtain⟨h_b,h_tables,p0,p1,p2,p3,hK⟩:=h3
 have h:ok (F.jo b p tables) (fun r=>K (.own 0 none) [(0,.arr .sh ah r.1),(1000000,.box [.data TBy b,dI r.2])]):=az (F.xy b p tables h_b h_tables p0 p1 p2 p3) (hK _ rfl)
 refine⟨rfl,ann105,(L105 b p tables),.raw,(Fy (i0:=0) (i1:=2) (i2:=3) (i3:=5) (by kernel_rfl) ?_ ?_ ?_ ?_),?_⟩
 ·rintro _ _ K ⟨hc0,v0,rfl,hv0,h⟩
  exact cast (lvc105_0 _ _ _ _ _ _).symm (cS h (fun m1 hm0 h=>(oC h (fun _ h=>⟨h_tables,(oG h fun _ h=>(oL h fun r3 _ h=>(oC h (fun _ h=>h) fun _ h=>⟨h_b,(oG h fun g1 h=>(oG h fun _ h=>(oG h fun _ h=>(oL h fun r4 _ h=>⟨(by decide),(oC h (fun _ h=>⟨h_b,⟨g1,(oG h fun _ h=>(oG h fun _ h=>(oL h fun r5 _ h=>⟨h_b,⟨g1,(oG h fun _ h=>(oG h fun _ h=>(oL h fun r6 _ h=>(cj (fun m hm=>⟨v0.1,r3.1,(v0.2.2.length:Int),Z0,r6.1,r6.2,v0.2.2,r5.1,trivial,hm⟩) _ rfl trivial (gA h (fun e2 h hv2=>(q3 (oG h fun _ h=>(oG h fun _ h=>⟨h_tables,(oG h fun _ h=>(oL h fun _ _ h=>(oC h (fun _ h=>(oG h fun _ h=>(aX (fun _ hm=>⟨hc0,hm⟩) hm0 _ rfl trivial h))) fun _ h=>(aX (fun _ hm=>⟨hc0,hm⟩) hm0 _ rfl trivial h))))⟩)))))))))⟩⟩)))⟩⟩) fun _ h=>⟨h_b,⟨g1,(oG h fun _ h=>(oG h fun _ h=>(oL h fun r5 _ h=>⟨h_b,⟨g1,(oG h fun _ h=>(oG h fun _ h=>(oL h fun r6 _ h=>(cj (fun m hm=>⟨v0.1,r3.1,(v0.2.2.length:Int),(wrap64 (wrap64 ((v0.2.2.length:Int)-Z1)-(wrap64 (r4.1.tdiv Z4)))),r6.1,r6.2,v0.2.2,r5.1,trivial,hm⟩) _ rfl trivial (gA h (fun e2 h hv2=>(q3 (oG h fun _ h=>(oG h fun _ h=>⟨h_tables,(oG h fun _ h=>(oL h fun _ _ h=>(oC h (fun _ h=>(oG h fun _ h=>(aX (fun _ hm=>⟨hc0,hm⟩) hm0 _ rfl trivial h))) fun _ h=>(aX (fun _ hm=>⟨hc0,hm⟩) hm0 _ rfl trivial h))))⟩)))))))))⟩⟩)))⟩⟩)⟩))))⟩)))⟩) fun _ h=>((cB h :) trivial))))
 ·rintro _ _ K ⟨c2_0,c2_1,c2_2,c2_3,c2_4,c2_5,c2_6,c2_7,hc2,v2,rfl,hv2,h⟩
  exact cast (lvc105_1 _ _ _ _ _ _ _ _ _ _ _ _ _ _).symm (cS h (fun m1 hm2 h=>(oC h (fun _ h=>(oG h fun _ h=>(oG h fun _ h=>⟨h_b,(oG h fun _ h=>(oG h fun _ h=>(oG h fun _ h=>(oG h fun _ h=>(oG h fun _ h=>(oG h fun _ h=>(oL h fun _ _ h=>((cB h :) trivial))))))))⟩))) fun _ h=>(oC h (fun _ h=>⟨h_b,(oG h fun _ h=>(oG h fun _ h=>(oG h fun _ h=>(oL h fun _ _ h=>(cj (fun m hm=>⟨c2_0,c2_1,c2_3,c2_6,c2_3,trivial,hm⟩) _ rfl trivial (gA h (fun e3 h hv3=>((cB h :) trivial))))))))⟩) fun _ h=>(oC h (fun b_41 h=>(bE b_41 ⟨h_b,(oG h fun g2 h=>(oG h fun _ h=>(oG h fun _ h=>(oL h fun _ _ h=>(oG h fun _ h=>(oG h fun _ h=>(oG h fun _ h=>(oG h fun _ h=>(oG h fun _ h=>(oG h fun _ h=>(oC h (fun _ h=>⟨h_b,(oG h fun _ h=>⟨g2,(oG h fun _ h=>(oG h fun _ h=>(oG h fun _ h=>(oG h fun _ h=>(oL h fun _ _ h=>((cB h :) trivial))))))⟩)⟩) fun _ h=>((cB h :) trivial))))))))))))⟩)) fun _ h=>(oC h (fun _ h=>⟨h_b,(oG h fun g3 h=>(oG h fun _ h=>(oG h fun _ h=>(oL h fun _ _ h=>(oG h fun _ h=>(oG h fun _ h=>(oG h fun _ h=>(oG h fun _ h=>(oG h fun _ h=>(oG h fun _ h=>(oC h (fun _ h=>⟨h_b,(oG h fun _ h=>⟨g3,(oG h fun _ h=>(oG h fun _ h=>(oG h fun _ h=>(oG h fun _ h=>(oL h fun _ _ h=>((cB h :) trivial))))))⟩)⟩) fun _ h=>((cB h :) trivial))))))))))))⟩) fun _ h=>(oC h (fun _ h=>(have hi_0:=(aD h).1;have h:=(aD h).2;(bA (fun m hm=>⟨c2_0,c2_1,c2_2,c2_3,c2_5,c2_6,⟨hi_0,trivial⟩,hm⟩) Z0 _ rfl (Int.natCast_nonneg 0) trivial (aT h (fun v5 h hv5=>((cB h :) trivial)) (fun _ h=>h.elim))))) fun _ h=>(oC h (fun _ h=>((cB h :) trivial)) fun _ h=>((cB h :) trivial)))))))))
 ·rintro _ _ K ⟨c3_0,c3_1,c3_2,c3_3,c3_4,hc3,v3,rfl,hv3,h⟩
  exact cast (lvc105_2 _ _ _ _ _ _ _ _ _ _ _).symm (cS h (fun m1 hm3 h=>(oC h (fun _ h=>(oG h fun g4 h=>(oG h fun g5 h=>(oC h (fun _ h=>⟨g4,⟨g5,((fun(g3_0:M.aq b)=>(fun(g3_1:0<=v3.2.1)=>(fun(g3_2:v3.2.1<=1000000000000000)=>(fun(g3_3:(v3.2.2.length+[(M.pick b v3.2.1 ((nth (t:=TCS) c3_1 c3_2).length:Int)).1].length) * 8<=lim)=>⟨⟨h_b,⟨g3_0,have g6:=g3_0;⟨g3_1,have g7:=g3_1;⟨g3_2,have g8:=g3_2;(fun r12 er12=>(have g9:(v3.2.2.length+[r12.1].length) * 8<=lim:=(by rw[er12];exact g3_3);⟨g9,(have h:=(aD (cL (aD (aD (aD h).2).2).2 r12 er12)).2;(aX (fun _ hm=>⟨c3_0,c3_1,c3_2,c3_3,c3_4,hc3,hm⟩) hm3 _ rfl trivial h))⟩))⟩⟩⟩⟩,⟨h_b,⟨g3_0,have g10:=g3_0;⟨g3_1,have g11:=g3_1;⟨g3_2,have g12:=g3_2;(fun r12 er12=>(q0 (have g13:(v3.2.2.length+[r12.1].length) * 8<=lim:=(by rw[er12];exact g3_3);⟨g13,(have h:=(aD (cL (aD (aD (aD h).2).2).2 r12 er12)).2;(aX (fun _ hm=>⟨c3_0,c3_1,c3_2,c3_3,c3_4,hc3,hm⟩) hm3 _ rfl trivial h))⟩)))⟩⟩⟩⟩⟩) (aD (cL (aD (aD (aD h).2).2).2 _ rfl)).1) (aD (aD (aD h).2).2).1) (aD (aD h).2).1) (aD h).1)⟩⟩) fun _ h=>((cB h :) trivial))))) fun _ h=>((cB h :) trivial))))
 ·rintro _ _ K ⟨c5_0,c5_1,c5_2,c5_3,c5_4,c5_5,hc5,i5,v5,rfl,hl5,rfl,hv5,h⟩
  exact cast (lvc105_3 _ _ _ _ _ _ _ _ _ _ _ _ _).symm (bM h (fun ht5 h=>⟨h_tables,(oG h fun _ h=>⟨(show Sm ah _ from⟨trivial,(show Sm (Ty.pair aC (Ty.pair aC (Ty.pair aC (Ty.pair TPS (Ty.pair (Ty.sl aC) Ty.unit))))) _ from⟨trivial,(show Sm (Ty.pair aC (Ty.pair aC (Ty.pair TPS (Ty.pair (Ty.sl aC) Ty.unit)))) _ from⟨trivial,(show Sm (Ty.pair aC (Ty.pair TPS (Ty.pair (Ty.sl aC) Ty.unit))) _ from⟨trivial,(show Sm (Ty.pair TPS (Ty.pair (Ty.sl aC) Ty.unit)) _ from⟨(jN aE),(show Sm (Ty.pair (Ty.sl aC) Ty.unit) _ from⟨(jN aC),trivial⟩)⟩)⟩)⟩)⟩)⟩),(oL h fun _ _ h=>(oC h (fun _ h=>(aN (fun _ hm=>⟨c5_0,c5_1,c5_2,c5_3,c5_4,c5_5,hc5,hm⟩) _ rfl hl5 fS ht5 hc5.1 trivial h)) fun _ h=>(aN (fun _ hm=>⟨c5_0,c5_1,c5_2,c5_3,c5_4,c5_5,hc5,hm⟩) _ rfl hl5 fS ht5 hc5.1 trivial h)))⟩)⟩) fun h=>(h trivial))
 ·rw[vc105]
  exact⟨h_b,⟨p0,⟨p1,(oG h fun _ h=>(oL h fun _ _ h=>⟨h_b,⟨p0,(oG h fun _ h=>(oG h fun _ h=>(oL h fun _ _ h=>(cj (fun m hm=>⟨trivial,hm⟩) _ rfl trivial (aT h (fun e0 h hv0=>h) (fun q0 h=>h))))))⟩⟩))⟩⟩⟩
def c55:Con:=⟨[.any,.dat aC],fun args hp K=>hpR (fun b p=>args2 (fun a0 a1=>mY a0 (ff aC a1 fun n=>(Sm TBy b)/\(M.aq b)/\(0<=p)/\(p<=994000000000000)/\(LD (M.gE b p n) fun r=>K (.tup [.data TTb r.1,.data TSS r.2.1]) [(1000000,.box [.data TBy b,dI r.2.2])]))) args []) hp,.plain,true⟩
abbrev C55:Ctx:=cx [(41,c41),(104,c104),(105,c105),(106,c106)] 48 [] 0 false
def ann55:=an [[kp 3],[.weak 9,kp 67],[kp 195],[kp 32961],[kp 131265],[.weak 19,kp 192],[kp 1179841],[kp 192],[kp 8519873],[kp 192],[kp 34359738561],[kp 192],[kp 48]] []
theorem vc55 (b:LI) (p:Int) (n:Int) (K:KA):vcT C55 aB ann55 f55 [.ptr 1000000 0,dI n] [(1000000,.box [.data TBy b,dI p])] (.tup [TTb,TSS]) K =
 ((Sm TBy b)/\(M.aq b)/\(0<=p)/\(p<=995000000000000)/\(LD (M.dU b p Z0) fun r1=>(Sm TBy b)/\(Sm TTb r1.1)/\(M.aq b)/\(0<=r1.2)/\(r1.2<=995000000000000)/\(∀t∈r1.1,M.iA t)/\(LD (M.kg b r1.2 r1.1) fun r2=>(Sm TBy b)/\(M.aq b)/\(0<=r2.2)/\(r2.2<=999000000000000)/\(LD (M.odd b r2.2 n) fun r3=>cond r3.1 ((Sm TBy b)/\(M.aq b)/\(0<=r3.2)/\(r3.2<=1000000000000000)/\(LD (M.pick b r3.2 Z4) fun r4=>cond (decide (r4.1=Z0)) (K (.tup [.data TTb r1.1,.data TSS []]) [(1000000,.box [.data TBy b,dI r4.2])]) (cond (decide (r4.1=Z1)) ((Sm TBy b)/\(M.aq b)/\(0<=r4.2)/\(r4.2<=1000000000000000)/\(LD (M.pick b r4.2 (r2.1.length:Int)) fun r5=>(Sm TBy b)/\(M.aq b)/\(0<=r5.2)/\(r5.2<=1000000000000000)/\(LD (M.pick b r5.2 (8:Int)) fun r6=>(0<=r5.1)/\(r5.1<(r2.1.length:Int))/\(let y1:LS:=(r2.1.set r5.1.toNat ((nS r2.1 r5.1).1,(wrap64 (r6.1-Z1),(nS r2.1 r5.1).2.2)));K (.tup [.data TTb r1.1,.data TSS y1]) [(1000000,.box [.data TBy b,dI r6.2])])))) (cond (decide (r4.1=Z2)) ((Sm TBy b)/\(M.aq b)/\(0<=r4.2)/\(r4.2<=1000000000000000)/\(LD (M.pick b r4.2 (r2.1.length:Int)) fun r7=>(Sm TBy b)/\(M.aq b)/\(0<=r7.2)/\(r7.2<=1000000000000000)/\(LD (M.pick b r7.2 (8:Int)) fun r8=>(0<=r7.1)/\(r7.1<(r2.1.length:Int))/\K (.tup [.data TTb r1.1,.data TSS (r2.1.set r7.1.toNat (r8.1,(nS r2.1 r7.1).2))]) [(1000000,.box [.data TBy b,dI r8.2])]))) ((Sm TBy b)/\(M.aq b)/\(0<=r4.2)/\(r4.2<=995000000000000)/\(LD (M.dU b r4.2 Z1) fun r9=>K (.tup [.data TTb r9.1,.data TSS r2.1]) [(1000000,.box [.data TBy b,dI r9.2])])))))) (K (.tup [.data TTb r1.1,.data TSS r2.1]) [(1000000,.box [.data TBy b,dI r3.2])]))))):=by kernel_rfl
theorem con55_ok:bf P 55 c55:=br C55 func55 (kC con41_ok (kC con104_ok (kC con105_ok (kC con106_ok kN)))) fun args hp K h0=>by
 unfold c55 at h0
 dsimp only at h0
 obtain⟨b,p,rfl,h00⟩:=fu h0
 obtain⟨a0,a1,rfl,_,h1⟩:=bT h00
 obtain⟨rfl,h2⟩:=dH h1
 obtain⟨n,rfl,h3⟩:=bp h2
 obtain⟨h_b,p0,p1,p2,hK⟩:=h3
 have h:ok (F.jy b p n) (fun r=>K (.tup [.data TTb r.1,.data TSS r.2.1]) [(1000000,.box [.data TBy b,dI r.2.2])]):=az (F.xg b p n h_b p0 p1 p2) (hK _ rfl)
 refine⟨rfl,ann55,aB,(.tup [TTb,TSS]),(aH (by kernel_rfl)),?_⟩
 ·rw[vc55]
  exact⟨h_b,⟨p0,⟨p1,(oG h fun _ h=>(oL h fun _ _ h=>⟨h_b,(oG h fun _ h=>⟨p0,(oG h fun _ h=>(oG h fun _ h=>(oG h fun _ h=>(oL h fun _ _ h=>⟨h_b,⟨p0,(oG h fun _ h=>(oG h fun _ h=>(oL h fun _ _ h=>(oC h (fun _ h=>⟨h_b,⟨p0,(oG h fun _ h=>(oG h fun _ h=>(oL h fun _ _ h=>(oC h (fun _ h=>h) fun _ h=>(oC h (fun _ h=>⟨h_b,⟨p0,(oG h fun _ h=>(oG h fun _ h=>(oL h fun _ _ h=>⟨h_b,⟨p0,(oG h fun _ h=>(oG h fun _ h=>(oL h fun _ _ h=>(oG h fun _ h=>(oG h fun _ h=>(have h:=cL h _ rfl;h))))))⟩⟩)))⟩⟩) fun _ h=>(oC h (fun _ h=>⟨h_b,⟨p0,(oG h fun _ h=>(oG h fun _ h=>(oL h fun _ _ h=>⟨h_b,⟨p0,(oG h fun _ h=>(oG h fun _ h=>(oL h fun _ _ h=>(oG h fun _ h=>(oG h fun _ h=>h)))))⟩⟩)))⟩⟩) fun _ h=>⟨h_b,⟨p0,(oG h fun _ h=>(oG h fun _ h=>(oL h fun _ _ h=>h)))⟩⟩))))))⟩⟩) fun _ h=>h))))⟩⟩))))⟩)⟩))⟩⟩⟩
def c16:Con:=⟨[.dat TBy],fun args hp K=>g1 (pD TBy) (fun code=>(Sm TBy code)/\(M.aq code)/\(LD (M.de code) fun r=>K (.tup [.data TTb r.1,.data TSS r.2]) [])) args hp,.plain,false⟩
abbrev C16:Ctx:=cx [(55,c55)] 9 [(39,T39)] 0 false
def ann16:=an [[kp 1],[kp 12]] []
theorem vc16 (code:LI) (K:KA):vcT C16 aB ann16 f16 [.data TBy code] [] (.tup [TTb,TSS]) K =
 (cond (decide ((2000:Int)<(code.length:Int))) ((0<=Z0)/\(Z0<=(2000:Int))/\((2000:Int)<=(code.length:Int))/\((2000:Int)=(2000:Int))/\(Sm TBy (ay code (some (Z0,(2000:Int)))))/\(M.aq (ay code (some (Z0,(2000:Int)))))/\(0<=Z0)/\(Z0<=994000000000000)/\(LD (M.gE (ay code (some (Z0,(2000:Int)))) Z0 (12:Int)) fun r1=>K (.tup [.data TTb r1.1,.data TSS r1.2.1]) [])) ((Sm TBy code)/\(M.aq code)/\(0<=Z0)/\(Z0<=994000000000000)/\(LD (M.gE code Z0 (12:Int)) fun r1=>K (.tup [.data TTb r1.1,.data TSS r1.2.1]) []))):=by kernel_rfl
theorem con16_ok:bf P 16 c16:=br C16 func16 (kC con55_ok (kI inlOk39 kN)) fun args hp K h0=>by
 obtain⟨code,rfl,rfl,h_code,p0,hK⟩:=g1e h0
 have h:ok (F.eZ code) (fun r=>K (.tup [.data TTb r.1,.data TSS r.2]) []):=az (F.qG code h_code p0) (hK _ rfl)
 refine⟨rfl,ann16,aB,(.tup [TTb,TSS]),(aH (by kernel_rfl)),?_⟩
 ·rw[vc16]
  exact(oC h (fun _ h=>⟨(Int.natCast_nonneg 0),(oG h fun _ h=>(oG h fun _ h=>⟨rfl,⟨(EM h_code _),(oG h fun _ h=>(oG h fun _ h=>(oG h fun _ h=>(oL h fun _ _ h=>h))))⟩⟩))⟩) fun _ h=>⟨h_code,⟨p0,(oG h fun _ h=>(oG h fun _ h=>(oL h fun _ _ h=>h)))⟩⟩)
def c98:Con:=⟨[.dat ag],fun args hp K=>g1 (pD ag) (fun c=>K (dB (!M.ez c)) []) args hp,.plain,false⟩
abbrev C98:Ctx:=cx [(67,c67)] 7 [] 0 false
def ann98:=an [[.fixRow 1 ag,kp 2],[kp 4]] []
theorem vc98 (c:ag.D) (K:KA):vcT C98 aB ann98 f98 [.data ag c] [] (.dat Ty.bool) K =
 (K (dB (!(M.inR c.1 Z1 Z3))) []):=by kernel_rfl
theorem con98_ok:bf P 98 c98:=br C98 func98 (kC con67_ok kN) fun args hp K h0=>by
 obtain⟨c,rfl,rfl,hK⟩:=g1e h0
 have h:ok (F.oE c) (fun r=>K (dB r) []):=az (F.si c) hK
 refine⟨rfl,ann98,aB,(.dat Ty.bool),(aH (by kernel_rfl)),?_⟩
 ·rw[vc98]
  exact h
def c146:Con:=⟨[.lent ag,.any],fun args hp K=>args2 (fun a0 a1=>lJ ag a0 fun xs=>qs 98 a1 (wK ((Sm TCS xs)/\K (dI (M.idx (t:=ag) (fun e=>!M.ez e) xs)) []))) args hp,.plain,false⟩
abbrev C146:Ctx:=cx [(98,c98)] 19 [] 0 false
def ann146:=an [[kp 3],[kp 387],[kp 899],[kp 419],[kp 65955],[kp 16],[kp 387],[kp 16]] [[kp 0]]
abbrev s146_0 (xs:LC) (i0:Int) (v0:Unit):St:=⟨[(0,.brw ag xs),(1,.fn 98 []),(7,dI (xs.length:Int)),(8,dI i0)],[]⟩
abbrev LP146_0 (xs:LC) (m:Nat) (st_:St) (K:KX):Prop:=True/\cm (s146_0 xs) Z0 (xs.length:Int) (F.cJ xs) (fun v0:Unit=>True) (bg (fun v0:Unit=>True->K (.exit 0) (⟨[],[]⟩:St)) (fun q0:Int=>K .ret (⟨[(4,dI q0)],[]⟩:St))) m st_
def L146 (xs:LC):bH:=lp1 0 (LP146_0 xs)
theorem vc146 (xs:LC) (K:KA):vcT C146 (L146 xs) ann146 f146 [.brw ag xs,.fn 98 []] [] (.dat aC) K =
 (∃m_,True/\cm (s146_0 xs) Z0 (xs.length:Int) (F.cJ xs) (fun v0:Unit=>True) (bg (fun v0:Unit=>True->K (dI (-1:Int)) []) (fun q0:Int=>K (dI q0) [])) m_ (s146_0 xs Z0 ())):=by kernel_rfl
theorem lvc146_0 (xs:LC)  (i0:Int) (v0:Unit) (m:Nat) (K:KX):lvT C146 (L146 xs) ann146 f146 0 0 (s146_0 xs i0 v0) m K =
 (cond (decide (i0<(xs.length:Int))) ((0<=i0)/\(i0<(xs.length:Int))/\cond (!M.ez (nC xs i0)) (K .ret (⟨[(4,dI i0)],[]⟩:St)) (nxT (LP146_0 xs) m K (s146_0 xs (wrap64 (i0+Z1)) ()))) (K (.exit 0) (⟨[],[]⟩:St))):=by kernel_rfl
theorem con146_ok:bf P 146 c146:=br C146 func146 (kC con98_ok kN) fun args hp K h0=>by
 obtain⟨a0,a1,rfl,rfl,h1⟩:=bT h0
 obtain⟨xs,rfl,h2⟩:=cZ h1
 obtain⟨cs1,rfl,h3⟩:=fj h2
 obtain⟨rfl,h4⟩:=jU h3
 obtain⟨h_xs,hK⟩:=h4
 have h:ok (F.gZ xs) (fun r=>K (dI r) []):=az (F.kU xs h_xs) hK
 refine⟨rfl,ann146,(L146 xs),(.dat aC),(bL (i0:=0) (by kernel_rfl) ?_),?_⟩
 ·rintro _ _ K ⟨hc0,i0,v0,rfl,hl0,rfl,hv0,h⟩
  exact cast (lvc146_0 _ _ _ _ _).symm (bM h (fun ht0 h=>⟨hl0,⟨ht0,(oC h (fun _ h=>h) fun _ h=>(aN (fun _ hm=>⟨hc0,hm⟩) _ rfl hl0 fS ht0 (bz h_xs) trivial h))⟩⟩) fun h=>(h trivial))
 ·rw[vc146]
  exact(bA (fun m hm=>⟨trivial,hm⟩) Z0 _ rfl (Int.natCast_nonneg 0) trivial (aT h (fun v0 h hv0=>h) (fun q0 h=>h)))
def c97:Con:=⟨[.lent ag,.any],fun args hp K=>args2 (fun a0 a1=>lJ ag a0 fun xs=>qs 98 a1 (wK ((Sm TCS xs)/\K (dB (List.any xs (fun e=>!M.ez e))) []))) args hp,.plain,false⟩
abbrev C97:Ctx:=cx [(98,c98),(146,c146)] 9 [] 0 false
def ann97:=an [[kp 3],[kp 16]] []
theorem vc97 (xs:LC) (K:KA):vcT C97 aB ann97 f97 [.brw ag xs,.fn 98 []] [] (.dat Ty.bool) K =
 ((Sm TCS xs)/\K (dB (decide (Z0<=(M.idx (t:=ag) (fun e=>!M.ez e) xs)))) []):=by kernel_rfl
theorem con97_ok:bf P 97 c97:=br C97 func97 (kC con98_ok (kC con146_ok kN)) fun args hp K h0=>by
 obtain⟨a0,a1,rfl,rfl,h1⟩:=bT h0
 obtain⟨xs,rfl,h2⟩:=cZ h1
 obtain⟨cs1,rfl,h3⟩:=fj h2
 obtain⟨rfl,h4⟩:=jU h3
 obtain⟨h_xs,hK⟩:=h4
 have h:ok (F.dR xs) (fun r=>K (dB r) []):=az (F.jm xs h_xs) hK
 refine⟨rfl,ann97,aB,(.dat Ty.bool),(aH (by kernel_rfl)),?_⟩
 ·rw[vc97]
  exact⟨h_xs,h⟩
def c49:Con:=⟨[.dat TCS],fun args hp K=>g1 (pD TCS) (fun columns=>(Sm TCS columns)/\K (dB (M.bD columns)) []) args hp,.plain,false⟩
abbrev C49:Ctx:=cx [(97,c97)] 11 [] 0 false
def ann49:=an [[kp 1],[kp 4]] []
theorem vc49 (columns:LC) (K:KA):vcT C49 aB ann49 f49 [.data TCS columns] [] (.dat Ty.bool) K =
 (cond ((decide ((columns.length:Int)<=Z4))==true) ((Sm TCS columns)/\K (dB (!(List.any columns (fun e=>!M.ez e)))) []) (K (dB false) [])):=by kernel_rfl
theorem con49_ok:bf P 49 c49:=br C49 func49 (kC con97_ok kN) fun args hp K h0=>by
 obtain⟨columns,rfl,rfl,h_columns,hK⟩:=g1e h0
 have h:ok (F.mE columns) (fun r=>K (dB r) []):=az (F.uc columns h_columns) hK
 refine⟨rfl,ann49,aB,(.dat Ty.bool),(aH (by kernel_rfl)),?_⟩
 ·rw[vc49]
  exact(oC h (fun _ h=>⟨h_columns,h⟩) fun _ h=>h)
def c150:Con:=⟨[.dat af],fun args hp K=>g1 (pD af) (fun v=>(Sm af v)/\K (dB (!M.aR v)) []) args hp,.plain,false⟩
abbrev C150:Ctx:=cx [(99,c99)] 6 [] 0 false
def ann150:=an [[.fixRow 1 af,kp 2],[kp 4]] []
theorem vc150 (v:af.D) (K:KA):vcT C150 aB ann150 f150 [.data af v] [] (.dat Ty.bool) K =
 ((Sm af v)/\K (dB (!(M.aR v))) []):=by kernel_rfl
theorem con150_ok:bf P 150 c150:=br C150 func150 (kC con99_ok kN) fun args hp K h0=>by
 obtain⟨v,rfl,rfl,h_v,hK⟩:=g1e h0
 have h:ok (F.uq v) (fun r=>K (dB r) []):=az (F.xu v h_v) hK
 refine⟨rfl,ann150,aB,(.dat Ty.bool),(aH (by kernel_rfl)),?_⟩
 ·rw[vc150]
  exact⟨h_v,h⟩
def c184:Con:=⟨[.lent af,.any],fun args hp K=>args2 (fun a0 a1=>lJ af a0 fun xs=>qs 150 a1 (wK ((Sm TVS xs)/\K (dI (M.idx (t:=af) (fun e=>!M.aR e) xs)) []))) args hp,.plain,false⟩
abbrev C184:Ctx:=cx [(150,c150)] 19 [] 0 false
def ann184:=an [[kp 3],[kp 387],[kp 899],[kp 419],[kp 65955],[kp 16],[kp 387],[kp 16]] [[kp 0]]
abbrev s184_0 (xs:LV) (i0:Int) (v0:Unit):St:=⟨[(0,.brw af xs),(1,.fn 150 []),(7,dI (xs.length:Int)),(8,dI i0)],[]⟩
abbrev LP184_0 (xs:LV) (m:Nat) (st_:St) (K:KX):Prop:=True/\cm (s184_0 xs) Z0 (xs.length:Int) (F.dy xs) (fun v0:Unit=>True) (bg (fun v0:Unit=>True->K (.exit 0) (⟨[],[]⟩:St)) (fun q0:Int=>K .ret (⟨[(4,dI q0)],[]⟩:St))) m st_
def L184 (xs:LV):bH:=lp1 0 (LP184_0 xs)
theorem vc184 (xs:LV) (K:KA):vcT C184 (L184 xs) ann184 f184 [.brw af xs,.fn 150 []] [] (.dat aC) K =
 (∃m_,True/\cm (s184_0 xs) Z0 (xs.length:Int) (F.dy xs) (fun v0:Unit=>True) (bg (fun v0:Unit=>True->K (dI (-1:Int)) []) (fun q0:Int=>K (dI q0) [])) m_ (s184_0 xs Z0 ())):=by kernel_rfl
theorem lvc184_0 (xs:LV)  (i0:Int) (v0:Unit) (m:Nat) (K:KX):lvT C184 (L184 xs) ann184 f184 0 0 (s184_0 xs i0 v0) m K =
 (cond (decide (i0<(xs.length:Int))) ((0<=i0)/\(i0<(xs.length:Int))/\(Sm af (nV xs i0))/\cond (!M.aR (nV xs i0)) (K .ret (⟨[(4,dI i0)],[]⟩:St)) (nxT (LP184_0 xs) m K (s184_0 xs (wrap64 (i0+Z1)) ()))) (K (.exit 0) (⟨[],[]⟩:St))):=by kernel_rfl
theorem con184_ok:bf P 184 c184:=br C184 func184 (kC con150_ok kN) fun args hp K h0=>by
 obtain⟨a0,a1,rfl,rfl,h1⟩:=bT h0
 obtain⟨xs,rfl,h2⟩:=cZ h1
 obtain⟨cs1,rfl,h3⟩:=fj h2
 obtain⟨rfl,h4⟩:=jU h3
 obtain⟨h_xs,hK⟩:=h4
 have h:ok (F.jw xs) (fun r=>K (dI r) []):=az (F.mV xs h_xs) hK
 refine⟨rfl,ann184,(L184 xs),(.dat aC),(bL (i0:=0) (by kernel_rfl) ?_),?_⟩
 ·rintro _ _ K ⟨hc0,i0,v0,rfl,hl0,rfl,hv0,h⟩
  exact cast (lvc184_0 _ _ _ _ _).symm (bM h (fun ht0 h=>⟨hl0,⟨ht0,⟨(aQ h_xs i0),(oC h (fun _ h=>h) fun _ h=>(aN (fun _ hm=>⟨hc0,hm⟩) _ rfl hl0 fS ht0 (bz h_xs) trivial h))⟩⟩⟩) fun h=>(h trivial))
 ·rw[vc184]
  exact(bA (fun m hm=>⟨trivial,hm⟩) Z0 _ rfl (Int.natCast_nonneg 0) trivial (aT h (fun v0 h hv0=>h) (fun q0 h=>h)))
def c149:Con:=⟨[.lent af,.any],fun args hp K=>args2 (fun a0 a1=>lJ af a0 fun xs=>qs 150 a1 (wK ((Sm TVS xs)/\K (dB (List.any xs (fun e=>!M.aR e))) []))) args hp,.plain,false⟩
abbrev C149:Ctx:=cx [(150,c150),(184,c184)] 9 [] 0 false
def ann149:=an [[kp 3],[kp 16]] []
theorem vc149 (xs:LV) (K:KA):vcT C149 aB ann149 f149 [.brw af xs,.fn 150 []] [] (.dat Ty.bool) K =
 ((Sm TVS xs)/\K (dB (decide (Z0<=(M.idx (t:=af) (fun e=>!M.aR e) xs)))) []):=by kernel_rfl
theorem con149_ok:bf P 149 c149:=br C149 func149 (kC con150_ok (kC con184_ok kN)) fun args hp K h0=>by
 obtain⟨a0,a1,rfl,rfl,h1⟩:=bT h0
 obtain⟨xs,rfl,h2⟩:=cZ h1
 obtain⟨cs1,rfl,h3⟩:=fj h2
 obtain⟨rfl,h4⟩:=jU h3
 obtain⟨h_xs,hK⟩:=h4
 have h:ok (F.eR xs) (fun r=>K (dB r) []):=az (F.lF xs h_xs) hK
 refine⟨rfl,ann149,aB,(.dat Ty.bool),(aH (by kernel_rfl)),?_⟩
 ·rw[vc149]
  exact⟨h_xs,h⟩
def c103:Con:=⟨[.dat TVS],fun args hp K=>g1 (pD TVS) (fun row=>(Sm TVS row)/\K (dB (M.oU row)) []) args hp,.plain,false⟩
abbrev C103:Ctx:=cx [(149,c149)] 11 [] 0 false
def ann103:=an [[kp 1],[kp 4]] []
theorem vc103 (row:LV) (K:KA):vcT C103 aB ann103 f103 [.data TVS row] [] (.dat Ty.bool) K =
 (cond ((decide ((row.length:Int)<=Z4))==true) ((Sm TVS row)/\K (dB (!(List.any row (fun e=>!M.aR e)))) []) (K (dB false) [])):=by kernel_rfl
theorem con103_ok:bf P 103 c103:=br C103 func103 (kC con149_ok kN) fun args hp K h0=>by
 obtain⟨row,rfl,rfl,h_row,hK⟩:=g1e h0
 have h:ok (F.sF row) (fun r=>K (dB r) []):=az (F.Av row h_row) hK
 refine⟨rfl,ann103,aB,(.dat Ty.bool),(aH (by kernel_rfl)),?_⟩
 ·rw[vc103]
  exact(oC h (fun _ h=>⟨h_row,h⟩) fun _ h=>h)
def c54:Con:=⟨[.dat TCS,.dat TVS],fun args hp K=>g2 (pD TCS) (pD TVS) (fun columns row=>(Sm TCS columns)/\(Sm TVS row)/\K (dB (M.cw columns row)) []) args hp,.plain,false⟩
abbrev C54:Ctx:=cx [(49,c49),(103,c103)] 51 [] 0 false
def ann54:=an [[kp 3],[kp 2097155],[kp 16],[kp 29360129],[kp 62914561],[.fixRow 6 af,kp 29360225],[kp 562949982781441],[kp 16],[kp 29360129],[kp 16]] [[kp 0]]
abbrev s54_0 (columns:LC) (row:LV) (i0:Int) (v0:Unit):St:=⟨[(0,.data TCS columns),(22,.data TVS row),(23,dI (row.length:Int)),(24,dI i0)],[]⟩
abbrev LP54_0 (columns:LC) (row:LV) (m:Nat) (st_:St) (K:KX):Prop:=True/\cm (s54_0 columns row) Z0 (row.length:Int) (F.iS columns row) (fun v0:Unit=>True) (bg (fun v0:Unit=>True->K (.exit 0) (⟨[],[]⟩:St)) (fun q0:Unit=>K .ret (⟨[(4,dB false)],[]⟩:St))) m st_
def L54 (columns:LC) (row:LV):bH:=lp1 0 (LP54_0 columns row)
theorem vc54 (columns:LC) (row:LV) (K:KA):vcT C54 (L54 columns row) ann54 f54 [.data TCS columns,.data TVS row] [] (.dat Ty.bool) K =
 ((Sm TCS columns)/\cond ((!(M.bD columns))==false) ((Sm TVS row)/\cond ((!(M.oU row))==false) (cond (!decide ((row.length:Int)=(columns.length:Int))) (K (dB false) []) (∃m_,True/\cm (s54_0 columns row) Z0 (row.length:Int) (F.iS columns row) (fun v0:Unit=>True) (bg (fun v0:Unit=>True->K (dB true) []) (fun q0:Unit=>K (dB false) [])) m_ (s54_0 columns row Z0 ()))) (K (dB false) [])) (K (dB false) [])):=by kernel_rfl
theorem lvc54_0 (columns:LC) (row:LV)  (i0:Int) (v0:Unit) (m:Nat) (K:KX):lvT C54 (L54 columns row) ann54 f54 0 0 (s54_0 columns row i0 v0) m K =
 (cond (decide (i0<(row.length:Int))) ((0<=i0)/\(i0<(row.length:Int))/\(0<=i0)/\(i0<(columns.length:Int))/\cond ((!decide ((nV row i0).1=(nC columns i0).1))==true) (cond ((!decide ((nV row i0).1=Z0))==false) ((0<=i0)/\(i0<(columns.length:Int))/\cond (!(nC columns i0).2.1) (K .ret (⟨[(4,dB false)],[]⟩:St)) (nxT (LP54_0 columns row) m K (s54_0 columns row (wrap64 (i0+Z1)) ()))) (K .ret (⟨[(4,dB false)],[]⟩:St))) (nxT (LP54_0 columns row) m K (s54_0 columns row (wrap64 (i0+Z1)) ()))) (K (.exit 0) (⟨[],[]⟩:St))):=by kernel_rfl
theorem con54_ok:bf P 54 c54:=br C54 func54 (kC con49_ok (kC con103_ok kN)) fun args hp K h0=>by
 obtain⟨columns,row,rfl,rfl,h_columns,h_row,hK⟩:=g2e h0
 have h:ok (F.qc columns row) (fun r=>K (dB r) []):=az (F.xQ columns row h_columns h_row) hK
 refine⟨rfl,ann54,(L54 columns row),(.dat Ty.bool),(bL (i0:=0) (by kernel_rfl) ?_),?_⟩
 ·rintro _ _ K ⟨hc0,i0,v0,rfl,hl0,rfl,hv0,h⟩
  exact cast (lvc54_0 _ _ _ _ _ _).symm (bM h (fun ht0 h=>⟨hl0,⟨ht0,⟨hl0,(oG h fun g1 h=>(oC h (fun _ h=>(oC h (fun _ h=>⟨hl0,⟨g1,(oC h (fun _ h=>h) fun _ h=>(aN (fun _ hm=>⟨hc0,hm⟩) _ rfl hl0 fS ht0 (bz h_row) trivial h))⟩⟩) fun _ h=>h)) fun _ h=>(aN (fun _ hm=>⟨hc0,hm⟩) _ rfl hl0 fS ht0 (bz h_row) trivial h)))⟩⟩⟩) fun h=>(h trivial))
 ·rw[vc54]
  exact⟨h_columns,(oC h (fun _ h=>⟨h_row,(oC h (fun _ h=>(oC h (fun _ h=>h) fun _ h=>(bA (fun m hm=>⟨trivial,hm⟩) Z0 _ rfl (Int.natCast_nonneg 0) trivial (aT h (fun v0 h hv0=>h) (fun q0 h=>h))))) fun _ h=>h)⟩) fun _ h=>h)⟩
def c189:Con:=⟨[.dat TVS,.any],fun args hp K=>g2 (pD TVS) (pR TCS) (fun r columns=>(Sm TVS r)/\(Sm TCS columns)/\K (dB (!M.cw columns r)) []) args hp,.plain,false⟩
abbrev C189:Ctx:=cx [(54,c54)] 8 [] 0 false
def ann189:=an [[kp 3],[kp 8]] []
theorem vc189 (r:LV) (columns:LC) (K:KA):vcT C189 aB ann189 f189 [.data TVS r,.ref (.data TCS columns)] [] (.dat Ty.bool) K =
 ((Sm TCS columns)/\(Sm TVS r)/\K (dB (!(M.cw columns r))) []):=by kernel_rfl
theorem con189_ok:bf P 189 c189:=br C189 func189 (kC con54_ok kN) fun args hp K h0=>by
 obtain⟨r,columns,rfl,rfl,h_r,h_columns,hK⟩:=g2e h0
 have h:ok (F.sA r columns) (fun r=>K (dB r) []):=az (F.wq r columns h_r h_columns) hK
 refine⟨rfl,ann189,aB,(.dat Ty.bool),(aH (by kernel_rfl)),?_⟩
 ·rw[vc189]
  exact⟨h_columns,⟨h_r,h⟩⟩
def c209:Con:=⟨[.lent TVS,.any],fun args hp K=>args2 (fun a0 a1=>lJ TVS a0 fun xs=>qs 189 a1 (AT (fun b1_0=>zT TCS b1_0 fun k0=>(Sm (Ty.sl TVS) xs)/\(Sm TCS k0)/\K (dI (M.idx (t:=TVS) (fun e=>!M.cw k0 e) xs)) []))) args hp,.plain,false⟩
abbrev C209:Ctx:=cx [(189,c189)] 19 [] 0 false
def ann209:=an [[kp 3],[kp 387],[kp 899],[kp 419],[kp 65955],[kp 16],[kp 387],[kp 16]] [[kp 0]]
abbrev s209_0 (xs:(List LV)) (k0:LC) (i0:Int) (v0:Unit):St:=⟨[(0,.brw TVS xs),(1,.fn 189 [.ref (.data TCS k0)]),(7,dI (xs.length:Int)),(8,dI i0)],[]⟩
abbrev LP209_0 (xs:(List LV)) (k0:LC) (m:Nat) (st_:St) (K:KX):Prop:=True/\cm (s209_0 xs k0) Z0 (xs.length:Int) (F.dj xs k0) (fun v0:Unit=>True) (bg (fun v0:Unit=>True->K (.exit 0) (⟨[],[]⟩:St)) (fun q0:Int=>K .ret (⟨[(4,dI q0)],[]⟩:St))) m st_
def L209 (xs:(List LV)) (k0:LC):bH:=lp1 0 (LP209_0 xs k0)
theorem vc209 (xs:(List LV)) (k0:LC) (K:KA):vcT C209 (L209 xs k0) ann209 f209 [.brw TVS xs,.fn 189 [.ref (.data TCS k0)]] [] (.dat aC) K =
 (∃m_,True/\cm (s209_0 xs k0) Z0 (xs.length:Int) (F.dj xs k0) (fun v0:Unit=>True) (bg (fun v0:Unit=>True->K (dI (-1:Int)) []) (fun q0:Int=>K (dI q0) [])) m_ (s209_0 xs k0 Z0 ())):=by kernel_rfl
theorem lvc209_0 (xs:(List LV)) (k0:LC)  (i0:Int) (v0:Unit) (m:Nat) (K:KX):lvT C209 (L209 xs k0) ann209 f209 0 0 (s209_0 xs k0 i0 v0) m K =
 (cond (decide (i0<(xs.length:Int))) ((0<=i0)/\(i0<(xs.length:Int))/\(Sm TVS (nth (t:=TVS) xs i0))/\(Sm TCS k0)/\cond (!M.cw k0 (nth (t:=TVS) xs i0)) (K .ret (⟨[(4,dI i0)],[]⟩:St)) (nxT (LP209_0 xs k0) m K (s209_0 xs k0 (wrap64 (i0+Z1)) ()))) (K (.exit 0) (⟨[],[]⟩:St))):=by kernel_rfl
theorem con209_ok:bf P 209 c209:=br C209 func209 (kC con189_ok kN) fun args hp K h0=>by
 obtain⟨a0,a1,rfl,rfl,h1⟩:=bT h0
 obtain⟨xs,rfl,h2⟩:=cZ h1
 obtain⟨cs1,rfl,h3⟩:=fj h2
 obtain⟨b1_0,rfl,h4⟩:=pz h3
 obtain⟨k0,rfl,h5⟩:=mD h4
 obtain⟨h_xs,h_k0,hK⟩:=h5
 have h:ok (F.jb xs k0) (fun r=>K (dI r) []):=az (F.mM xs k0 h_xs h_k0) hK
 refine⟨rfl,ann209,(L209 xs k0),(.dat aC),(bL (i0:=0) (by kernel_rfl) ?_),?_⟩
 ·rintro _ _ K ⟨hc0,i0,v0,rfl,hl0,rfl,hv0,h⟩
  exact cast (lvc209_0 _ _ _ _ _ _).symm (bM h (fun ht0 h=>⟨hl0,⟨ht0,⟨(aQ h_xs i0),⟨h_k0,(oC h (fun _ h=>h) fun _ h=>(aN (fun _ hm=>⟨hc0,hm⟩) _ rfl hl0 fS ht0 (bz h_xs) trivial h))⟩⟩⟩⟩) fun h=>(h trivial))
 ·rw[vc209]
  exact(bA (fun m hm=>⟨trivial,hm⟩) Z0 _ rfl (Int.natCast_nonneg 0) trivial (aT h (fun v0 h hv0=>h) (fun q0 h=>h)))
def c188:Con:=⟨[.lent TVS,.any],fun args hp K=>args2 (fun a0 a1=>lJ TVS a0 fun xs=>qs 189 a1 (AT (fun b1_0=>zT TCS b1_0 fun k0=>(Sm (Ty.sl TVS) xs)/\(Sm TCS k0)/\K (dB (List.any xs (fun e=>!M.cw k0 e))) []))) args hp,.plain,false⟩
abbrev C188:Ctx:=cx [(189,c189),(209,c209)] 9 [] 0 false
def ann188:=an [[kp 3],[kp 16]] []
theorem vc188 (xs:(List LV)) (k0:LC) (K:KA):vcT C188 aB ann188 f188 [.brw TVS xs,.fn 189 [.ref (.data TCS k0)]] [] (.dat Ty.bool) K =
 ((Sm (Ty.sl TVS) xs)/\(Sm TCS k0)/\K (dB (decide (Z0<=(M.idx (t:=TVS) (fun e=>!M.cw k0 e) xs)))) []):=by kernel_rfl
theorem con188_ok:bf P 188 c188:=br C188 func188 (kC con189_ok (kC con209_ok kN)) fun args hp K h0=>by
 obtain⟨a0,a1,rfl,rfl,h1⟩:=bT h0
 obtain⟨xs,rfl,h2⟩:=cZ h1
 obtain⟨cs1,rfl,h3⟩:=fj h2
 obtain⟨b1_0,rfl,h4⟩:=pz h3
 obtain⟨k0,rfl,h5⟩:=mD h4
 obtain⟨h_xs,h_k0,hK⟩:=h5
 have h:ok (F.eL xs k0) (fun r=>K (dB r) []):=az (F.kT xs k0 h_xs h_k0) hK
 refine⟨rfl,ann188,aB,(.dat Ty.bool),(aH (by kernel_rfl)),?_⟩
 ·rw[vc188]
  exact⟨h_xs,⟨h_k0,h⟩⟩
def c155:Con:=⟨[.dat TCS,.dat (Ty.sl TVS)],fun args hp K=>g2 (pD TCS) (pD (Ty.sl TVS)) (fun columns rows=>(Sm TCS columns)/\(Sm (Ty.sl TVS) rows)/\K (dB (M.gN columns rows)) []) args hp,.plain,false⟩
abbrev C155:Ctx:=cx [(49,c49),(188,c188),(189,c189)] 13 [] 0 false
def ann155:=an [[.fixBox 2,kp 6],[kp 16]] []
theorem vc155 (columns:LC) (rows:(List LV)) (K:KA):vcT C155 aB ann155 f155 [.data TCS columns,.data (Ty.sl TVS) rows] [] (.dat Ty.bool) K =
 ((Sm TCS columns)/\cond ((M.bD columns)==true) ((Sm (Ty.sl TVS) rows)/\(Sm TCS columns)/\K (dB (!(List.any rows (fun e=>!M.cw columns e)))) []) (K (dB false) [])):=by kernel_rfl
theorem con155_ok:bf P 155 c155:=br C155 func155 (kC con49_ok (kC con188_ok (kC con189_ok kN))) fun args hp K h0=>by
 obtain⟨columns,rows,rfl,rfl,h_columns,h_rows,hK⟩:=g2e h0
 have h:ok (F.qN columns rows) (fun r=>K (dB r) []):=az (F.yj columns rows h_columns h_rows) hK
 refine⟨rfl,ann155,aB,(.dat Ty.bool),(aH (by kernel_rfl)),?_⟩
 ·rw[vc155]
  exact⟨h_columns,(oC h (fun _ h=>⟨h_rows,⟨h_columns,h⟩⟩) fun _ h=>h)⟩
def c154:Con:=⟨[.dat ax],fun args hp K=>g1 (pD ax) (fun t=>(Sm ax t)/\K (dB (!M.dz t)) []) args hp,.plain,false⟩
abbrev C154:Ctx:=cx [(49,c49),(155,c155)] 21 [] 0 false
def ann154:=an [[.fixRow 1 ax,kp 2],[kp 4]] []
theorem vc154 (t:ax.D) (K:KA):vcT C154 aB ann154 f154 [.data ax t] [] (.dat Ty.bool) K =
 ((Sm TCS t.1)/\cond ((!(M.bD t.1))==false) (cond ((decide (Z6<(t.2.1.length:Int)))==false) ((Sm TCS t.1)/\(Sm (Ty.sl TVS) t.2.1)/\K (dB (!(M.gN t.1 t.2.1))) []) (K (dB true) [])) (K (dB true) [])):=by kernel_rfl
theorem con154_ok:bf P 154 c154:=br C154 func154 (kC con49_ok (kC con155_ok kN)) fun args hp K h0=>by
 obtain⟨t,rfl,rfl,h_t,hK⟩:=g1e h0
 have h:ok (F.lg t) (fun r=>K (dB r) []):=az (F.tC t h_t) hK
 refine⟨rfl,ann154,aB,(.dat Ty.bool),(aH (by kernel_rfl)),?_⟩
 ·rw[vc154]
  exact⟨h_t.1,(oC h (fun _ h=>(oC h (fun _ h=>⟨h_t.1,⟨h_t.2.1,h⟩⟩) fun _ h=>h)) fun _ h=>h)⟩
def c187:Con:=⟨[.lent ax,.any],fun args hp K=>args2 (fun a0 a1=>lJ ax a0 fun xs=>qs 154 a1 (wK ((Sm TTb xs)/\K (dI (M.idx (t:=ax) (fun e=>!M.dz e) xs)) []))) args hp,.plain,false⟩
abbrev C187:Ctx:=cx [(154,c154)] 19 [] 0 false
def ann187:=an [[kp 3],[kp 387],[kp 899],[kp 419],[kp 65955],[kp 16],[kp 387],[kp 16]] [[kp 0]]
abbrev s187_0 (xs:LTb) (i0:Int) (v0:Unit):St:=⟨[(0,.brw ax xs),(1,.fn 154 []),(7,dI (xs.length:Int)),(8,dI i0)],[]⟩
abbrev LP187_0 (xs:LTb) (m:Nat) (st_:St) (K:KX):Prop:=True/\cm (s187_0 xs) Z0 (xs.length:Int) (F.cP xs) (fun v0:Unit=>True) (bg (fun v0:Unit=>True->K (.exit 0) (⟨[],[]⟩:St)) (fun q0:Int=>K .ret (⟨[(4,dI q0)],[]⟩:St))) m st_
def L187 (xs:LTb):bH:=lp1 0 (LP187_0 xs)
theorem vc187 (xs:LTb) (K:KA):vcT C187 (L187 xs) ann187 f187 [.brw ax xs,.fn 154 []] [] (.dat aC) K =
 (∃m_,True/\cm (s187_0 xs) Z0 (xs.length:Int) (F.cP xs) (fun v0:Unit=>True) (bg (fun v0:Unit=>True->K (dI (-1:Int)) []) (fun q0:Int=>K (dI q0) [])) m_ (s187_0 xs Z0 ())):=by kernel_rfl
theorem lvc187_0 (xs:LTb)  (i0:Int) (v0:Unit) (m:Nat) (K:KX):lvT C187 (L187 xs) ann187 f187 0 0 (s187_0 xs i0 v0) m K =
 (cond (decide (i0<(xs.length:Int))) ((0<=i0)/\(i0<(xs.length:Int))/\(Sm ax (nT xs i0))/\cond (!M.dz (nT xs i0)) (K .ret (⟨[(4,dI i0)],[]⟩:St)) (nxT (LP187_0 xs) m K (s187_0 xs (wrap64 (i0+Z1)) ()))) (K (.exit 0) (⟨[],[]⟩:St))):=by kernel_rfl
theorem con187_ok:bf P 187 c187:=br C187 func187 (kC con154_ok kN) fun args hp K h0=>by
 obtain⟨a0,a1,rfl,rfl,h1⟩:=bT h0
 obtain⟨xs,rfl,h2⟩:=cZ h1
 obtain⟨cs1,rfl,h3⟩:=fj h2
 obtain⟨rfl,h4⟩:=jU h3
 obtain⟨h_xs,hK⟩:=h4
 have h:ok (F.iy xs) (fun r=>K (dI r) []):=az (F.kX xs h_xs) hK
 refine⟨rfl,ann187,(L187 xs),(.dat aC),(bL (i0:=0) (by kernel_rfl) ?_),?_⟩
 ·rintro _ _ K ⟨hc0,i0,v0,rfl,hl0,rfl,hv0,h⟩
  exact cast (lvc187_0 _ _ _ _ _).symm (bM h (fun ht0 h=>⟨hl0,⟨ht0,⟨(aQ h_xs i0),(oC h (fun _ h=>h) fun _ h=>(aN (fun _ hm=>⟨hc0,hm⟩) _ rfl hl0 fS ht0 (bz h_xs) trivial h))⟩⟩⟩) fun h=>(h trivial))
 ·rw[vc187]
  exact(bA (fun m hm=>⟨trivial,hm⟩) Z0 _ rfl (Int.natCast_nonneg 0) trivial (aT h (fun v0 h hv0=>h) (fun q0 h=>h)))
def c153:Con:=⟨[.lent ax,.any],fun args hp K=>args2 (fun a0 a1=>lJ ax a0 fun xs=>qs 154 a1 (wK ((Sm TTb xs)/\K (dB (List.any xs (fun e=>!M.dz e))) []))) args hp,.plain,false⟩
abbrev C153:Ctx:=cx [(154,c154),(187,c187)] 9 [] 0 false
def ann153:=an [[kp 3],[kp 16]] []
theorem vc153 (xs:LTb) (K:KA):vcT C153 aB ann153 f153 [.brw ax xs,.fn 154 []] [] (.dat Ty.bool) K =
 ((Sm TTb xs)/\K (dB (decide (Z0<=(M.idx (t:=ax) (fun e=>!M.dz e) xs)))) []):=by kernel_rfl
theorem con153_ok:bf P 153 c153:=br C153 func153 (kC con154_ok (kC con187_ok kN)) fun args hp K h0=>by
 obtain⟨a0,a1,rfl,rfl,h1⟩:=bT h0
 obtain⟨xs,rfl,h2⟩:=cZ h1
 obtain⟨cs1,rfl,h3⟩:=fj h2
 obtain⟨rfl,h4⟩:=jU h3
 obtain⟨h_xs,hK⟩:=h4
 have h:ok (F.eg xs) (fun r=>K (dB r) []):=az (F.jG xs h_xs) hK
 refine⟨rfl,ann153,aB,(.dat Ty.bool),(aH (by kernel_rfl)),?_⟩
 ·rw[vc153]
  exact⟨h_xs,h⟩
def c110:Con:=⟨[.dat TTb],fun args hp K=>g1 (pD TTb) (fun tables=>(Sm TTb tables)/\K (dB (M.cO tables)) []) args hp,.plain,false⟩
abbrev C110:Ctx:=cx [(153,c153)] 11 [] 0 false
def ann110:=an [[kp 1],[kp 4]] []
theorem vc110 (tables:LTb) (K:KA):vcT C110 aB ann110 f110 [.data TTb tables] [] (.dat Ty.bool) K =
 (cond ((decide ((tables.length:Int)<=Z3))==true) ((Sm TTb tables)/\K (dB (!(List.any tables (fun e=>!M.dz e)))) []) (K (dB false) [])):=by kernel_rfl
theorem con110_ok:bf P 110 c110:=br C110 func110 (kC con153_ok kN) fun args hp K h0=>by
 obtain⟨tables,rfl,rfl,h_tables,hK⟩:=g1e h0
 have h:ok (F.nN tables) (fun r=>K (dB r) []):=az (F.vo tables h_tables) hK
 refine⟨rfl,ann110,aB,(.dat Ty.bool),(aH (by kernel_rfl)),?_⟩
 ·rw[vc110]
  exact(oC h (fun _ h=>⟨h_tables,h⟩) fun _ h=>h)
def c50:Con:=⟨[.dat aE],fun args hp K=>g1 (pD aE) (fun p=>(Sm aE p)/\K (dI (M.takes p)) []) args hp,.plain,false⟩
abbrev C50:Ctx:=cx [] 13 [] 0 false
def ann50:=an [[.fixRow 1 aE,kp 2],[kp 16],[kp 48],[kp 48],[kp 48],[kp 48],[kp 4],[kp 1040],[kp 1024],[kp 4],[kp 4]] []
abbrev S50_0 (p:aE.D) (K:KA):Prop:=cond (decide (p.1=(7:Int))) (cond (decide (p.1=(7:Int))) (K (dI Z1) []) (K (dI Z0) [])) (cond (decide (p.1=(8:Int))) (K (dI Z1) []) (K (dI Z0) []))
theorem vc50 (p:aE.D) (K:KA):vcT C50 aB ann50 f50 [.data aE p] [] (.dat aC) K =
 (cond (decide (p.1=Z3)) (cond (decide (p.1=Z3)) (K (dI Z2) []) (S50_0 p K)) (cond (decide (p.1=Z4)) (cond (decide (p.1=Z4)) (K (dI Z2) []) (S50_0 p K)) (cond (decide (p.1=Z5)) (cond (decide (p.1=Z5)) (K (dI Z2) []) (S50_0 p K)) (cond (decide (p.1=Z6)) (K (dI Z2) []) (S50_0 p K))))):=by kernel_rfl
theorem con50_ok:bf P 50 c50:=br C50 func50 kN fun args hp K h0=>by
 obtain⟨p,rfl,rfl,h_p,hK⟩:=g1e h0
 have h:ok (F.lq p) (fun r=>K (dI r) []):=az (F.sJ p h_p) hK
 refine⟨rfl,ann50,aB,(.dat aC),(aH (by kernel_rfl)),?_⟩
 ·rw[vc50]
  exact(oC h (fun b_1 h=>(bE b_1 h)) fun _ h=>(oC h (fun b_6 h=>(bE b_6 h)) fun _ h=>(oC h (fun b_8 h=>(bE b_8 h)) fun _ h=>(oC h (fun _ h=>h) fun _ h=>(oC h (fun b_11 h=>(bE b_11 h)) fun _ h=>(oC h (fun _ h=>h) fun _ h=>h))))))
def c51:Con:=⟨[.dat aE,.dat TCS],fun args hp K=>g2 (pD aE) (pD TCS) (fun p columns=>(Sm aE p)/\(Sm TCS columns)/\K (dB (M.lI p columns)) []) args hp,.plain,false⟩
abbrev C51:Ctx:=cx [(67,c67),(99,c99)] 63 [] 0 false
def ann51:=an [[.fixRow 2 aE,kp 6],[kp 70],[kp 198],[kp 16],[kp 8388678],[kp 16],[kp 137438953540],[kp 16],[.keep [2,6,48]],[.keep [2,6,48]],[.keep [2,6,48]],[.keep [2,6,48]],[.keep [2,48]],[kp 16],[kp 16]] []
abbrev S51_0 (p:aE.D) (columns:LC) (K:KA):Prop:=cond ((decide (p.2.1=Z0))==true) (K (dB (Ty.beq af p.2.2.1 (Z0,(Z0,((⟨#[]⟩:ByteArray),()))))) []) (K (dB false) [])
theorem vc51 (p:aE.D) (columns:LC) (K:KA):vcT C51 aB ann51 f51 [.data aE p,.data TCS columns] [] (.dat Ty.bool) K =
 (cond (decide (p.1=Z1)) (cond ((decide (p.2.1=Z0))==true) ((Sm af p.2.2.1)/\cond ((M.aR p.2.2.1)==true) (K (dB (!decide (p.2.2.1.1=Z0))) []) (K (dB false) [])) (K (dB false) [])) (cond (decide (p.1=Z2)) (cond ((M.inR p.2.1 Z0 (wrap64 ((columns.length:Int)-Z1)))==true) (K (dB (Ty.beq af p.2.2.1 (Z0,(Z0,((⟨#[]⟩:ByteArray),()))))) []) (K (dB false) [])) (cond (decide (p.1=Z4)) (cond ((M.inR p.2.1 Z1 Z4)==true) (K (dB (Ty.beq af p.2.2.1 (Z0,(Z0,((⟨#[]⟩:ByteArray),()))))) []) (K (dB false) [])) (cond (decide (p.1=Z3)) (cond (decide (p.1=Z3)) (S51_0 p columns K) (K (dB false) [])) (cond (decide (p.1=Z5)) (cond (decide (p.1=Z5)) (S51_0 p columns K) (K (dB false) [])) (cond (decide (p.1=Z6)) (cond (decide (p.1=Z6)) (S51_0 p columns K) (K (dB false) [])) (cond (decide (p.1=(7:Int))) (cond (decide (p.1=(7:Int))) (S51_0 p columns K) (K (dB false) [])) (cond (decide (p.1=(8:Int))) (S51_0 p columns K) (K (dB false) []))))))))):=by kernel_rfl
theorem con51_ok:bf P 51 c51:=br C51 func51 (kC con67_ok (kC con99_ok kN)) fun args hp K h0=>by
 obtain⟨p,columns,rfl,rfl,h_p,h_columns,hK⟩:=g2e h0
 have h:ok (F.lD p columns) (fun r=>K (dB r) []):=az (F.sB p columns h_p h_columns) hK
 refine⟨rfl,ann51,aB,(.dat Ty.bool),(aH (by kernel_rfl)),?_⟩
 ·rw[vc51]
  exact(oC h (fun _ h=>(oC h (fun _ h=>⟨h_p.2.2.1,(oC h (fun _ h=>h) fun _ h=>h)⟩) fun _ h=>h)) fun _ h=>(oC h (fun _ h=>(oC h (fun _ h=>h) fun _ h=>h)) fun _ h=>(oC h (fun _ h=>(oC h (fun _ h=>h) fun _ h=>h)) fun _ h=>(oC h (fun b_8 h=>(bE b_8 (oC h (fun _ h=>h) fun _ h=>h))) fun _ h=>(oC h (fun b_11 h=>(bE b_11 (oC h (fun _ h=>h) fun _ h=>h))) fun _ h=>(oC h (fun b_14 h=>(bE b_14 (oC h (fun _ h=>h) fun _ h=>h))) fun _ h=>(oC h (fun b_17 h=>(bE b_17 (oC h (fun _ h=>h) fun _ h=>h))) fun _ h=>(oC h (fun _ h=>(oC h (fun _ h=>h) fun _ h=>h)) fun _ h=>h))))))))
def c102:Con:=⟨[.dat aC,.any],fun args hp K=>g2 (pD aC) (pR aC) (fun k kind=>K (dB (!decide (k=kind))) []) args hp,.plain,false⟩
abbrev C102:Ctx:=cx [] 7 [] 0 false
def ann102:=an [[kp 3],[kp 8]] []
theorem vc102 (k:Int) (kind:Int) (K:KA):vcT C102 aB ann102 f102 [dI k,.ref (dI kind)] [] (.dat Ty.bool) K =
 (K (dB (!decide (k=kind))) []):=by kernel_rfl
theorem con102_ok:bf P 102 c102:=br C102 func102 kN fun args hp K h0=>by
 obtain⟨k,kind,rfl,rfl,hK⟩:=g2e h0
 have h:ok (F.mo k kind) (fun r=>K (dB r) []):=az (F.qu k kind) hK
 refine⟨rfl,ann102,aB,(.dat Ty.bool),(aH (by kernel_rfl)),?_⟩
 ·rw[vc102]
  exact h
def c148:Con:=⟨[.lent aC,.any],fun args hp K=>args2 (fun a0 a1=>lJ aC a0 fun xs=>qs 102 a1 (AT (fun b1_0=>zT aC b1_0 fun k0=>(Sm (Ty.sl aC) xs)/\K (dI (M.idx (t:=aC) (fun e=>!decide (e=k0)) xs)) []))) args hp,.plain,false⟩
abbrev C148:Ctx:=cx [(102,c102)] 19 [] 0 false
def ann148:=an [[kp 3],[kp 387],[kp 899],[kp 419],[kp 65955],[kp 16],[kp 387],[kp 16]] [[kp 0]]
abbrev s148_0 (xs:LI) (k0:Int) (i0:Int) (v0:Unit):St:=⟨[(0,.brw aC xs),(1,.fn 102 [.ref (dI k0)]),(7,dI (xs.length:Int)),(8,dI i0)],[]⟩
abbrev LP148_0 (xs:LI) (k0:Int) (m:Nat) (st_:St) (K:KX):Prop:=True/\cm (s148_0 xs k0) Z0 (xs.length:Int) (F.cu xs k0) (fun v0:Unit=>True) (bg (fun v0:Unit=>True->K (.exit 0) (⟨[],[]⟩:St)) (fun q0:Int=>K .ret (⟨[(4,dI q0)],[]⟩:St))) m st_
def L148 (xs:LI) (k0:Int):bH:=lp1 0 (LP148_0 xs k0)
theorem vc148 (xs:LI) (k0:Int) (K:KA):vcT C148 (L148 xs k0) ann148 f148 [.brw aC xs,.fn 102 [.ref (dI k0)]] [] (.dat aC) K =
 (∃m_,True/\cm (s148_0 xs k0) Z0 (xs.length:Int) (F.cu xs k0) (fun v0:Unit=>True) (bg (fun v0:Unit=>True->K (dI (-1:Int)) []) (fun q0:Int=>K (dI q0) [])) m_ (s148_0 xs k0 Z0 ())):=by kernel_rfl
theorem lvc148_0 (xs:LI) (k0:Int)  (i0:Int) (v0:Unit) (m:Nat) (K:KX):lvT C148 (L148 xs k0) ann148 f148 0 0 (s148_0 xs k0 i0 v0) m K =
 (cond (decide (i0<(xs.length:Int))) ((0<=i0)/\(i0<(xs.length:Int))/\cond (!decide ((nI xs i0)=k0)) (K .ret (⟨[(4,dI i0)],[]⟩:St)) (nxT (LP148_0 xs k0) m K (s148_0 xs k0 (wrap64 (i0+Z1)) ()))) (K (.exit 0) (⟨[],[]⟩:St))):=by kernel_rfl
theorem con148_ok:bf P 148 c148:=br C148 func148 (kC con102_ok kN) fun args hp K h0=>by
 obtain⟨a0,a1,rfl,rfl,h1⟩:=bT h0
 obtain⟨xs,rfl,h2⟩:=cZ h1
 obtain⟨cs1,rfl,h3⟩:=fj h2
 obtain⟨b1_0,rfl,h4⟩:=pz h3
 obtain⟨k0,rfl,h5⟩:=mD h4
 obtain⟨h_xs,hK⟩:=h5
 have h:ok (F.gb xs k0) (fun r=>K (dI r) []):=az (F.jH xs k0 h_xs) hK
 refine⟨rfl,ann148,(L148 xs k0),(.dat aC),(bL (i0:=0) (by kernel_rfl) ?_),?_⟩
 ·rintro _ _ K ⟨hc0,i0,v0,rfl,hl0,rfl,hv0,h⟩
  exact cast (lvc148_0 _ _ _ _ _ _).symm (bM h (fun ht0 h=>⟨hl0,⟨ht0,(oC h (fun _ h=>h) fun _ h=>(aN (fun _ hm=>⟨hc0,hm⟩) _ rfl hl0 fS ht0 (bz h_xs) trivial h))⟩⟩) fun h=>(h trivial))
 ·rw[vc148]
  exact(bA (fun m hm=>⟨trivial,hm⟩) Z0 _ rfl (Int.natCast_nonneg 0) trivial (aT h (fun v0 h hv0=>h) (fun q0 h=>h)))
def c101:Con:=⟨[.lent aC,.any],fun args hp K=>args2 (fun a0 a1=>lJ aC a0 fun xs=>qs 102 a1 (AT (fun b1_0=>zT aC b1_0 fun k0=>(Sm (Ty.sl aC) xs)/\K (dB (List.any xs (fun e=>!decide (e=k0)))) []))) args hp,.plain,false⟩
abbrev C101:Ctx:=cx [(102,c102),(148,c148)] 9 [] 0 false
def ann101:=an [[kp 3],[kp 16]] []
theorem vc101 (xs:LI) (k0:Int) (K:KA):vcT C101 aB ann101 f101 [.brw aC xs,.fn 102 [.ref (dI k0)]] [] (.dat Ty.bool) K =
 ((Sm (Ty.sl aC) xs)/\K (dB (decide (Z0<=(M.idx (t:=aC) (fun e=>!decide (e=k0)) xs)))) []):=by kernel_rfl
theorem con101_ok:bf P 101 c101:=br C101 func101 (kC con102_ok (kC con148_ok kN)) fun args hp K h0=>by
 obtain⟨a0,a1,rfl,rfl,h1⟩:=bT h0
 obtain⟨xs,rfl,h2⟩:=cZ h1
 obtain⟨cs1,rfl,h3⟩:=fj h2
 obtain⟨b1_0,rfl,h4⟩:=pz h3
 obtain⟨k0,rfl,h5⟩:=mD h4
 obtain⟨h_xs,hK⟩:=h5
 have h:ok (F.dx xs k0) (fun r=>K (dB r) []):=az (F.iX xs k0 h_xs) hK
 refine⟨rfl,ann101,aB,(.dat Ty.bool),(aH (by kernel_rfl)),?_⟩
 ·rw[vc101]
  exact⟨h_xs,h⟩
def c100:Con:=⟨[.dat aC,.any],fun args hp K=>g2 (pD aC) (pQ aC) (fun kind ins=>(Sm (Ty.sl aC) ins)/\K (dB (List.all ins (fun k=>decide (k=kind)))) []) args hp,.plain,false⟩
abbrev C100:Ctx:=cx [(101,c101),(102,c102)] 8 [] 0 false
def ann100:=an [[.fixBox 2,kp 6],[kp 8]] []
theorem vc100 (kind:Int) (ins:LI) (K:KA):vcT C100 aB ann100 f100 [dI kind,.ref (.brw aC ins)] [] (.dat Ty.bool) K =
 ((Sm (Ty.sl aC) ins)/\K (dB (!(List.any ins (fun e=>!decide (e=kind))))) []):=by kernel_rfl
theorem con100_ok:bf P 100 c100:=br C100 func100 (kC con101_ok (kC con102_ok kN)) fun args hp K h0=>by
 obtain⟨kind,ins,rfl,rfl,h_ins,hK⟩:=g2e h0
 have h:ok (F.jR kind ins) (fun r=>K (dB r) []):=az (F.rW kind ins h_ins) hK
 refine⟨rfl,ann100,aB,(.dat Ty.bool),(aH (by kernel_rfl)),?_⟩
 ·rw[vc100]
  exact⟨h_ins,h⟩
def c52:Con:=⟨[.dat aE,.dat TCS,.lent aC],fun args hp K=>g3 (pD aE) (pD TCS) (pB aC) (fun p columns inp=>(Sm aE p)/\(Sm TCS columns)/\(Sm (Ty.sl aC) inp)/\(M.lI p columns=true)/\((inp.length:Int)=M.takes p)/\(LD (M.cK p columns inp) fun r=>K (.tup [dI r.1,dB r.2]) [])) args hp,.plain,false⟩
abbrev C52:Ctx:=cx [(100,c100)] 42 [] 0 false
def ann52:=an [[.fixRow 3 aE,.fixBox 5,kp 42],[kp 298],[kp 2346],[kp 6442],[kp 192],[kp 133418],[kp 192],[kp 33556768],[kp 192],[kp 536873248],[kp 192],[.keep [8,38]],[kp 192],[kp 192]] []
theorem vc52 (p:aE.D) (columns:LC) (inp:LI) (K:KA):vcT C52 aB ann52 f52 [.data aE p,.data TCS columns,.brw aC inp] [] (.tup [aC,Ty.bool]) K =
 (cond (decide (p.1=Z1)) (K (.tup [dI p.2.2.1.1,dB true]) []) (cond (decide (p.1=Z2)) ((0<=p.2.1)/\(p.2.1<(columns.length:Int))/\K (.tup [dI (nC columns p.2.1).1,dB true]) []) (cond (decide (p.1=Z3)) ((Sm (Ty.sl aC) inp)/\K (.tup [dI Z1,dB (List.all inp (fun k=>decide (k=Z1)))]) []) (cond (decide (p.1=Z4)) ((0<=Z0)/\(Z0<(inp.length:Int))/\(0<=Z1)/\(Z1<(inp.length:Int))/\K (.tup [dI Z3,dB (decide ((nI inp Z0)=(nI inp Z1)))]) []) (cond (decide (p.1=(8:Int))) (K (.tup [dI Z3,dB true]) []) ((Sm (Ty.sl aC) inp)/\K (.tup [dI Z3,dB (List.all inp (fun k=>decide (k=Z3)))]) [])))))):=by kernel_rfl
theorem con52_ok:bf P 52 c52:=br C52 func52 (kC con100_ok kN) fun args hp K h0=>by
 obtain⟨p,columns,inp,rfl,rfl,h_p,h_columns,h_inp,p0,p1,hK⟩:=g3e h0
 have h:ok (F.mu p columns inp) (fun r=>K (.tup [dI r.1,dB r.2]) []):=az (F.ve p columns inp h_p h_columns h_inp p0 p1) (hK _ rfl)
 refine⟨rfl,ann52,aB,(.tup [aC,Ty.bool]),(aH (by kernel_rfl)),?_⟩
 ·rw[vc52]
  exact(oC h (fun _ h=>h) fun _ h=>(oC h (fun _ h=>(oG h fun _ h=>(oG h fun _ h=>h))) fun _ h=>(oC h (fun _ h=>⟨h_inp,h⟩) fun _ h=>(oC h (fun _ h=>⟨(Int.natCast_nonneg 0),(oG h fun _ h=>⟨(Int.natCast_nonneg 1),(oG h fun _ h=>h)⟩)⟩) fun _ h=>(oC h (fun _ h=>h) fun _ h=>⟨h_inp,h⟩)))))
def c13:Con:=⟨[.dat TCS,.dat TPS],fun args hp K=>g2 (pD TCS) (pD TPS) (fun columns e=>(Sm TCS columns)/\(Sm TPS e)/\K (dI (M.cW columns e)) []) args hp,.plain,false⟩
abbrev C13:Ctx:=cx [(49,c49),(50,c50),(51,c51),(52,c52)] 67 [] 0 false
def ann13:=an [[kp 3],[kp 262147],[kp 16],[kp 35],[kp 3670049],[kp 7864353],[.fixRow 7 aE,kp 3670177],[kp 3670433],[kp 68723147169],[kp 16],[kp 3671841],[kp 1125899910513441],[kp 16],[kp 3670049],[kp 3670049],[.keep [5,63]],[kp 16],[kp 16]] [[kp 32]]
abbrev s13_0 (columns:LC) (e:LPt) (i0:Int) (v0:LI):St:=⟨[(0,.data TCS columns),(5,.own 5 none),(19,.data TPS e),(20,dI (e.length:Int)),(21,dI i0)],[(5,.arr .sh aC v0)]⟩
abbrev LP13_0 (columns:LC) (e:LPt) (m:Nat) (st_:St) (K:KX):Prop:=True/\bX (t:=aE) (s13_0 columns e) e (F.eG columns e) (fun v0:LI=>True) (bg (fun v0:LI=>True->K (.exit 0) (⟨[(5,.own 5 none)],[(5,.arr .sh aC v0)]⟩:St)) (fun q0:Unit=>K .ret (⟨[(4,dI (-1:Int))],[]⟩:St))) m st_
def L13 (columns:LC) (e:LPt):bH:=lp1 0 (LP13_0 columns e)
theorem vc13 (columns:LC) (e:LPt) (K:KA):vcT C13 (L13 columns e) ann13 f13 [.data TCS columns,.data TPS e] [] (.dat aC) K =
 ((Sm TCS columns)/\cond ((!(M.bD columns))==false) (cond (decide ((12:Int)<(e.length:Int))) (K (dI (-1:Int)) []) (∃m_,True/\bX (t:=aE) (s13_0 columns e) e (F.eG columns e) (fun v0:LI=>True) (bg (fun v0:LI=>True->cond (!decide ((v0.length:Int)=Z1)) (K (dI (-1:Int)) []) ((0<=Z0)/\(Z0<(v0.length:Int))/\K (dI (nI v0 Z0)) [])) (fun q0:Unit=>K (dI (-1:Int)) [])) m_ (s13_0 columns e Z0 []))) (K (dI (-1:Int)) [])):=by kernel_rfl
theorem lvc13_0 (columns:LC) (e:LPt)  (i0:Int) (v0:LI) (m:Nat) (K:KX):lvT C13 (L13 columns e) ann13 f13 0 0 (s13_0 columns e i0 v0) m K =
 (cond (decide (i0<(e.length:Int))) ((0<=i0)/\(i0<(e.length:Int))/\(Sm aE (nP e i0))/\(Sm aE (nP e i0))/\(Sm TCS columns)/\cond ((!(M.lI (nP e i0) columns))==false) (cond (decide ((v0.length:Int)<(M.takes (nP e i0)))) (K .ret (⟨[(4,dI (-1:Int))],[]⟩:St)) ((0<=wrap64 ((v0.length:Int)-(M.takes (nP e i0))))/\(wrap64 ((v0.length:Int)-(M.takes (nP e i0)))<=(v0.length:Int))/\((v0.length:Int)<=(v0.length:Int))/\((v0.length:Int)=(v0.length:Int))/\(Sm aE (nP e i0))/\(Sm TCS columns)/\(Sm (Ty.sl aC) (ay v0 (some (wrap64 ((v0.length:Int)-(M.takes (nP e i0))),(v0.length:Int)))))/\(M.lI (nP e i0) columns=true)/\(((ay v0 (some (wrap64 ((v0.length:Int)-(M.takes (nP e i0))),(v0.length:Int)))).length:Int)=M.takes (nP e i0))/\(LD (M.cK (nP e i0) columns (ay v0 (some (wrap64 ((v0.length:Int)-(M.takes (nP e i0))),(v0.length:Int))))) fun r1=>cond (!r1.2) (K .ret (⟨[(4,dI (-1:Int))],[]⟩:St)) ((0<=Z0)/\(Z0<=wrap64 ((v0.length:Int)-(M.takes (nP e i0))))/\(wrap64 ((v0.length:Int)-(M.takes (nP e i0)))<=(v0.length:Int))/\(wrap64 ((v0.length:Int)-(M.takes (nP e i0)))=wrap64 ((v0.length:Int)-(M.takes (nP e i0))))/\(Z0=0)/\(((wrap64 ((v0.length:Int)-(M.takes (nP e i0)))).toNat+[r1.1].length) * 8<=lim)/\(nxT (LP13_0 columns e) m K (s13_0 columns e (wrap64 (i0+Z1)) (v0.take (wrap64 ((v0.length:Int)-(M.takes (nP e i0)))).toNat++[r1.1]))))))) (K .ret (⟨[(4,dI (-1:Int))],[]⟩:St))) (K (.exit 0) (⟨[(5,.own 5 none)],[(5,.arr .sh aC v0)]⟩:St))):=by kernel_rfl
theorem con13_ok:bf P 13 c13:=br C13 func13 (kC con49_ok (kC con50_ok (kC con51_ok (kC con52_ok kN)))) fun args hp K h0=>by
 obtain⟨columns,e,rfl,rfl,h_columns,h_e,hK⟩:=g2e h0
 have h:ok (F.nU columns e) (fun r=>K (dI r) []):=az (F.wk columns e h_columns h_e) hK
 refine⟨rfl,ann13,(L13 columns e),(.dat aC),(bL (i0:=0) (by kernel_rfl) ?_),?_⟩
 ·rintro _ _ K ⟨hc0,i0,v0,rfl,hl0,rfl,hv0,h⟩
  exact cast (lvc13_0 _ _ _ _ _ _).symm (bB (t:=aE) hl0 h (fun ht0 h=>⟨hl0,⟨ht0,⟨(aQ h_e i0),⟨(aQ h_e i0),⟨h_columns,(oC h (fun b_37 h=>(oC h (fun _ h=>h) fun _ h=>(oG h fun _ h=>(oG h fun g1 h=>⟨(Int.le_refl _),⟨rfl,⟨(aQ h_e i0),⟨h_columns,(oG h fun _ h=>⟨(bnf (bgt b_37)),(oG h fun _ h=>(oL h fun _ _ h=>(oC h (fun _ h=>h) fun _ h=>⟨(Int.natCast_nonneg 0),(oG h fun _ h=>⟨g1,⟨rfl,⟨rfl,(oG h fun _ h=>(aZ (t:=aE) (fun _ hm=>⟨hc0,hm⟩) _ rfl hl0 ht0 (bz h_e) trivial h))⟩⟩⟩)⟩)))⟩)⟩⟩⟩⟩)))) fun _ h=>h)⟩⟩⟩⟩⟩) fun h=>(h trivial))
 ·rw[vc13]
  exact⟨h_columns,(oC h (fun _ h=>(oC h (fun _ h=>h) fun _ h=>(bn (t:=aE) (fun m hm=>⟨trivial,hm⟩) _ rfl trivial (aT h (fun v0 h hv0=>(oC h (fun _ h=>h) fun _ h=>⟨(Int.natCast_nonneg 0),(oG h fun _ h=>h)⟩)) (fun q0 h=>h))))) fun _ h=>h)⟩
abbrev C123:Ctx:=cx [] 9 [] 400000 true
def T123:Inl:=uo C123 (fun _=>[]) (dP f123) f123.results.toList
theorem inlOk123:vj P 123 T123:=AI C123 func123 kN
def c74:Con:=⟨[.dat TCS],fun args hp K=>g1 (pD TCS) (fun xs=>(Sm TCS xs)/\(LD xs fun r=>K (.clp 0 (r.length:Int)) [(0,.arr .sh ag r)])) args hp,.bor,false⟩
abbrev C74:Ctx:=cx [] 9 [(123,T123)] 0 true
def ann74:=an [[kp 1],[kp 33],[.clip 2,kp 4],[kp 4]] []
theorem vc74 (xs:LC) (K:KA):vcT C74 aB ann74 f74 [.data TCS xs] [] .raw K =
 (cond (decide ((xs.length:Int)=Z0)) (K (.clp 0 (([]:List ag.D).length:Int)) [(0,.arr .sh ag ([]:List ag.D))]) ((xs.length * 16<=lim)/\(0<=Z0)/\(Z0<=(xs.length:Int))/\((xs.length:Int)<=(xs.length:Int))/\((xs.length:Int)=(xs.length:Int))/\(Z0=0)/\K (.clp 0 ((xs.take (xs.length:Int).toNat).length:Int)) [(0,.arr .sh ag (xs.take (xs.length:Int).toNat))])):=by kernel_rfl
theorem con74_ok:bf P 74 c74:=br C74 func74 (kI inlOk123 kN) fun args hp K h0=>by
 obtain⟨xs,rfl,rfl,h_xs,hK⟩:=g1e h0
 have h:ok (F.so xs) (fun r=>K (.clp 0 (r.length:Int)) [(0,.arr .sh ag r)]):=az (F.vJ xs h_xs) (hK _ rfl)
 refine⟨rfl,ann74,aB,.raw,(aH (by kernel_rfl)),?_⟩
 ·rw[vc74]
  exact(oC h (fun _ h=>h) fun _ h=>⟨(zP h_xs rfl),⟨(Int.natCast_nonneg 0),⟨(Int.natCast_nonneg _),⟨(Int.le_refl _),⟨rfl,⟨rfl,h⟩⟩⟩⟩⟩⟩)
def c156:Con:=⟨[.dat ah],fun args hp K=>g1 (pD ah) (fun s=>(Sm ah s)/\K (dB (M.bJ s)) []) args hp,.plain,false⟩
abbrev C156:Ctx:=cx [] 67 [] 0 false
def ann156:=an [[.fixRow 1 ah,kp 2],[kp 10],[kp 26],[kp 4]] []
abbrev S156_0 (s:ah.D) (K:KA):Prop:=cond ((decide (s.1=Z3))==false) (K (dB (decide ((s.2.2.2.2.2.1.length:Int)=Z0))) []) (K (dB true) [])
abbrev S156_1 (s:ah.D) (K:KA):Prop:=cond ((decide (s.1=Z4))==false) (cond ((decide ((s.2.2.2.2.1.length:Int)=Z0))==true) (S156_0 s K) (K (dB false) [])) (S156_0 s K)
abbrev S156_2 (s:ah.D) (K:KA):Prop:=cond ((decide (s.1=Z1))==false) (cond ((decide (s.2.2.2.1=Z0))==true) (S156_1 s K) (K (dB false) [])) (S156_1 s K)
abbrev S156_3 (s:ah.D) (K:KA):Prop:=cond ((decide (s.1=Z5))==false) (cond ((decide (s.2.2.1=Z0))==true) (S156_2 s K) (K (dB false) [])) (S156_2 s K)
abbrev S156_4 (s:ah.D) (K:KA):Prop:=cond ((decide (s.1=Z1))==false) (cond ((decide (s.2.2.2.1=Z0))==true) (S156_0 s K) (K (dB false) [])) (S156_0 s K)
abbrev S156_5 (s:ah.D) (K:KA):Prop:=cond ((decide (s.1=Z5))==false) (cond ((decide (s.2.2.1=Z0))==true) (S156_4 s K) (K (dB false) [])) (S156_4 s K)
theorem vc156 (s:ah.D) (K:KA):vcT C156 aB ann156 f156 [.data ah s] [] (.dat Ty.bool) K =
 (cond ((decide (s.1=Z4))==false) (cond ((decide (s.1=Z2))==false) (cond ((!decide (s.1=Z1))==false) (cond ((decide (s.2.1=Z0))==true) (S156_3 s K) (K (dB false) [])) (S156_3 s K)) (cond ((!decide (s.1=Z1))==false) (cond ((decide (s.2.1=Z0))==true) (S156_5 s K) (K (dB false) [])) (S156_5 s K))) (cond ((decide (s.1=Z2))==false) (cond ((!decide (s.1=Z1))==false) (cond ((decide (s.2.1=Z0))==true) (S156_2 s K) (K (dB false) [])) (S156_2 s K)) (cond ((!decide (s.1=Z1))==false) (cond ((decide (s.2.1=Z0))==true) (S156_4 s K) (K (dB false) [])) (S156_4 s K)))):=by kernel_rfl
theorem con156_ok:bf P 156 c156:=br C156 func156 kN fun args hp K h0=>by
 obtain⟨s,rfl,rfl,h_s,hK⟩:=g1e h0
 have h:ok (F.lf s) (fun r=>K (dB r) []):=az (F.th s h_s) hK
 refine⟨rfl,ann156,aB,(.dat Ty.bool),(aH (by kernel_rfl)),?_⟩
 ·rw[vc156]
  exact(oC h (fun b_1 h=>(oC h (fun _ h=>(oC h (fun b_3 h=>(oC h (fun _ h=>(bE (ugt (cH (bnf (bgt b_3)) (by decide))) (oC h (fun _ h=>(dZ (ugf (bnf (bgt b_3))) (bE (ugt (bgt b_1)) (oC h (fun _ h=>(bE (ugt (cH (bnf (bgt b_3)) (by decide))) h)) fun _ h=>h)))) fun _ h=>h))) fun _ h=>h)) fun b_3 h=>(oC h (fun _ h=>(oC h (fun _ h=>(bE (ugt (bnt (bgf b_3))) (oC h (fun _ h=>(bE (ugt (bgt b_1)) (oC h (fun _ h=>(oC h (fun _ h=>h) fun _ h=>h)) fun _ h=>h))) fun _ h=>h))) fun _ h=>h)) fun b_27 h=>(bE (ugt (bnt (bgf b_3))) (oC h (fun _ h=>(bE (ugt (bgt b_1)) (oC h (fun _ h=>(bE (ugt (cH (bgf b_27) (by decide))) h)) fun _ h=>h))) fun _ h=>h))))) fun b_2 h=>(dZ (ugf (unt (cH (bgf b_2) (by decide)))) (bE (ugt (cH (bgf b_2) (by decide))) (oC h (fun _ h=>(bE (ugt (cH (bgf b_2) (by decide))) (oC h (fun _ h=>(bE (ugt (cH (bgf b_2) (by decide))) h)) fun _ h=>h))) fun _ h=>h))))) fun b_1 h=>(bE (ugt (cH (bgf b_1) (by decide))) (dZ (ugf (unt (cH (bgf b_1) (by decide)))) (bE (ugt (cH (bgf b_1) (by decide))) (oC h (fun _ h=>(dZ (ugf (bgf b_1)) (bE (ugt (cH (bgf b_1) (by decide))) h))) fun _ h=>h)))))
def c190:Con:=⟨[.any,.dat aC],fun args hp K=>args2 (fun a0 a1=>DC a0 (ff aC a1 fun n=>(0<=n)/\(n<=1099511627776)/\(LD ([]:List ag.D) fun r=>K (.own 0 none) [(0,.arr .sh ag r)]))) args hp,.plain,false⟩
abbrev C190:Ctx:=cx [] 27 [] 0 false
def ann190:=an [[kp 3],[kp 67],[kp 3],[kp 3],[kp 65539],[kp 1],[kp 16]] []
theorem vc190 (n:Int) (K:KA):vcT C190 aB ann190 f190 [.cst (.slice none 0 0),dI n] [] .raw K =
 (cond (decide (n<Z0)) False (cond (decide (Z0<wrap64 (n-(wrap64 (Z0-Z0))))) ((0<=Z0)/\(Z0<=Z0)/\(Z0<=Z0)/\(Z0=Z0)/\(0<=wrap64 (n-(wrap64 (Z0-Z0))))/\((wrap64 (n-(wrap64 (Z0-Z0)))) * 16<=(lim:Int))/\(0<=Z0)/\(Z0<=Z0)/\(Z0<=((List.replicate (wrap64 (n-(wrap64 (Z0-Z0)))).toNat (Z0,(false,()))).length:Int))/\(Z0=Z0)/\(Z0=0)/\K (.own 0 none) [(0,.arr .sh ag ((List.replicate (wrap64 (n-(wrap64 (Z0-Z0)))).toNat (Z0,(false,()))).take Z0.toNat))]) (K (.own 0 none) [(0,.arr .sh ag [])]))):=by kernel_rfl
theorem con190_ok:bf P 190 c190:=br C190 func190 kN fun args hp K h0=>by
 obtain⟨a0,a1,rfl,rfl,h1⟩:=bT h0
 obtain⟨rfl,h2⟩:=tE h1
 obtain⟨n,rfl,h3⟩:=bp h2
 obtain⟨p0,p1,hK⟩:=h3
 have h:ok (F.oZ n) (fun r=>K (.own 0 none) [(0,.arr .sh ag r)]):=az (F.xM n p0 p1) (hK _ rfl)
 refine⟨rfl,ann190,aB,.raw,(aH (by kernel_rfl)),?_⟩
 ·rw[vc190]
  exact(oC h (fun _ h=>h) fun _ h=>(oC h (fun _ h=>⟨(Int.natCast_nonneg 0),⟨(Int.le_refl _),⟨(Int.le_refl _),⟨rfl,(oG h fun _ h=>(oG h fun _ h=>⟨(Int.natCast_nonneg 0),⟨(Int.le_refl _),⟨(Int.natCast_nonneg _),⟨rfl,⟨rfl,h⟩⟩⟩⟩⟩))⟩⟩⟩⟩) fun _ h=>h))
def c157:Con:=⟨[.dat (Ty.sl TCS)],fun args hp K=>g1 (pD (Ty.sl TCS)) (fun xss=>(Sm (Ty.sl TCS) xss)/\(LD (List.flatten xss) fun r=>K (.own 0 none) [(0,.arr .sh ag r)])) args hp,.plain,false⟩
abbrev C157:Ctx:=cx [(190,c190)] 36 [] 0 false
def ann157:=an [[kp 1],[kp 9],[kp 3593],[kp 7689],[kp 3625],[kp 3593],[kp 1052169],[kp 3593],[kp 3593],[kp 65],[kp 234881088],[kp 503316544],[kp 234881344],[kp 234881088],[kp 234881088],[kp 4]] [[kp 9],[],[kp 64]]
abbrev s157_0 (xss:(List LC)) (i0:Int) (v0:Int):St:=⟨[(0,.data (Ty.sl TCS) xss),(3,dI v0),(9,.data (Ty.sl TCS) xss),(10,dI (xss.length:Int)),(11,dI i0)],[]⟩
abbrev LP157_0 (xss:(List LC)) (m:Nat) (st_:St) (K:KX):Prop:=True/\bX (t:=TCS) (s157_0 xss) xss (F.gG xss) (fun v0:Int=>True) (bg (fun v0:Int=>True->K (.exit 0) (⟨[(0,.data (Ty.sl TCS) xss),(3,dI v0)],[]⟩:St)) (fun _=>False)) m st_
abbrev s157_2 (xss:(List LC)) (i2:Int) (v2:LC):St:=⟨[(6,.own 24 none),(25,.data (Ty.sl TCS) xss),(26,dI (xss.length:Int)),(27,dI i2)],[(24,.arr .sh ag v2)]⟩
abbrev LP157_2 (xss:(List LC)) (m:Nat) (st_:St) (K:KX):Prop:=True/\bX (t:=TCS) (s157_2 xss) xss (F.gu xss) (fun v2:LC=>True) (bg (fun v2:LC=>True->K (.exit 2) (⟨[(6,.own 24 none)],[(24,.arr .sh ag v2)]⟩:St)) (fun _=>False)) m st_
def L157 (xss:(List LC)):bH:=lp2 0 (LP157_0 xss) 2 (LP157_2 xss)
theorem vc157 (xss:(List LC)) (K:KA):vcT C157 (L157 xss) ann157 f157 [.data (Ty.sl TCS) xss] [] .raw K =
 (∃m_,True/\bX (t:=TCS) (s157_0 xss) xss (F.gG xss) (fun v0:Int=>True) (bg (fun v0:Int=>True->(0<=v0)/\(v0<=1099511627776)/\(LD ([]:List ag.D) fun r1=>(∃m_,True/\bX (t:=TCS) (s157_2 xss) xss (F.gu xss) (fun v2:LC=>True) (bg (fun v2:LC=>True->K (.own 0 none) [(0,.arr .sh ag v2)]) (fun _=>False)) m_ (s157_2 xss Z0 r1)))) (fun _=>False)) m_ (s157_0 xss Z0 Z0)):=by kernel_rfl
theorem lvc157_0 (xss:(List LC))  (i0:Int) (v0:Int) (m:Nat) (K:KX):lvT C157 (L157 xss) ann157 f157 0 0 (s157_0 xss i0 v0) m K =
 (cond (decide (i0<(xss.length:Int))) ((0<=i0)/\(i0<(xss.length:Int))/\cond (decide (wrap64 (v0+((nth (t:=TCS) xss i0).length:Int))<Z0)) False (nxT (LP157_0 xss) m K (s157_0 xss (wrap64 (i0+Z1)) (wrap64 (v0+((nth (t:=TCS) xss i0).length:Int)))))) (K (.exit 0) (⟨[(0,.data (Ty.sl TCS) xss),(3,dI v0)],[]⟩:St))):=by kernel_rfl
theorem lvc157_1 (xss:(List LC))  (i2:Int) (v2:LC) (m:Nat) (K:KX):lvT C157 (L157 xss) ann157 f157 1 2 (s157_2 xss i2 v2) m K =
 (cond (decide (i2<(xss.length:Int))) ((0<=i2)/\(i2<(xss.length:Int))/\((v2.length+(nth (t:=TCS) xss i2).length) * 16<=lim)/\(nxT (LP157_2 xss) m K (s157_2 xss (wrap64 (i2+Z1)) (v2++(nth (t:=TCS) xss i2))))) (K (.exit 2) (⟨[(6,.own 24 none)],[(24,.arr .sh ag v2)]⟩:St))):=by kernel_rfl
theorem con157_ok:bf P 157 c157:=br C157 func157 (kC con190_ok kN) fun args hp K h0=>by
 obtain⟨xss,rfl,rfl,h_xss,hK⟩:=g1e h0
 have h:ok (F.mU xss) (fun r=>K (.own 0 none) [(0,.arr .sh ag r)]):=az (F.uU xss h_xss) (hK _ rfl)
 refine⟨rfl,ann157,(L157 xss),.raw,(lS (i0:=0) (i1:=2) (by kernel_rfl) ?_ ?_),?_⟩
 ·rintro _ _ K ⟨hc0,i0,v0,rfl,hl0,rfl,hv0,h⟩
  exact cast (lvc157_0 _ _ _ _ _).symm (bB (t:=TCS) hl0 h (fun ht0 h=>⟨hl0,⟨ht0,(oC h (fun _ h=>h) fun _ h=>(aZ (t:=TCS) (fun _ hm=>⟨hc0,hm⟩) _ rfl hl0 ht0 (bz h_xss) trivial h))⟩⟩) fun h=>(h trivial))
 ·rintro _ _ K ⟨hc2,i2,v2,rfl,hl2,rfl,hv2,h⟩
  exact cast (lvc157_1 _ _ _ _ _).symm (bB (t:=TCS) hl2 h (fun ht2 h=>⟨hl2,⟨ht2,(oG h fun _ h=>(aZ (t:=TCS) (fun _ hm=>⟨hc2,hm⟩) _ rfl hl2 ht2 (bz h_xss) trivial h))⟩⟩) fun h=>(h trivial))
 ·rw[vc157]
  exact(bn (t:=TCS) (fun m hm=>⟨trivial,hm⟩) _ rfl trivial (aT h (fun v0 h hv0=>(oG h fun _ h=>(oG h fun _ h=>(oL h fun _ _ h=>(bn (t:=TCS) (fun m hm=>⟨trivial,hm⟩) _ rfl trivial (aT h (fun v2 h hv2=>h) (fun _ h=>h.elim))))))) (fun _ h=>h.elim)))
def c111:Con:=⟨[.dat ah,.dat TTb,.lent aF],fun args hp K=>g3 (pD ah) (pD TTb) (pB aF) (fun s tables ahead=>(Sm ah s)/\(Sm TTb tables)/\(Sm (Ty.sl aF) ahead)/\(LD (M.make s tables ahead) fun r=>K (.tup [.data aF r.1,dB r.2]) [])) args hp,.plain,false⟩
abbrev C111:Ctx:=cx [(13,c13),(67,c67),(74,c74),(156,c156),(157,c157)] 201 [] 0 true
def ann111:=an [[.fixRow 3 ah,kp 78],[kp 33554510],[kp 192],[kp 536870990],[kp 68719476810],[kp 192],[kp 192],[.keep [2,3,6,60]],[kp 192],[.fixRow 8 aF,.fixRow 9 aF,kp 840],[.keep [3,6,8,9,73]],[kp 28334198897217871283016],[kp 192],[.keep [3,6,8,9,73,83]],[kp 1352],[.mineC .sh 10 0 800160 ag,kp 4332790137498830962146936136],[kp 9284550294640352061743433032],[kp 4332790137498830962146940232],[kp 2539633990593957633955553350984],[kp 192],[kp 4332790137498830962146936136],[kp 4332790137498830962146936136],[.freeze 800160,kp 192],[.keep [3,6,8,9,73,119]],[.fixRow 13 aF,kp 8264],[.freeze 126,kp 192],[.keep [6,8,9,146]],[.fixRow 14 aF,kp 17216],[.keep [6,9,14,163]],[kp 192],[.keep [6,14,166,167,168]],[.keep [6,14,166,167,168,169]],[.fixRow 16 ag,.keep [6,14,15,16,166,167,168]],[.keep [6,14,15,16,166,167,168,181]],[kp 192],[.keep [6,14,166,167,168]],[.keep [6,14,166,167,168]],[.freeze 150,kp 192],[kp 192]] [[],[kp 1096],[],[kp 16448]]
abbrev s111_1 (s:ah.D) (tables:LTb) (ahead:(List aF.D)) (i1:Int) (v1:LC):St:=⟨[(3,.adr ah s),(6,.ptr 6 0),(8,.adr aF (nM ahead s.2.1)),(10,.ptr 10 0),(89,.data (Ty.sl aC) s.2.2.2.2.2.1),(90,dI (s.2.2.2.2.2.1.length:Int)),(91,dI i1)],[(6,.box [.cst (.slice none 0 0),dI Z0]),(10,.box [.own 800160 none,dI (nM ahead s.2.1).2.1]),(800160,.arr .sh ag v1)]⟩
abbrev LP111_1 (s:ah.D) (tables:LTb) (ahead:(List aF.D)) (m:Nat) (st_:St) (K:KX):Prop:=True/\bX (t:=aC) (s111_1 s tables ahead) s.2.2.2.2.2.1 (F.gF s tables ahead) (fun v1:LC=>True) (bg (fun v1:LC=>True->K (.exit 1) (⟨[(3,.adr ah s),(6,.ptr 6 0),(10,.ptr 10 0)],[(6,.box [.cst (.slice none 0 0),dI Z0]),(10,.box [.own 800160 none,dI (nM ahead s.2.1).2.1]),(800160,.arr .sh ag v1)]⟩:St)) (fun q1:Unit=>K .ret (⟨[(6,.ptr 6 0),(7,dB false)],[(6,.box [.cst (.slice none 0 0),dI Z0])]⟩:St))) m st_
abbrev s111_3 (s:ah.D) (tables:LTb) (ahead:(List aF.D)) (c3_0:Int) (i3:Int) (v3:LC):St:=⟨[(6,.ptr 6 0),(14,.ptr 14 0),(166,.data TCS (nM ahead s.2.2.1).1),(167,dI ((nM ahead s.2.2.1).1.length:Int)),(168,dI i3)],[(6,.box [.cst (.slice none 0 0),dI Z0]),(14,.box [.clp 150 c3_0,dI (wrap64 ((nM ahead s.2.1).2.1+(nM ahead s.2.2.1).2.1))]),(150,.arr .sh ag v3)]⟩
abbrev LP111_3 (s:ah.D) (tables:LTb) (ahead:(List aF.D)) (m:Nat) (st_:St) (K:KX):Prop:=∃c3_0:Int,True/\cm (s111_3 s tables ahead c3_0) Z0 ((nM ahead s.2.2.1).1.length:Int) (F.fe s tables ahead c3_0) (fun v3:LC=>True) (bg (fun v3:LC=>True->K (.exit 3) (⟨[(6,.ptr 6 0),(14,.ptr 14 0)],[(6,.box [.cst (.slice none 0 0),dI Z0]),(14,.box [.clp 150 c3_0,dI (wrap64 ((nM ahead s.2.1).2.1+(nM ahead s.2.2.1).2.1))]),(150,.arr .sh ag v3)]⟩:St)) (fun q3:Unit=>K .ret (⟨[(6,.ptr 6 0),(7,dB false)],[(6,.box [.cst (.slice none 0 0),dI Z0])]⟩:St))) m st_
def L111 (s:ah.D) (tables:LTb) (ahead:(List aF.D)):bH:=lp2 1 (LP111_1 s tables ahead) 3 (LP111_3 s tables ahead)
abbrev S111_0 (s:ah.D) (tables:LTb) (ahead:(List aF.D)) (K:KA):Prop:=(Sm (Ty.sl TCS) [(nM ahead s.2.1).1,(nM ahead s.2.2.1).1])/\(LD (List.flatten [(nM ahead s.2.1).1,(nM ahead s.2.2.1).1]) fun r1=>cond ((decide ((r1.length:Int)<=Z4))==true) ((Sm TCS r1)/\(Sm TPS s.2.2.2.2.1)/\Q0 (K (.tup [.data aF (r1,(wrap64 ((nM ahead s.2.1).2.1 * (nM ahead s.2.2.1).2.1),())),dB (decide ((M.cW r1 s.2.2.2.2.1)=Z3))]) [])) (Q0 (K (.tup [.data aF (r1,(wrap64 ((nM ahead s.2.1).2.1 * (nM ahead s.2.2.1).2.1),())),dB false]) [])))
abbrev S111_1 (s:ah.D) (tables:LTb) (ahead:(List aF.D)) (K:KA):Prop:=(Sm TCS (nM ahead s.2.1).1)/\(LD (nM ahead s.2.1).1 fun r2=>cond (!decide (((nM ahead s.2.1).1.length:Int)=((nM ahead s.2.2.1).1.length:Int))) (K (.tup [.data aF ([],(Z0,())),dB false]) []) (∃m_,∃c3_0:Int,True/\cm (s111_3 s tables ahead c3_0) Z0 ((nM ahead s.2.2.1).1.length:Int) (F.fe s tables ahead c3_0) (fun v3:LC=>True) (bg (fun v3:LC=>True->K (.tup [.data aF ((ay v3 (some (Z0,c3_0))),(wrap64 ((nM ahead s.2.1).2.1+(nM ahead s.2.2.1).2.1),())),dB true]) []) (fun q3:Unit=>K (.tup [.data aF ([],(Z0,())),dB false]) [])) m_ (s111_3 s tables ahead (r2.length:Int) Z0 r2)))
abbrev S111_2 (s:ah.D) (tables:LTb) (ahead:(List aF.D)) (K:KA):Prop:=cond (decide (s.1=Z2)) ((Sm TCS (nM ahead s.2.1).1)/\(Sm TPS s.2.2.2.2.1)/\K (.tup [.data aF (nM ahead s.2.1),dB (decide ((M.cW (nM ahead s.2.1).1 s.2.2.2.2.1)=Z3))]) []) (cond (decide (s.1=Z3)) (∃m_,True/\bX (t:=aC) (s111_1 s tables ahead) s.2.2.2.2.2.1 (F.gF s tables ahead) (fun v1:LC=>True) (bg (fun v1:LC=>True->Q0 (K (.tup [.data aF (v1,(nM ahead s.2.1).2),dB (decide ((s.2.2.2.2.2.1.length:Int)<=Z4))]) [])) (fun q1:Unit=>K (.tup [.data aF ([],(Z0,())),dB false]) [])) m_ (s111_1 s tables ahead Z0 [])) (cond (decide (s.1=Z4)) (Q4 (S111_0 s tables ahead K)) (cond (decide (s.1=Z5)) (Q0 (S111_1 s tables ahead K)) (K (.tup [.data aF (nM ahead s.2.1),dB true]) []))))
abbrev S111_3 (s:ah.D) (tables:LTb) (ahead:(List aF.D)) (K:KA):Prop:=(S111_2 s tables ahead K)
theorem vc111 (s:ah.D) (tables:LTb) (ahead:(List aF.D)) (K:KA):vcT C111 (L111 s tables ahead) ann111 f111 [.data ah s,.data TTb tables,.brw aF ahead] [] (.tup [aF,Ty.bool]) K =
 ((Sm ah s)/\cond ((!(M.bJ s))==false) (cond (!(M.inR s.1 Z1 Z6)) (K (.tup [.data aF ([],(Z0,())),dB false]) []) (cond (decide (s.1=Z1)) (cond (!(M.inR s.2.2.2.1 Z0 (wrap64 ((tables.length:Int)-Z1)))) (K (.tup [.data aF ([],(Z0,())),dB false]) []) ((0<=s.2.2.2.1)/\(s.2.2.2.1<(tables.length:Int))/\K (.tup [.data aF ((nT tables s.2.2.2.1).1,(Z6,())),dB true]) [])) (cond ((!(M.inR s.2.1 Z0 (wrap64 ((ahead.length:Int)-Z1))))==false) (cond (!(M.inR s.2.2.1 Z0 (wrap64 ((ahead.length:Int)-Z1)))) (K (.tup [.data aF ([],(Z0,())),dB false]) []) ((0<=s.2.1)/\(s.2.1<(ahead.length:Int))/\(0<=s.2.2.1)/\(s.2.2.1<(ahead.length:Int))/\Q5 (S111_3 s tables ahead K))) (K (.tup [.data aF ([],(Z0,())),dB false]) [])))) (K (.tup [.data aF ([],(Z0,())),dB false]) [])):=by kernel_rfl
theorem lvc111_0 (s:ah.D) (tables:LTb) (ahead:(List aF.D))  (i1:Int) (v1:LC) (m:Nat) (K:KX):lvT C111 (L111 s tables ahead) ann111 f111 0 1 (s111_1 s tables ahead i1 v1) m K =
 (cond (decide (i1<(s.2.2.2.2.2.1.length:Int))) ((0<=i1)/\(i1<(s.2.2.2.2.2.1.length:Int))/\cond (!(M.inR (nI s.2.2.2.2.2.1 i1) Z0 (wrap64 (((nM ahead s.2.1).1.length:Int)-Z1)))) (K .ret (⟨[(6,.ptr 6 0),(7,dB false)],[(6,.box [.cst (.slice none 0 0),dI Z0])]⟩:St)) ((0<=(nI s.2.2.2.2.2.1 i1))/\((nI s.2.2.2.2.2.1 i1)<((nM ahead s.2.1).1.length:Int))/\((v1.length+[(nC (nM ahead s.2.1).1 (nI s.2.2.2.2.2.1 i1))].length) * 16<=lim)/\(nxT (LP111_1 s tables ahead) m K (s111_1 s tables ahead (wrap64 (i1+Z1)) (v1++[(nC (nM ahead s.2.1).1 (nI s.2.2.2.2.2.1 i1))]))))) (K (.exit 1) (⟨[(3,.adr ah s),(6,.ptr 6 0),(10,.ptr 10 0)],[(6,.box [.cst (.slice none 0 0),dI Z0]),(10,.box [.own 800160 none,dI (nM ahead s.2.1).2.1]),(800160,.arr .sh ag v1)]⟩:St))):=by kernel_rfl
theorem lvc111_1 (s:ah.D) (tables:LTb) (ahead:(List aF.D)) (c3_0:Int) (i3:Int) (v3:LC) (m:Nat) (K:KX):lvT C111 (L111 s tables ahead) ann111 f111 1 3 (s111_3 s tables ahead c3_0 i3 v3) m K =
 (cond (decide (i3<((nM ahead s.2.2.1).1.length:Int))) ((0<=i3)/\(i3<((nM ahead s.2.2.1).1.length:Int))/\(0<=i3)/\(i3<c3_0)/\cond (!decide ((nC (nM ahead s.2.2.1).1 i3).1=(nC v3 i3).1)) (K .ret (⟨[(6,.ptr 6 0),(7,dB false)],[(6,.box [.cst (.slice none 0 0),dI Z0])]⟩:St)) ((0<=i3)/\(i3<c3_0)/\cond ((nC v3 i3).2.1==false) ((0<=i3)/\(i3<c3_0)/\(let y1:LC:=(v3.set i3.toNat ((nC v3 i3).1,(nC (nM ahead s.2.2.1).1 i3).2));(nxT (LP111_3 s tables ahead) m K (s111_3 s tables ahead c3_0 (wrap64 (i3+Z1)) y1)))) ((0<=i3)/\(i3<c3_0)/\(nxT (LP111_3 s tables ahead) m K (s111_3 s tables ahead c3_0 (wrap64 (i3+Z1)) (v3.set i3.toNat ((nC v3 i3).1,(true,())))))))) (K (.exit 3) (⟨[(6,.ptr 6 0),(14,.ptr 14 0)],[(6,.box [.cst (.slice none 0 0),dI Z0]),(14,.box [.clp 150 c3_0,dI (wrap64 ((nM ahead s.2.1).2.1+(nM ahead s.2.2.1).2.1))]),(150,.arr .sh ag v3)]⟩:St))):=by kernel_rfl
theorem con111_ok:bf P 111 c111:=br C111 func111 (kC con13_ok (kC con67_ok (kC con74_ok (kC con156_ok (kC con157_ok kN))))) fun args hp K h0=>by
 obtain⟨s,tables,ahead,rfl,rfl,h_s,h_tables,h_ahead,hK⟩:=g3e h0
 have h:ok (F.gL s tables ahead) (fun r=>K (.tup [.data aF r.1,dB r.2]) []):=az (F.tX s tables ahead h_s h_tables h_ahead) (hK _ rfl)
 refine⟨rfl,ann111,(L111 s tables ahead),(.tup [aF,Ty.bool]),(lS (i0:=1) (i1:=3) (by kernel_rfl) ?_ ?_),?_⟩
 ·rintro _ _ K ⟨hc1,i1,v1,rfl,hl1,rfl,hv1,h⟩
  exact cast (lvc111_0 _ _ _ _ _ _ _).symm (bB (t:=aC) hl1 h (fun ht1 h=>⟨hl1,⟨ht1,(oC h (fun _ h=>h) fun b_22 h=>⟨(gj (bnf b_22)),⟨(ov (bnf b_22)),(oG h fun _ h=>(aZ (t:=aC) (fun _ hm=>⟨hc1,hm⟩) _ rfl hl1 ht1 (bz h_s.2.2.2.2.2.1) trivial h))⟩⟩)⟩⟩) fun h=>(h trivial))
 ·rintro _ _ K ⟨c3_0,hc3,i3,v3,rfl,hl3,rfl,hv3,h⟩
  exact cast (lvc111_1 _ _ _ _ _ _ _ _).symm (bM h (fun ht3 h=>⟨hl3,⟨ht3,⟨hl3,(oG h fun g1 h=>(oC h (fun _ h=>h) fun _ h=>⟨hl3,⟨g1,(oC h (fun _ h=>⟨hl3,⟨g1,(have h:=cL h _ rfl;(aN (fun _ hm=>⟨c3_0,hc3,hm⟩) _ rfl hl3 fS ht3 (bz (aQ h_ahead s.2.2.1).1) trivial h))⟩⟩) fun _ h=>⟨hl3,⟨g1,(aN (fun _ hm=>⟨c3_0,hc3,hm⟩) _ rfl hl3 fS ht3 (bz (aQ h_ahead s.2.2.1).1) trivial h)⟩⟩)⟩⟩))⟩⟩⟩) fun h=>(h trivial))
 ·rw[vc111]
  exact⟨h_s,(oC h (fun _ h=>(oC h (fun _ h=>h) fun _ h=>(oC h (fun _ h=>(oC h (fun _ h=>h) fun b_4 h=>⟨(gj (bnf b_4)),⟨(ov (bnf b_4)),h⟩⟩)) fun _ h=>(oC h (fun b_5 h=>(oC h (fun _ h=>h) fun b_6 h=>⟨(gj (bnf (bgt b_5))),⟨(ov (bnf (bgt b_5))),⟨(gj (bnf b_6)),⟨(ov (bnf b_6)),(q5 (oC h (fun _ h=>⟨(aQ h_ahead s.2.1).1,⟨h_s.2.2.2.2.1,h⟩⟩) fun _ h=>(oC h (fun _ h=>(bn (t:=aC) (fun m hm=>⟨trivial,hm⟩) _ rfl trivial (aT h (fun v1 h hv1=>(q0 h)) (fun q1 h=>h)))) fun _ h=>(oC h (fun _ h=>(q4 (oG h fun _ h=>(oL h fun _ _ h=>(oC h (fun _ h=>(oG h fun _ h=>⟨h_s.2.2.2.2.1,(q0 h)⟩)) fun _ h=>(q0 h)))))) fun _ h=>(oC h (fun _ h=>(q0 (⟨(aQ h_ahead s.2.1).1,(oL h fun r2 _ h=>(oC h (fun _ h=>h) fun _ h=>(bA (fun m hm=>⟨(r2.length:Int),trivial,hm⟩) Z0 _ rfl (Int.natCast_nonneg 0) trivial (aT h (fun v3 h hv3=>h) (fun q3 h=>h)))))⟩))) fun _ h=>h)))))⟩⟩⟩⟩)) fun _ h=>h)))) fun _ h=>h)⟩
def c59:Con:=⟨[.dat TTb,.dat TSS],fun args hp K=>g2 (pD TTb) (pD TSS) (fun tables plan=>(Sm TTb tables)/\(Sm TSS plan)/\(LD (M.makes tables plan) fun r=>K (.tup [.data (Ty.sl aF) r.1,dB r.2]) [])) args hp,.plain,false⟩
abbrev C59:Ctx:=cx [(67,c67),(110,c110),(111,c111)] 46 [] 0 false
def ann59:=an [[kp 3],[kp 524291],[kp 48],[kp 67],[kp 7340097],[kp 15728705],[.fixRow 8 ah,kp 7340353],[.fixRow 9 aF,kp 7341633],[kp 549763154497],[kp 48],[kp 7340097],[kp 7340097],[kp 48]] [[kp 64]]
abbrev s59_0 (tables:LTb) (plan:LS) (i0:Int) (v0:(List aF.D)):St:=⟨[(0,.data TTb tables),(6,.own 6 none),(20,.data TSS plan),(21,dI (plan.length:Int)),(22,dI i0)],[(6,.arr .sh aF v0)]⟩
abbrev LP59_0 (tables:LTb) (plan:LS) (m:Nat) (st_:St) (K:KX):Prop:=True/\bX (t:=ah) (s59_0 tables plan) plan (F.iI tables plan) (fun v0:(List aF.D)=>True) (bg (fun v0:(List aF.D)=>True->K (.exit 0) (⟨[(6,.own 6 none)],[(6,.arr .sh aF v0)]⟩:St)) (fun q0:Unit=>K .ret (⟨[(4,.own 4 none),(5,dB false)],[(4,.arr .sh aF [])]⟩:St))) m st_
def L59 (tables:LTb) (plan:LS):bH:=lp1 0 (LP59_0 tables plan)
theorem vc59 (tables:LTb) (plan:LS) (K:KA):vcT C59 (L59 tables plan) ann59 f59 [.data TTb tables,.data TSS plan] [] (.tup [(Ty.sl aF),Ty.bool]) K =
 ((Sm TTb tables)/\cond ((!(M.cO tables))==false) (cond (!(M.inR (plan.length:Int) Z1 Z6)) (K (.tup [.data (Ty.sl aF) [],dB false]) []) (∃m_,True/\bX (t:=ah) (s59_0 tables plan) plan (F.iI tables plan) (fun v0:(List aF.D)=>True) (bg (fun v0:(List aF.D)=>True->K (.tup [.data (Ty.sl aF) v0,dB true]) []) (fun q0:Unit=>K (.tup [.data (Ty.sl aF) [],dB false]) [])) m_ (s59_0 tables plan Z0 []))) (K (.tup [.data (Ty.sl aF) [],dB false]) [])):=by kernel_rfl
theorem lvc59_0 (tables:LTb) (plan:LS)  (i0:Int) (v0:(List aF.D)) (m:Nat) (K:KX):lvT C59 (L59 tables plan) ann59 f59 0 0 (s59_0 tables plan i0 v0) m K =
 (cond (decide (i0<(plan.length:Int))) ((0<=i0)/\(i0<(plan.length:Int))/\(Sm ah (nS plan i0))/\(Sm TTb tables)/\(Sm (Ty.sl aF) v0)/\(LD (M.make (nS plan i0) tables v0) fun r1=>cond ((!r1.2)==false) (cond (decide ((300:Int)<r1.1.2.1)) (K .ret (⟨[(4,.own 4 none),(5,dB false)],[(4,.arr .sh aF [])]⟩:St)) (((v0.length+[r1.1].length) * 32<=lim)/\(nxT (LP59_0 tables plan) m K (s59_0 tables plan (wrap64 (i0+Z1)) (v0++[r1.1]))))) (K .ret (⟨[(4,.own 4 none),(5,dB false)],[(4,.arr .sh aF [])]⟩:St)))) (K (.exit 0) (⟨[(6,.own 6 none)],[(6,.arr .sh aF v0)]⟩:St))):=by kernel_rfl
theorem con59_ok:bf P 59 c59:=br C59 func59 (kC con67_ok (kC con110_ok (kC con111_ok kN))) fun args hp K h0=>by
 obtain⟨tables,plan,rfl,rfl,h_tables,h_plan,hK⟩:=g2e h0
 have h:ok (F.mw tables plan) (fun r=>K (.tup [.data (Ty.sl aF) r.1,dB r.2]) []):=az (F.zZ tables plan h_tables h_plan) (hK _ rfl)
 refine⟨rfl,ann59,(L59 tables plan),(.tup [(Ty.sl aF),Ty.bool]),(bL (i0:=0) (by kernel_rfl) ?_),?_⟩
 ·rintro _ _ K ⟨hc0,i0,v0,rfl,hl0,rfl,hv0,h⟩
  exact cast (lvc59_0 _ _ _ _ _ _).symm (bB (t:=ah) hl0 h (fun ht0 h=>⟨hl0,⟨ht0,⟨(aQ h_plan i0),⟨h_tables,(oG h fun _ h=>(oL h fun _ _ h=>(oC h (fun _ h=>(oC h (fun _ h=>h) fun _ h=>(oG h fun _ h=>(aZ (t:=ah) (fun _ hm=>⟨hc0,hm⟩) _ rfl hl0 ht0 (bz h_plan) trivial h)))) fun _ h=>h)))⟩⟩⟩⟩) fun h=>(h trivial))
 ·rw[vc59]
  exact⟨h_tables,(oC h (fun _ h=>(oC h (fun _ h=>h) fun _ h=>(bn (t:=ah) (fun m hm=>⟨trivial,hm⟩) _ rfl trivial (aT h (fun v0 h hv0=>h) (fun q0 h=>h))))) fun _ h=>h)⟩
def c20:Con:=⟨[.dat TTb,.dat TSS],fun args hp K=>g2 (pD TTb) (pD TSS) (fun tables plan=>(Sm TTb tables)/\(Sm TSS plan)/\K (dB (M.bC tables plan)) []) args hp,.plain,false⟩
abbrev C20:Ctx:=cx [(59,c59)] 14 [] 0 false
def ann20:=an [[kp 3],[kp 64],[kp 16]] []
theorem vc20 (tables:LTb) (plan:LS) (K:KA):vcT C20 aB ann20 f20 [.data TTb tables,.data TSS plan] [] (.dat Ty.bool) K =
 ((Sm TTb tables)/\(Sm TSS plan)/\(LD (M.makes tables plan) fun r1=>K (dB r1.2) [])):=by kernel_rfl
theorem con20_ok:bf P 20 c20:=br C20 func20 (kC con59_ok kN) fun args hp K h0=>by
 obtain⟨tables,plan,rfl,rfl,h_tables,h_plan,hK⟩:=g2e h0
 have h:ok (F.qO tables plan) (fun r=>K (dB r) []):=az (F.zM tables plan h_tables h_plan) hK
 refine⟨rfl,ann20,aB,(.dat Ty.bool),(aH (by kernel_rfl)),?_⟩
 ·rw[vc20]
  exact⟨h_tables,⟨h_plan,(oL h fun _ _ h=>h)⟩⟩
def c62:Con:=⟨[.dat TSS],fun args hp K=>g1 (pD TSS) (fun plan=>(Sm TSS plan)/\(M.iW plan)/\(LD (M.cn plan) fun r=>K (.own 0 none) [(0,.arr .sh Ty.bool r)])) args hp,.plain,false⟩
abbrev C62:Ctx:=cx [] 51 [] 0 false
def ann62:=an [[kp 1],[kp 9],[kp 9],[kp 25],[kp 262169],[kp 25],[.fixRow 5 ah,kp 57],[kp 8589934649],[kp 57],[kp 35184372088889],[kp 25],[kp 4]] [[kp 8]]
abbrev s62_0 (plan:LS) (v0:Int×(List Bool)):St:=⟨[(0,.data TSS plan),(3,.own 8 none),(4,dI v0.1)],[(8,.arr .sh Ty.bool v0.2)]⟩
abbrev LP62_0 (plan:LS) (m:Nat) (st_:St) (K:KX):Prop:=True/\ep (s62_0 plan) (F.kz plan) (fun v0:Int×(List Bool)=>True) (fun e0:(List Bool)=>True->K (.exit 0) (⟨[(3,.own 8 none)],[(8,.arr .sh Ty.bool e0)]⟩:St)) m st_
def L62 (plan:LS):bH:=lp1 0 (LP62_0 plan)
theorem vc62 (plan:LS) (K:KA):vcT C62 (L62 plan) ann62 f62 [.data TSS plan] [] .raw K =
 (((plan.length:Int)=(plan.length:Int))/\(0<=(plan.length:Int))/\((plan.length:Int) * 1<=(lim:Int))/\(0<=wrap64 ((plan.length:Int)-Z1))/\(wrap64 ((plan.length:Int)-Z1)<((List.replicate (plan.length:Int).toNat false).length:Int))/\(let y1:(List Bool):=((List.replicate (plan.length:Int).toNat false).set (wrap64 ((plan.length:Int)-Z1)).toNat true);(∃m_,True/\ep (s62_0 plan) (F.kz plan) (fun v0:Int×(List Bool)=>True) (fun e0:(List Bool)=>True->K (.own 0 none) [(0,.arr .sh Ty.bool e0)]) m_ (s62_0 plan (wrap64 ((plan.length:Int)-Z1),y1))))):=by kernel_rfl
abbrev S62l0_0 (plan:LS)  (v0:Int×(List Bool)) (m:Nat) (K:KX):Prop:=(0<=(nS plan v0.1).2.2.1)/\((nS plan v0.1).2.2.1<((v0.2.set (nS plan v0.1).2.1.toNat true).length:Int))/\(let y2:(List Bool):=((v0.2.set (nS plan v0.1).2.1.toNat true).set (nS plan v0.1).2.2.1.toNat true);(nxT (LP62_0 plan) m K (s62_0 plan (wrap64 (v0.1-Z1),y2))))
theorem lvc62_0 (plan:LS)  (v0:Int×(List Bool)) (m:Nat) (K:KX):lvT C62 (L62 plan) ann62 f62 0 0 (s62_0 plan v0) m K =
 (cond (decide (Z0<=v0.1)) ((0<=v0.1)/\(v0.1<(plan.length:Int))/\(0<=v0.1)/\(v0.1<(v0.2.length:Int))/\cond ((nth (t:=Ty.bool) v0.2 v0.1)==true) (cond (!decide ((nS plan v0.1).1=Z1)) ((0<=(nS plan v0.1).2.1)/\((nS plan v0.1).2.1<(v0.2.length:Int))/\cond ((decide ((nS plan v0.1).1=Z4))==false) (cond (decide ((nS plan v0.1).1=Z5)) (S62l0_0  plan v0 m K) (nxT (LP62_0 plan) m K (s62_0 plan (wrap64 (v0.1-Z1),(v0.2.set (nS plan v0.1).2.1.toNat true))))) (S62l0_0  plan v0 m K)) (nxT (LP62_0 plan) m K (s62_0 plan (wrap64 (v0.1-Z1),v0.2)))) (nxT (LP62_0 plan) m K (s62_0 plan (wrap64 (v0.1-Z1),v0.2)))) (K (.exit 0) (⟨[(3,.own 8 none)],[(8,.arr .sh Ty.bool v0.2)]⟩:St))):=by kernel_rfl
theorem con62_ok:bf P 62 c62:=br C62 func62 kN fun args hp K h0=>by
 obtain⟨plan,rfl,rfl,h_plan,p0,hK⟩:=g1e h0
 have h:ok (F.tr plan) (fun r=>K (.own 0 none) [(0,.arr .sh Ty.bool r)]):=az (F.Au plan h_plan p0) (hK _ rfl)
 refine⟨rfl,ann62,(L62 plan),.raw,(bL (i0:=0) (by kernel_rfl) ?_),?_⟩
 ·rintro _ _ K ⟨hc0,v0,rfl,hv0,h⟩
  exact cast (lvc62_0 _ _ _ _).symm (cS h (fun m1 hm0 h=>(oC h (fun _ h=>(oG h fun g1 h=>(oG h fun _ h=>⟨g1,(oG h fun _ h=>(oC h (fun _ h=>(oC h (fun _ h=>(oG h fun _ h=>(oG h fun _ h=>(oC h (fun _ h=>(oC h (fun _ h=>(oG h fun _ h=>(oG h fun _ h=>(have h:=cL h _ rfl;(aX (fun _ hm=>⟨hc0,hm⟩) hm0 _ rfl trivial h))))) fun _ h=>(aX (fun _ hm=>⟨hc0,hm⟩) hm0 _ rfl trivial h))) fun _ h=>(oG h fun _ h=>(oG h fun _ h=>(have h:=cL h _ rfl;(aX (fun _ hm=>⟨hc0,hm⟩) hm0 _ rfl trivial h)))))))) fun _ h=>(aX (fun _ hm=>⟨hc0,hm⟩) hm0 _ rfl trivial h))) fun _ h=>(aX (fun _ hm=>⟨hc0,hm⟩) hm0 _ rfl trivial h)))⟩))) fun _ h=>((cB h :) trivial))))
 ·rw[vc62]
  exact⟨rfl,⟨(Int.natCast_nonneg _),⟨(yd h_plan rfl),(oG h fun _ h=>(oG h fun _ h=>(have h:=cL h _ rfl;(cj (fun m hm=>⟨trivial,hm⟩) _ rfl trivial (gA h (fun e0 h hv0=>h))))))⟩⟩⟩
abbrev C107:Ctx:=cx [] 8 [] 800000 true
def T107:Inl:=uo C107 (fun _=>[]) (dP f107) f107.results.toList
theorem inlOk107:vj P 107 T107:=AI C107 func107 kN
abbrev C93:Ctx:=cx [] 9 [] 400000 true
def T93:Inl:=uo C93 (fun _=>[]) (dP f93) f93.results.toList
theorem inlOk93:vj P 93 T93:=AI C93 func93 kN
def c45:Con:=⟨[.dat TPS],fun args hp K=>g1 (pD TPS) (fun xs=>(Sm TPS xs)/\(LD xs fun r=>K (.clp 0 (r.length:Int)) [(0,.arr .sh aE r)])) args hp,.bor,false⟩
abbrev C45:Ctx:=cx [] 9 [(93,T93)] 0 true
def ann45:=an [[kp 1],[kp 33],[.clip 2,kp 4],[kp 4]] []
theorem vc45 (xs:LPt) (K:KA):vcT C45 aB ann45 f45 [.data TPS xs] [] .raw K =
 (cond (decide ((xs.length:Int)=Z0)) (K (.clp 0 (([]:List aE.D).length:Int)) [(0,.arr .sh aE ([]:List aE.D))]) ((xs.length * 48<=lim)/\(0<=Z0)/\(Z0<=(xs.length:Int))/\((xs.length:Int)<=(xs.length:Int))/\((xs.length:Int)=(xs.length:Int))/\(Z0=0)/\K (.clp 0 ((xs.take (xs.length:Int).toNat).length:Int)) [(0,.arr .sh aE (xs.take (xs.length:Int).toNat))])):=by kernel_rfl
theorem con45_ok:bf P 45 c45:=br C45 func45 (kI inlOk93 kN) fun args hp K h0=>by
 obtain⟨xs,rfl,rfl,h_xs,hK⟩:=g1e h0
 have h:ok (F.xd xs) (fun r=>K (.clp 0 (r.length:Int)) [(0,.arr .sh aE r)]):=az (F.zR xs h_xs) (hK _ rfl)
 refine⟨rfl,ann45,aB,.raw,(aH (by kernel_rfl)),?_⟩
 ·rw[vc45]
  exact(oC h (fun _ h=>h) fun _ h=>⟨(zP h_xs rfl),⟨(Int.natCast_nonneg 0),⟨(Int.natCast_nonneg _),⟨(Int.le_refl _),⟨rfl,⟨rfl,h⟩⟩⟩⟩⟩⟩)
abbrev C116:Ctx:=cx [] 9 [] 400000 true
def T116:Inl:=uo C116 (fun _=>[]) (dP f116) f116.results.toList
theorem inlOk116:vj P 116 T116:=AI C116 func116 kN
def c64:Con:=⟨[.dat (Ty.sl aC)],fun args hp K=>g1 (pD (Ty.sl aC)) (fun xs=>(Sm (Ty.sl aC) xs)/\(LD xs fun r=>K (.clp 0 (r.length:Int)) [(0,.arr .sh aC r)])) args hp,.bor,false⟩
abbrev C64:Ctx:=cx [] 9 [(116,T116)] 0 true
def ann64:=an [[kp 1],[kp 33],[.clip 2,kp 4],[kp 4]] []
theorem vc64 (xs:LI) (K:KA):vcT C64 aB ann64 f64 [.data (Ty.sl aC) xs] [] .raw K =
 (cond (decide ((xs.length:Int)=Z0)) (K (.clp 0 (([]:List aC.D).length:Int)) [(0,.arr .sh aC ([]:List aC.D))]) ((xs.length * 8<=lim)/\(0<=Z0)/\(Z0<=(xs.length:Int))/\((xs.length:Int)<=(xs.length:Int))/\((xs.length:Int)=(xs.length:Int))/\(Z0=0)/\K (.clp 0 ((xs.take (xs.length:Int).toNat).length:Int)) [(0,.arr .sh aC (xs.take (xs.length:Int).toNat))])):=by kernel_rfl
theorem con64_ok:bf P 64 c64:=br C64 func64 (kI inlOk116 kN) fun args hp K h0=>by
 obtain⟨xs,rfl,rfl,h_xs,hK⟩:=g1e h0
 have h:ok (F.tV xs) (fun r=>K (.clp 0 (r.length:Int)) [(0,.arr .sh aC r)]):=az (F.xR xs h_xs) (hK _ rfl)
 refine⟨rfl,ann64,aB,.raw,(aH (by kernel_rfl)),?_⟩
 ·rw[vc64]
  exact(oC h (fun _ h=>h) fun _ h=>⟨(zP h_xs rfl),⟨(Int.natCast_nonneg 0),⟨(Int.natCast_nonneg _),⟨(Int.le_refl _),⟨rfl,⟨rfl,h⟩⟩⟩⟩⟩⟩)
abbrev C124:Ctx:=cx [(45,c45),(64,c64)] 12 [] 200000 true
def T124:Inl:=uo C124 (fun _=>[]) (dP f124) f124.results.toList
theorem inlOk124:vj P 124 T124:=AI C124 func124 (kC con45_ok (kC con64_ok kN))
def c125:Con:=⟨[.dat aC],fun args hp K=>g1 (pD aC) (fun kind=>K (dB (M.two kind)) []) args hp,.plain,false⟩
abbrev C125:Ctx:=cx [] 9 [] 0 false
def ann125:=an [[kp 1],[kp 4]] []
theorem vc125 (kind:Int) (K:KA):vcT C125 aB ann125 f125 [dI kind] [] (.dat Ty.bool) K =
 (cond ((decide (kind=Z4))==false) (K (dB (decide (kind=Z5))) []) (K (dB true) [])):=by kernel_rfl
theorem con125_ok:bf P 125 c125:=br C125 func125 kN fun args hp K h0=>by
 obtain⟨kind,rfl,rfl,hK⟩:=g1e h0
 have h:ok (F.ri kind) (fun r=>K (dB r) []):=az (F.yy kind) hK
 refine⟨rfl,ann125,aB,(.dat Ty.bool),(aH (by kernel_rfl)),?_⟩
 ·rw[vc125]
  exact(oC h (fun _ h=>h) fun _ h=>h)
abbrev C78:Ctx:=cx [(125,c125)] 25 [(107,T107),(124,T124)] 600000 true
def T78:Inl:=uo C78 (fun _=>[]) (dP f78) f78.results.toList
theorem inlOk78:vj P 78 T78:=AI C78 func78 (kC con125_ok (kI inlOk107 (kI inlOk124 kN)))
abbrev C108:Ctx:=cx [] 9 [] 500000 true
def T108:Inl:=uo C108 (fun _=>[]) (dP f108) f108.results.toList
theorem inlOk108:vj P 108 T108:=AI C108 func108 kN
def c56:Con:=⟨[.dat TSS],fun args hp K=>g1 (pD TSS) (fun plan=>(Sm TSS plan)/\(M.iW plan)/\(LD (M.tidy plan) fun r=>K (.own 0 none) [(0,.arr .dp ah r)])) args hp,.bor,false⟩
abbrev C56:Ctx:=cx [(62,c62)] 36 [(78,T78),(107,T107),(108,T108)] 0 true
def ann56:=an [[kp 1],[.fixBox 3,kp 9],[kp 25],[kp 14361],[kp 30745],[kp 14457],[kp 276537],[kp 14393],[kp 14361],[kp 14361],[kp 4]] [[kp 16]]
abbrev s56_0 (plan:LS) (c0_0:Int) (c0_1:(List Bool)) (i0:Int) (v0:LS×LI):St:=⟨[(0,.data TSS plan),(3,.ptr 3 0),(4,.own 4 none),(11,.own 11 none),(12,dI c0_0),(13,dI i0)],[(3,.box [.own 9 none]),(4,.arr .dp ah v0.1),(11,.arr .sh Ty.bool c0_1),(9,.arr .sh aC v0.2)]⟩
abbrev LP56_0 (plan:LS) (m:Nat) (st_:St) (K:KX):Prop:=∃c0_0:Int,∃c0_1:(List Bool),(c0_0<=ew/\True)/\cm (s56_0 plan c0_0 c0_1) Z0 c0_0 (F.jD plan c0_0 c0_1) (fun v0:LS×LI=>True) (bg (fun v0:LS×LI=>True->K (.exit 0) (⟨[(4,.own 4 none)],[(4,.arr .dp ah v0.1)]⟩:St)) (fun _=>False)) m st_
def L56 (plan:LS):bH:=lp1 0 (LP56_0 plan)
theorem vc56 (plan:LS) (K:KA):vcT C56 (L56 plan) ann56 f56 [.data TSS plan] [] .raw K =
 (((plan.length:Int)=(plan.length:Int))/\(0<=(plan.length:Int))/\((plan.length:Int) * 8<=(lim:Int))/\(Sm TSS plan)/\(M.iW plan)/\(LD (M.cn plan) fun r1=>(∃m_,∃c0_0:Int,∃c0_1:(List Bool),(c0_0<=ew/\True)/\cm (s56_0 plan c0_0 c0_1) Z0 c0_0 (F.jD plan c0_0 c0_1) (fun v0:LS×LI=>True) (bg (fun v0:LS×LI=>True->(0<=Z0)/\(Z0<=(v0.1.length:Int))/\((v0.1.length:Int)<=(v0.1.length:Int))/\((v0.1.length:Int)=(v0.1.length:Int))/\(Z0=0)/\K (.own 0 none) [(0,.arr .dp ah (v0.1.take (v0.1.length:Int).toNat))]) (fun _=>False)) m_ (s56_0 plan (r1.length:Int) r1 Z0 ([],(List.replicate (plan.length:Int).toNat Z0)))))):=by kernel_rfl
theorem lvc56_0 (plan:LS) (c0_0:Int) (c0_1:(List Bool)) (i0:Int) (v0:LS×LI) (m:Nat) (K:KX):lvT C56 (L56 plan) ann56 f56 0 0 (s56_0 plan c0_0 c0_1 i0 v0) m K =
 (cond (decide (i0<c0_0)) ((0<=i0)/\(i0<(c0_1.length:Int))/\cond (nth (t:=Ty.bool) c0_1 i0) ((0<=i0)/\(i0<(v0.2.length:Int))/\(0<=i0)/\(i0<(plan.length:Int))/\(Sm TPS (nS plan i0).2.2.2.2.1)/\(LD (nS plan i0).2.2.2.2.1 fun r2=>(Sm (Ty.sl aC) (nS plan i0).2.2.2.2.2.1)/\(LD (nS plan i0).2.2.2.2.2.1 fun r3=>cond (!decide ((nS plan i0).1=Z1)) ((0<=(nS plan i0).2.1)/\((nS plan i0).2.1<((v0.2.set i0.toNat (v0.1.length:Int)).length:Int))/\cond (M.two (nS plan i0).1) ((0<=(nS plan i0).2.2.1)/\((nS plan i0).2.2.1<((v0.2.set i0.toNat (v0.1.length:Int)).length:Int))/\((v0.1.length+[((nS plan i0).1,((nI (v0.2.set i0.toNat (v0.1.length:Int)) (nS plan i0).2.1),((nI (v0.2.set i0.toNat (v0.1.length:Int)) (nS plan i0).2.2.1),((nS plan i0).2.2.2.1,((ay r2 (some (Z0,(r2.length:Int)))),((ay r3 (some (Z0,(r3.length:Int)))),()))))))].length) * 80<=lim)/\(nxT (LP56_0 plan) m K (s56_0 plan c0_0 c0_1 (wrap64 (i0+Z1)) ((v0.1++[((nS plan i0).1,((nI (v0.2.set i0.toNat (v0.1.length:Int)) (nS plan i0).2.1),((nI (v0.2.set i0.toNat (v0.1.length:Int)) (nS plan i0).2.2.1),((nS plan i0).2.2.2.1,((ay r2 (some (Z0,(r2.length:Int)))),((ay r3 (some (Z0,(r3.length:Int)))),()))))))]),(v0.2.set i0.toNat (v0.1.length:Int)))))) (((v0.1.length+[((nS plan i0).1,((nI (v0.2.set i0.toNat (v0.1.length:Int)) (nS plan i0).2.1),((nS plan i0).2.2.1,((nS plan i0).2.2.2.1,((ay r2 (some (Z0,(r2.length:Int)))),((ay r3 (some (Z0,(r3.length:Int)))),()))))))].length) * 80<=lim)/\(nxT (LP56_0 plan) m K (s56_0 plan c0_0 c0_1 (wrap64 (i0+Z1)) ((v0.1++[((nS plan i0).1,((nI (v0.2.set i0.toNat (v0.1.length:Int)) (nS plan i0).2.1),((nS plan i0).2.2.1,((nS plan i0).2.2.2.1,((ay r2 (some (Z0,(r2.length:Int)))),((ay r3 (some (Z0,(r3.length:Int)))),()))))))]),(v0.2.set i0.toNat (v0.1.length:Int))))))) (cond (M.two (nS plan i0).1) ((0<=(nS plan i0).2.2.1)/\((nS plan i0).2.2.1<((v0.2.set i0.toNat (v0.1.length:Int)).length:Int))/\((v0.1.length+[((nS plan i0).1,((nS plan i0).2.1,((nI (v0.2.set i0.toNat (v0.1.length:Int)) (nS plan i0).2.2.1),((nS plan i0).2.2.2.1,((ay r2 (some (Z0,(r2.length:Int)))),((ay r3 (some (Z0,(r3.length:Int)))),()))))))].length) * 80<=lim)/\(nxT (LP56_0 plan) m K (s56_0 plan c0_0 c0_1 (wrap64 (i0+Z1)) ((v0.1++[((nS plan i0).1,((nS plan i0).2.1,((nI (v0.2.set i0.toNat (v0.1.length:Int)) (nS plan i0).2.2.1),((nS plan i0).2.2.2.1,((ay r2 (some (Z0,(r2.length:Int)))),((ay r3 (some (Z0,(r3.length:Int)))),()))))))]),(v0.2.set i0.toNat (v0.1.length:Int)))))) (((v0.1.length+[((nS plan i0).1,((nS plan i0).2.1,((nS plan i0).2.2.1,((nS plan i0).2.2.2.1,((ay r2 (some (Z0,(r2.length:Int)))),((ay r3 (some (Z0,(r3.length:Int)))),()))))))].length) * 80<=lim)/\(nxT (LP56_0 plan) m K (s56_0 plan c0_0 c0_1 (wrap64 (i0+Z1)) ((v0.1++[((nS plan i0).1,((nS plan i0).2.1,((nS plan i0).2.2.1,((nS plan i0).2.2.2.1,((ay r2 (some (Z0,(r2.length:Int)))),((ay r3 (some (Z0,(r3.length:Int)))),()))))))]),(v0.2.set i0.toNat (v0.1.length:Int)))))))))) (nxT (LP56_0 plan) m K (s56_0 plan c0_0 c0_1 (wrap64 (i0+Z1)) (v0.1,v0.2)))) (K (.exit 0) (⟨[(4,.own 4 none)],[(4,.arr .dp ah v0.1)]⟩:St))):=by kernel_rfl
theorem con56_ok:bf P 56 c56:=br C56 func56 (kC con62_ok (kI inlOk78 (kI inlOk107 (kI inlOk108 kN)))) fun args hp K h0=>by
 obtain⟨plan,rfl,rfl,h_plan,p0,hK⟩:=g1e h0
 have h:ok (F.vt plan) (fun r=>K (.own 0 none) [(0,.arr .dp ah r)]):=az (F.Cq plan h_plan p0) (hK _ rfl)
 refine⟨rfl,ann56,(L56 plan),.raw,(bL (i0:=0) (by kernel_rfl) ?_),?_⟩
 ·rintro _ _ K ⟨c0_0,c0_1,hc0,i0,v0,rfl,hl0,rfl,hv0,h⟩
  exact cast (lvc56_0 _ _ _ _ _ _ _).symm (bM h (fun ht0 h=>⟨hl0,(oG h fun _ h=>(oC h (fun _ h=>⟨hl0,(oG h fun _ h=>⟨hl0,(oG h fun _ h=>⟨(aQ h_plan i0).2.2.2.2.1,(oL h fun _ _ h=>⟨(aQ h_plan i0).2.2.2.2.2.1,(oL h fun _ _ h=>(oC h (fun _ h=>(oG h fun _ h=>(oG h fun _ h=>(oC h (fun _ h=>(oG h fun _ h=>(oG h fun _ h=>(oG h fun _ h=>(aN (fun _ hm=>⟨c0_0,c0_1,hc0,hm⟩) _ rfl hl0 fS ht0 hc0.1 trivial h))))) fun _ h=>(oG h fun _ h=>(aN (fun _ hm=>⟨c0_0,c0_1,hc0,hm⟩) _ rfl hl0 fS ht0 hc0.1 trivial h)))))) fun _ h=>(oC h (fun _ h=>(oG h fun _ h=>(oG h fun _ h=>(oG h fun _ h=>(aN (fun _ hm=>⟨c0_0,c0_1,hc0,hm⟩) _ rfl hl0 fS ht0 hc0.1 trivial h))))) fun _ h=>(oG h fun _ h=>(aN (fun _ hm=>⟨c0_0,c0_1,hc0,hm⟩) _ rfl hl0 fS ht0 hc0.1 trivial h)))))⟩)⟩)⟩)⟩) fun _ h=>(aN (fun _ hm=>⟨c0_0,c0_1,hc0,hm⟩) _ rfl hl0 fS ht0 hc0.1 trivial h)))⟩) fun h=>(h trivial))
 ·rw[vc56]
  exact⟨rfl,⟨(Int.natCast_nonneg _),⟨(yd h_plan rfl),⟨h_plan,⟨p0,(oL h fun r1 _ h=>(have hi_0:=(aD h).1;have h:=(aD h).2;(bA (fun m hm=>⟨(r1.length:Int),r1,⟨hi_0,trivial⟩,hm⟩) Z0 _ rfl (Int.natCast_nonneg 0) trivial (aT h (fun v0 h hv0=>⟨(Int.natCast_nonneg 0),⟨(Int.natCast_nonneg _),⟨(Int.le_refl _),⟨rfl,⟨rfl,h⟩⟩⟩⟩⟩) (fun _ h=>h.elim)))))⟩⟩⟩⟩⟩
def c17:Con:=⟨[.dat TTb,.dat TSS],fun args hp K=>g2 (pD TTb) (pD TSS) (fun tables plan=>(Sm TTb tables)/\(Sm TSS plan)/\(LD (M.cM tables plan) fun r=>K (.own 0 none) [(0,.arr .dp ah r)])) args hp,.bor,false⟩
abbrev C17:Ctx:=cx [(20,c20),(56,c56)] 11 [] 0 true
def ann17:=an [[kp 3],[kp 258],[kp 16],[kp 16]] []
theorem vc17 (tables:LTb) (plan:LS) (K:KA):vcT C17 aB ann17 f17 [.data TTb tables,.data TSS plan] [] .raw K =
 ((Sm TTb tables)/\(Sm TSS plan)/\cond (!(M.bC tables plan)) (K (.own 0 none) [(0,.arr .dp ah [])]) ((Sm TSS plan)/\(M.iW plan)/\(LD (M.tidy plan) fun r1=>K (.own 0 none) [(0,.arr .dp ah r1)]))):=by kernel_rfl
theorem con17_ok:bf P 17 c17:=br C17 func17 (kC con20_ok (kC con56_ok kN)) fun args hp K h0=>by
 obtain⟨tables,plan,rfl,rfl,h_tables,h_plan,hK⟩:=g2e h0
 have h:ok (F.nF tables plan) (fun r=>K (.own 0 none) [(0,.arr .dp ah r)]):=az (F.vE tables plan h_tables h_plan) (hK _ rfl)
 refine⟨rfl,ann17,aB,.raw,(aH (by kernel_rfl)),?_⟩
 ·rw[vc17]
  exact⟨h_tables,⟨h_plan,(oC h (fun _ h=>h) fun _ h=>⟨h_plan,(oG h fun _ h=>(oL h fun _ _ h=>h))⟩)⟩⟩
def c11:Con:=⟨[.dat TPS,.dat TPS],fun args hp K=>g2 (pD TPS) (pD TPS) (fun a b=>(Sm TPS a)/\(Sm TPS b)/\(a=b)/\K (dB true) []) args hp,.plain,false⟩
abbrev C11:Ctx:=cx [] 26 [] 0 false
def ann11:=an [[kp 3],[kp 1027],[kp 16],[kp 35],[kp 16419],[kp 35],[kp 33554467],[kp 16],[kp 16]] [[kp 0]]
abbrev s11_0 (a:LPt) (b:LPt) (i0:Int) (v0:Unit):St:=⟨[(0,.data TPS a),(1,.data TPS b),(5,dI i0)],[]⟩
abbrev LP11_0 (a:LPt) (b:LPt) (m:Nat) (st_:St) (K:KX):Prop:=True/\cm (s11_0 a b) Z0 (a.length:Int) (F.gJ a b) (fun v0:Unit=>True) (bg (fun v0:Unit=>True->K (.exit 0) (⟨[],[]⟩:St)) (fun q0:Unit=>K .ret (⟨[(4,dB false)],[]⟩:St))) m st_
def L11 (a:LPt) (b:LPt):bH:=lp1 0 (LP11_0 a b)
theorem vc11 (a:LPt) (b:LPt) (K:KA):vcT C11 (L11 a b) ann11 f11 [.data TPS a,.data TPS b] [] (.dat Ty.bool) K =
 (cond (!decide ((a.length:Int)=(b.length:Int))) (K (dB false) []) (∃m_,True/\cm (s11_0 a b) Z0 (a.length:Int) (F.gJ a b) (fun v0:Unit=>True) (bg (fun v0:Unit=>True->K (dB true) []) (fun q0:Unit=>K (dB false) [])) m_ (s11_0 a b Z0 ()))):=by kernel_rfl
theorem lvc11_0 (a:LPt) (b:LPt)  (i0:Int) (v0:Unit) (m:Nat) (K:KX):lvT C11 (L11 a b) ann11 f11 0 0 (s11_0 a b i0 v0) m K =
 (cond (decide (i0<(a.length:Int))) ((0<=i0)/\(i0<(a.length:Int))/\(0<=i0)/\(i0<(b.length:Int))/\cond (!(Ty.beq aE (nP a i0) (nP b i0))) (K .ret (⟨[(4,dB false)],[]⟩:St)) (nxT (LP11_0 a b) m K (s11_0 a b (wrap64 (i0+Z1)) ()))) (K (.exit 0) (⟨[],[]⟩:St))):=by kernel_rfl
theorem con11_ok:bf P 11 c11:=br C11 func11 kN fun args hp K h0=>by
 obtain⟨a,b,rfl,rfl,h_a,h_b,p0,hK⟩:=g2e h0
 have h:ok (F.mC a b) (fun r=>K (dB r) []):=az (F.tW a b h_a h_b p0) hK
 refine⟨rfl,ann11,(L11 a b),(.dat Ty.bool),(bL (i0:=0) (by kernel_rfl) ?_),?_⟩
 ·rintro _ _ K ⟨hc0,i0,v0,rfl,hl0,rfl,hv0,h⟩
  exact cast (lvc11_0 _ _ _ _ _ _).symm (bM h (fun ht0 h=>⟨hl0,⟨ht0,⟨hl0,(oG h fun _ h=>(oC h (fun _ h=>h) fun _ h=>(aN (fun _ hm=>⟨hc0,hm⟩) _ rfl hl0 fS ht0 (bz h_a) trivial h)))⟩⟩⟩) fun h=>(h trivial))
 ·rw[vc11]
  exact(oC h (fun _ h=>h) fun _ h=>(bA (fun m hm=>⟨trivial,hm⟩) Z0 _ rfl (Int.natCast_nonneg 0) trivial (aT h (fun v0 h hv0=>h) (fun q0 h=>h))))
def c23:Con:=⟨[.dat (Ty.sl aC),.dat (Ty.sl aC)],fun args hp K=>g2 (pD (Ty.sl aC)) (pD (Ty.sl aC)) (fun a b=>(Sm (Ty.sl aC) a)/\(Sm (Ty.sl aC) b)/\(a=b)/\K (dB true) []) args hp,.plain,false⟩
abbrev C23:Ctx:=cx [] 26 [] 0 false
def ann23:=an [[kp 3],[kp 1027],[kp 16],[kp 35],[kp 16419],[kp 35],[kp 33554467],[kp 16],[kp 16]] [[kp 0]]
abbrev s23_0 (a:LI) (b:LI) (i0:Int) (v0:Unit):St:=⟨[(0,.data (Ty.sl aC) a),(1,.data (Ty.sl aC) b),(5,dI i0)],[]⟩
abbrev LP23_0 (a:LI) (b:LI) (m:Nat) (st_:St) (K:KX):Prop:=True/\cm (s23_0 a b) Z0 (a.length:Int) (F.hO a b) (fun v0:Unit=>True) (bg (fun v0:Unit=>True->K (.exit 0) (⟨[],[]⟩:St)) (fun q0:Unit=>K .ret (⟨[(4,dB false)],[]⟩:St))) m st_
def L23 (a:LI) (b:LI):bH:=lp1 0 (LP23_0 a b)
theorem vc23 (a:LI) (b:LI) (K:KA):vcT C23 (L23 a b) ann23 f23 [.data (Ty.sl aC) a,.data (Ty.sl aC) b] [] (.dat Ty.bool) K =
 (cond (!decide ((a.length:Int)=(b.length:Int))) (K (dB false) []) (∃m_,True/\cm (s23_0 a b) Z0 (a.length:Int) (F.hO a b) (fun v0:Unit=>True) (bg (fun v0:Unit=>True->K (dB true) []) (fun q0:Unit=>K (dB false) [])) m_ (s23_0 a b Z0 ()))):=by kernel_rfl
theorem lvc23_0 (a:LI) (b:LI)  (i0:Int) (v0:Unit) (m:Nat) (K:KX):lvT C23 (L23 a b) ann23 f23 0 0 (s23_0 a b i0 v0) m K =
 (cond (decide (i0<(a.length:Int))) ((0<=i0)/\(i0<(a.length:Int))/\(0<=i0)/\(i0<(b.length:Int))/\cond (!decide ((nI a i0)=(nI b i0))) (K .ret (⟨[(4,dB false)],[]⟩:St)) (nxT (LP23_0 a b) m K (s23_0 a b (wrap64 (i0+Z1)) ()))) (K (.exit 0) (⟨[],[]⟩:St))):=by kernel_rfl
theorem con23_ok:bf P 23 c23:=br C23 func23 kN fun args hp K h0=>by
 obtain⟨a,b,rfl,rfl,h_a,h_b,p0,hK⟩:=g2e h0
 have h:ok (F.og a b) (fun r=>K (dB r) []):=az (F.vF a b h_a h_b p0) hK
 refine⟨rfl,ann23,(L23 a b),(.dat Ty.bool),(bL (i0:=0) (by kernel_rfl) ?_),?_⟩
 ·rintro _ _ K ⟨hc0,i0,v0,rfl,hl0,rfl,hv0,h⟩
  exact cast (lvc23_0 _ _ _ _ _ _).symm (bM h (fun ht0 h=>⟨hl0,⟨ht0,⟨hl0,(oG h fun _ h=>(oC h (fun _ h=>h) fun _ h=>(aN (fun _ hm=>⟨hc0,hm⟩) _ rfl hl0 fS ht0 (bz h_a) trivial h)))⟩⟩⟩) fun h=>(h trivial))
 ·rw[vc23]
  exact(oC h (fun _ h=>h) fun _ h=>(bA (fun m hm=>⟨trivial,hm⟩) Z0 _ rfl (Int.natCast_nonneg 0) trivial (aT h (fun v0 h hv0=>h) (fun q0 h=>h))))
def c18:Con:=⟨[.dat TSS,.dat TSS],fun args hp K=>g2 (pD TSS) (pD TSS) (fun a b=>(Sm TSS a)/\(Sm TSS b)/\(a=b)/\K (dB true) []) args hp,.plain,false⟩
abbrev C18:Ctx:=cx [(11,c11),(23,c23)] 95 [] 0 false
def ann18:=an [[kp 3],[kp 1027],[kp 16],[kp 35],[kp 16419],[kp 35],[.keep [0,1,5,94]],[kp 16],[kp 16]] [[kp 0]]
abbrev s18_0 (a:LS) (b:LS) (i0:Int) (v0:Unit):St:=⟨[(0,.data TSS a),(1,.data TSS b),(5,dI i0)],[]⟩
abbrev LP18_0 (a:LS) (b:LS) (m:Nat) (st_:St) (K:KX):Prop:=True/\cm (s18_0 a b) Z0 (a.length:Int) (F.gw a b) (fun v0:Unit=>True) (bg (fun v0:Unit=>True->K (.exit 0) (⟨[],[]⟩:St)) (fun q0:Unit=>K .ret (⟨[(4,dB false)],[]⟩:St))) m st_
def L18 (a:LS) (b:LS):bH:=lp1 0 (LP18_0 a b)
theorem vc18 (a:LS) (b:LS) (K:KA):vcT C18 (L18 a b) ann18 f18 [.data TSS a,.data TSS b] [] (.dat Ty.bool) K =
 (cond (!decide ((a.length:Int)=(b.length:Int))) (K (dB false) []) (∃m_,True/\cm (s18_0 a b) Z0 (a.length:Int) (F.gw a b) (fun v0:Unit=>True) (bg (fun v0:Unit=>True->K (dB true) []) (fun q0:Unit=>K (dB false) [])) m_ (s18_0 a b Z0 ()))):=by kernel_rfl
theorem lvc18_0 (a:LS) (b:LS)  (i0:Int) (v0:Unit) (m:Nat) (K:KX):lvT C18 (L18 a b) ann18 f18 0 0 (s18_0 a b i0 v0) m K =
 (cond (decide (i0<(a.length:Int))) ((0<=i0)/\(i0<(a.length:Int))/\(0<=i0)/\(i0<(b.length:Int))/\cond ((!decide ((nS a i0).1=(nS b i0).1))==false) ((0<=i0)/\(i0<(a.length:Int))/\(0<=i0)/\(i0<(b.length:Int))/\cond ((!decide ((nS a i0).2.1=(nS b i0).2.1))==false) ((0<=i0)/\(i0<(a.length:Int))/\(0<=i0)/\(i0<(b.length:Int))/\cond ((!decide ((nS a i0).2.2.1=(nS b i0).2.2.1))==false) ((0<=i0)/\(i0<(a.length:Int))/\(0<=i0)/\(i0<(b.length:Int))/\cond ((!decide ((nS a i0).2.2.2.1=(nS b i0).2.2.2.1))==false) ((0<=i0)/\(i0<(a.length:Int))/\(0<=i0)/\(i0<(b.length:Int))/\(Sm TPS (nS a i0).2.2.2.2.1)/\(Sm TPS (nS b i0).2.2.2.2.1)/\((nS a i0).2.2.2.2.1=(nS b i0).2.2.2.2.1)/\cond ((!true)==false) ((0<=i0)/\(i0<(a.length:Int))/\(0<=i0)/\(i0<(b.length:Int))/\(Sm (Ty.sl aC) (nS a i0).2.2.2.2.2.1)/\(Sm (Ty.sl aC) (nS b i0).2.2.2.2.2.1)/\((nS a i0).2.2.2.2.2.1=(nS b i0).2.2.2.2.2.1)/\cond (!true) (K .ret (⟨[(4,dB false)],[]⟩:St)) (nxT (LP18_0 a b) m K (s18_0 a b (wrap64 (i0+Z1)) ()))) (K .ret (⟨[(4,dB false)],[]⟩:St))) (K .ret (⟨[(4,dB false)],[]⟩:St))) (K .ret (⟨[(4,dB false)],[]⟩:St))) (K .ret (⟨[(4,dB false)],[]⟩:St))) (K .ret (⟨[(4,dB false)],[]⟩:St))) (K (.exit 0) (⟨[],[]⟩:St))):=by kernel_rfl
theorem con18_ok:bf P 18 c18:=br C18 func18 (kC con11_ok (kC con23_ok kN)) fun args hp K h0=>by
 obtain⟨a,b,rfl,rfl,h_a,h_b,p0,hK⟩:=g2e h0
 have h:ok (F.mH a b) (fun r=>K (dB r) []):=az (F.uF a b h_a h_b p0) hK
 refine⟨rfl,ann18,(L18 a b),(.dat Ty.bool),(bL (i0:=0) (by kernel_rfl) ?_),?_⟩
 ·rintro _ _ K ⟨hc0,i0,v0,rfl,hl0,rfl,hv0,h⟩
  exact cast (lvc18_0 _ _ _ _ _ _).symm (bM h (fun ht0 h=>⟨hl0,⟨ht0,⟨hl0,(oG h fun g1 h=>(oC h (fun _ h=>⟨hl0,⟨ht0,⟨hl0,⟨g1,(oC h (fun _ h=>⟨hl0,⟨ht0,⟨hl0,⟨g1,(oC h (fun _ h=>⟨hl0,⟨ht0,⟨hl0,⟨g1,(oC h (fun _ h=>⟨hl0,⟨ht0,⟨hl0,⟨g1,⟨(aQ h_a i0).2.2.2.2.1,⟨(aQ h_b i0).2.2.2.2.1,(oG h fun _ h=>(oC h (fun b_32 h=>⟨hl0,⟨ht0,⟨hl0,⟨g1,⟨(aQ h_a i0).2.2.2.2.2.1,⟨(aQ h_b i0).2.2.2.2.2.1,(oG h fun _ h=>(dZ (unf (bnf (bgt b_32))) (aN (fun _ hm=>⟨hc0,hm⟩) _ rfl hl0 fS ht0 (bz h_a) trivial h)))⟩⟩⟩⟩⟩⟩) fun _ h=>h))⟩⟩⟩⟩⟩⟩) fun _ h=>h)⟩⟩⟩⟩) fun _ h=>h)⟩⟩⟩⟩) fun _ h=>h)⟩⟩⟩⟩) fun _ h=>h))⟩⟩⟩) fun h=>(h trivial))
 ·rw[vc18]
  exact(oC h (fun _ h=>h) fun _ h=>(bA (fun m hm=>⟨trivial,hm⟩) Z0 _ rfl (Int.natCast_nonneg 0) trivial (aT h (fun v0 h hv0=>h) (fun q0 h=>h))))
def c208:Con:=⟨[.dat TVS],fun args hp K=>g1 (pD TVS) (fun row=>(Sm TVS row)/\K (dB (M.oU row)) []) args hp,.plain,false⟩
abbrev C208:Ctx:=cx [(137,c137)] 19 [] 0 false
def ann208:=an [[kp 1],[kp 9],[kp 137],[kp 9],[kp 32777],[kp 4],[kp 4]] [[kp 1]]
abbrev s208_0 (row:LV) (i0:Int) (v0:Unit):St:=⟨[(0,.data TVS row),(3,dI i0)],[]⟩
abbrev LP208_0 (row:LV) (m:Nat) (st_:St) (K:KX):Prop:=True/\bX (t:=af) (s208_0 row) row (F.kj row) (fun v0:Unit=>True) (bg (fun v0:Unit=>True->K (.exit 0) (⟨[(0,.data TVS row)],[]⟩:St)) (fun q0:Unit=>K .ret (⟨[(2,dB false)],[]⟩:St))) m st_
def L208 (row:LV):bH:=lp1 0 (LP208_0 row)
theorem vc208 (row:LV) (K:KA):vcT C208 (L208 row) ann208 f208 [.data TVS row] [] (.dat Ty.bool) K =
 (∃m_,True/\bX (t:=af) (s208_0 row) row (F.kj row) (fun v0:Unit=>True) (bg (fun v0:Unit=>True->K (dB (decide ((row.length:Int)<=Z4))) []) (fun q0:Unit=>K (dB false) [])) m_ (s208_0 row Z0 ())):=by kernel_rfl
theorem lvc208_0 (row:LV)  (i0:Int) (v0:Unit) (m:Nat) (K:KX):lvT C208 (L208 row) ann208 f208 0 0 (s208_0 row i0 v0) m K =
 (cond (decide (i0<(row.length:Int))) ((0<=i0)/\(i0<(row.length:Int))/\(Sm af (nV row i0))/\cond (!(M.aR (nV row i0))) (K .ret (⟨[(2,dB false)],[]⟩:St)) (nxT (LP208_0 row) m K (s208_0 row (wrap64 (i0+Z1)) ()))) (K (.exit 0) (⟨[(0,.data TVS row)],[]⟩:St))):=by kernel_rfl
theorem con208_ok:bf P 208 c208:=br C208 func208 (kC con137_ok kN) fun args hp K h0=>by
 obtain⟨row,rfl,rfl,h_row,hK⟩:=g1e h0
 have h:ok (F.sE row) (fun r=>K (dB r) []):=az (F.AH row h_row) hK
 refine⟨rfl,ann208,(L208 row),(.dat Ty.bool),(bL (i0:=0) (by kernel_rfl) ?_),?_⟩
 ·rintro _ _ K ⟨hc0,i0,v0,rfl,hl0,rfl,hv0,h⟩
  exact cast (lvc208_0 _ _ _ _ _).symm (bB (t:=af) hl0 h (fun ht0 h=>⟨hl0,⟨ht0,⟨(aQ h_row i0),(oC h (fun _ h=>h) fun _ h=>(aZ (t:=af) (fun _ hm=>⟨hc0,hm⟩) _ rfl hl0 ht0 (bz h_row) trivial h))⟩⟩⟩) fun h=>(h trivial))
 ·rw[vc208]
  exact(bn (t:=af) (fun m hm=>⟨trivial,hm⟩) _ rfl trivial (aT h (fun v0 h hv0=>h) (fun q0 h=>h)))
def c186:Con:=⟨[.dat TCS,.dat TVS],fun args hp K=>g2 (pD TCS) (pD TVS) (fun columns row=>(Sm TCS columns)/\(Sm TVS row)/\K (dB (M.cw columns row)) []) args hp,.plain,false⟩
abbrev C186:Ctx:=cx [(94,c94),(208,c208)] 54 [] 0 false
def ann186:=an [[kp 3],[kp 1048579],[kp 16],[kp 35],[kp 16777251],[kp 35],[kp 9007199254741027],[kp 16],[kp 16]] [[kp 0]]
abbrev s186_0 (columns:LC) (row:LV) (i0:Int) (v0:Unit):St:=⟨[(0,.data TCS columns),(1,.data TVS row),(5,dI i0)],[]⟩
abbrev LP186_0 (columns:LC) (row:LV) (m:Nat) (st_:St) (K:KX):Prop:=True/\cm (s186_0 columns row) Z0 (row.length:Int) (F.iU columns row) (fun v0:Unit=>True) (bg (fun v0:Unit=>True->K (.exit 0) (⟨[],[]⟩:St)) (fun q0:Unit=>K .ret (⟨[(4,dB false)],[]⟩:St))) m st_
def L186 (columns:LC) (row:LV):bH:=lp1 0 (LP186_0 columns row)
theorem vc186 (columns:LC) (row:LV) (K:KA):vcT C186 (L186 columns row) ann186 f186 [.data TCS columns,.data TVS row] [] (.dat Ty.bool) K =
 ((Sm TCS columns)/\cond ((!(M.bD columns))==false) ((Sm TVS row)/\cond ((!(M.oU row))==false) (cond (!decide ((row.length:Int)=(columns.length:Int))) (K (dB false) []) (∃m_,True/\cm (s186_0 columns row) Z0 (row.length:Int) (F.iU columns row) (fun v0:Unit=>True) (bg (fun v0:Unit=>True->K (dB true) []) (fun q0:Unit=>K (dB false) [])) m_ (s186_0 columns row Z0 ()))) (K (dB false) [])) (K (dB false) [])):=by kernel_rfl
theorem lvc186_0 (columns:LC) (row:LV)  (i0:Int) (v0:Unit) (m:Nat) (K:KX):lvT C186 (L186 columns row) ann186 f186 0 0 (s186_0 columns row i0 v0) m K =
 (cond (decide (i0<(row.length:Int))) ((0<=i0)/\(i0<(row.length:Int))/\(0<=i0)/\(i0<(columns.length:Int))/\cond ((!decide ((nV row i0).1=(nC columns i0).1))==true) ((0<=i0)/\(i0<(row.length:Int))/\cond ((!decide ((nV row i0).1=Z0))==false) ((0<=i0)/\(i0<(columns.length:Int))/\cond (!(nC columns i0).2.1) (K .ret (⟨[(4,dB false)],[]⟩:St)) (nxT (LP186_0 columns row) m K (s186_0 columns row (wrap64 (i0+Z1)) ()))) (K .ret (⟨[(4,dB false)],[]⟩:St))) (nxT (LP186_0 columns row) m K (s186_0 columns row (wrap64 (i0+Z1)) ()))) (K (.exit 0) (⟨[],[]⟩:St))):=by kernel_rfl
theorem con186_ok:bf P 186 c186:=br C186 func186 (kC con94_ok (kC con208_ok kN)) fun args hp K h0=>by
 obtain⟨columns,row,rfl,rfl,h_columns,h_row,hK⟩:=g2e h0
 have h:ok (F.pW columns row) (fun r=>K (dB r) []):=az (F.xE columns row h_columns h_row) hK
 refine⟨rfl,ann186,(L186 columns row),(.dat Ty.bool),(bL (i0:=0) (by kernel_rfl) ?_),?_⟩
 ·rintro _ _ K ⟨hc0,i0,v0,rfl,hl0,rfl,hv0,h⟩
  exact cast (lvc186_0 _ _ _ _ _ _).symm (bM h (fun ht0 h=>⟨hl0,⟨ht0,⟨hl0,(oG h fun g1 h=>(oC h (fun _ h=>⟨hl0,⟨ht0,(oC h (fun _ h=>⟨hl0,⟨g1,(oC h (fun _ h=>h) fun _ h=>(aN (fun _ hm=>⟨hc0,hm⟩) _ rfl hl0 fS ht0 (bz h_row) trivial h))⟩⟩) fun _ h=>h)⟩⟩) fun _ h=>(aN (fun _ hm=>⟨hc0,hm⟩) _ rfl hl0 fS ht0 (bz h_row) trivial h)))⟩⟩⟩) fun h=>(h trivial))
 ·rw[vc186]
  exact⟨h_columns,(oC h (fun _ h=>⟨h_row,(oC h (fun _ h=>(oC h (fun _ h=>h) fun _ h=>(bA (fun m hm=>⟨trivial,hm⟩) Z0 _ rfl (Int.natCast_nonneg 0) trivial (aT h (fun v0 h hv0=>h) (fun q0 h=>h))))) fun _ h=>h)⟩) fun _ h=>h)⟩
def c152:Con:=⟨[.dat TCS,.dat (Ty.sl TVS)],fun args hp K=>g2 (pD TCS) (pD (Ty.sl TVS)) (fun columns rows=>(Sm TCS columns)/\(Sm (Ty.sl TVS) rows)/\K (dB (M.gN columns rows)) []) args hp,.plain,false⟩
abbrev C152:Ctx:=cx [(94,c94),(186,c186)] 21 [] 0 false
def ann152:=an [[kp 3],[kp 35],[kp 547],[kp 35],[kp 262179],[kp 16],[kp 16]] [[kp 1]]
abbrev s152_0 (columns:LC) (rows:(List LV)) (i0:Int) (v0:Unit):St:=⟨[(0,.data TCS columns),(1,.data (Ty.sl TVS) rows),(5,dI i0)],[]⟩
abbrev LP152_0 (columns:LC) (rows:(List LV)) (m:Nat) (st_:St) (K:KX):Prop:=True/\bX (t:=TVS) (s152_0 columns rows) rows (F.js columns rows) (fun v0:Unit=>True) (bg (fun v0:Unit=>True->K (.exit 0) (⟨[(0,.data TCS columns)],[]⟩:St)) (fun q0:Unit=>K .ret (⟨[(4,dB false)],[]⟩:St))) m st_
def L152 (columns:LC) (rows:(List LV)):bH:=lp1 0 (LP152_0 columns rows)
theorem vc152 (columns:LC) (rows:(List LV)) (K:KA):vcT C152 (L152 columns rows) ann152 f152 [.data TCS columns,.data (Ty.sl TVS) rows] [] (.dat Ty.bool) K =
 (∃m_,True/\bX (t:=TVS) (s152_0 columns rows) rows (F.js columns rows) (fun v0:Unit=>True) (bg (fun v0:Unit=>True->(Sm TCS columns)/\K (dB (M.bD columns)) []) (fun q0:Unit=>K (dB false) [])) m_ (s152_0 columns rows Z0 ())):=by kernel_rfl
theorem lvc152_0 (columns:LC) (rows:(List LV))  (i0:Int) (v0:Unit) (m:Nat) (K:KX):lvT C152 (L152 columns rows) ann152 f152 0 0 (s152_0 columns rows i0 v0) m K =
 (cond (decide (i0<(rows.length:Int))) ((0<=i0)/\(i0<(rows.length:Int))/\(Sm TCS columns)/\(Sm TVS (nth (t:=TVS) rows i0))/\cond (!(M.cw columns (nth (t:=TVS) rows i0))) (K .ret (⟨[(4,dB false)],[]⟩:St)) (nxT (LP152_0 columns rows) m K (s152_0 columns rows (wrap64 (i0+Z1)) ()))) (K (.exit 0) (⟨[(0,.data TCS columns)],[]⟩:St))):=by kernel_rfl
theorem con152_ok:bf P 152 c152:=br C152 func152 (kC con94_ok (kC con186_ok kN)) fun args hp K h0=>by
 obtain⟨columns,rows,rfl,rfl,h_columns,h_rows,hK⟩:=g2e h0
 have h:ok (F.rE columns rows) (fun r=>K (dB r) []):=az (F.zN columns rows h_columns h_rows) hK
 refine⟨rfl,ann152,(L152 columns rows),(.dat Ty.bool),(bL (i0:=0) (by kernel_rfl) ?_),?_⟩
 ·rintro _ _ K ⟨hc0,i0,v0,rfl,hl0,rfl,hv0,h⟩
  exact cast (lvc152_0 _ _ _ _ _ _).symm (bB (t:=TVS) hl0 h (fun ht0 h=>⟨hl0,⟨ht0,⟨h_columns,⟨(aQ h_rows i0),(oC h (fun _ h=>h) fun _ h=>(aZ (t:=TVS) (fun _ hm=>⟨hc0,hm⟩) _ rfl hl0 ht0 (bz h_rows) trivial h))⟩⟩⟩⟩) fun h=>(h trivial))
 ·rw[vc152]
  exact(bn (t:=TVS) (fun m hm=>⟨trivial,hm⟩) _ rfl trivial (aT h (fun v0 h hv0=>⟨h_columns,h⟩) (fun q0 h=>h)))
def c109:Con:=⟨[.dat TTb],fun args hp K=>g1 (pD TTb) (fun tables=>(Sm TTb tables)/\K (dB (M.cO tables)) []) args hp,.plain,false⟩
abbrev C109:Ctx:=cx [(152,c152)] 34 [] 0 false
def ann109:=an [[kp 1],[kp 9],[kp 137],[kp 9],[kp 1073741833],[kp 4],[kp 4]] [[kp 1]]
abbrev s109_0 (tables:LTb) (i0:Int) (v0:Unit):St:=⟨[(0,.data TTb tables),(3,dI i0)],[]⟩
abbrev LP109_0 (tables:LTb) (m:Nat) (st_:St) (K:KX):Prop:=True/\bX (t:=ax) (s109_0 tables) tables (F.ij tables) (fun v0:Unit=>True) (bg (fun v0:Unit=>True->K (.exit 0) (⟨[(0,.data TTb tables)],[]⟩:St)) (fun q0:Unit=>K .ret (⟨[(2,dB false)],[]⟩:St))) m st_
def L109 (tables:LTb):bH:=lp1 0 (LP109_0 tables)
theorem vc109 (tables:LTb) (K:KA):vcT C109 (L109 tables) ann109 f109 [.data TTb tables] [] (.dat Ty.bool) K =
 (∃m_,True/\bX (t:=ax) (s109_0 tables) tables (F.ij tables) (fun v0:Unit=>True) (bg (fun v0:Unit=>True->K (dB (decide ((tables.length:Int)<=Z3))) []) (fun q0:Unit=>K (dB false) [])) m_ (s109_0 tables Z0 ())):=by kernel_rfl
theorem lvc109_0 (tables:LTb)  (i0:Int) (v0:Unit) (m:Nat) (K:KX):lvT C109 (L109 tables) ann109 f109 0 0 (s109_0 tables i0 v0) m K =
 (cond (decide (i0<(tables.length:Int))) ((0<=i0)/\(i0<(tables.length:Int))/\cond ((decide (Z6<((nT tables i0).2.1.length:Int)))==false) ((0<=i0)/\(i0<(tables.length:Int))/\(0<=i0)/\(i0<(tables.length:Int))/\(Sm TCS (nT tables i0).1)/\(Sm (Ty.sl TVS) (nT tables i0).2.1)/\cond (!(M.gN (nT tables i0).1 (nT tables i0).2.1)) (K .ret (⟨[(2,dB false)],[]⟩:St)) (nxT (LP109_0 tables) m K (s109_0 tables (wrap64 (i0+Z1)) ()))) (K .ret (⟨[(2,dB false)],[]⟩:St))) (K (.exit 0) (⟨[(0,.data TTb tables)],[]⟩:St))):=by kernel_rfl
theorem con109_ok:bf P 109 c109:=br C109 func109 (kC con152_ok kN) fun args hp K h0=>by
 obtain⟨tables,rfl,rfl,h_tables,hK⟩:=g1e h0
 have h:ok (F.nE tables) (fun r=>K (dB r) []):=az (F.vL tables h_tables) hK
 refine⟨rfl,ann109,(L109 tables),(.dat Ty.bool),(bL (i0:=0) (by kernel_rfl) ?_),?_⟩
 ·rintro _ _ K ⟨hc0,i0,v0,rfl,hl0,rfl,hv0,h⟩
  exact cast (lvc109_0 _ _ _ _ _).symm (bB (t:=ax) hl0 h (fun ht0 h=>⟨hl0,⟨ht0,(oC h (fun _ h=>⟨hl0,⟨ht0,⟨hl0,⟨ht0,⟨(aQ h_tables i0).1,⟨(aQ h_tables i0).2.1,(oC h (fun _ h=>h) fun _ h=>(aZ (t:=ax) (fun _ hm=>⟨hc0,hm⟩) _ rfl hl0 ht0 (bz h_tables) trivial h))⟩⟩⟩⟩⟩⟩) fun _ h=>h)⟩⟩) fun h=>(h trivial))
 ·rw[vc109]
  exact(bn (t:=ax) (fun m hm=>⟨trivial,hm⟩) _ rfl trivial (aT h (fun v0 h hv0=>h) (fun q0 h=>h)))
def c57:Con:=⟨[.dat TTb,.dat TSS],fun args hp K=>g2 (pD TTb) (pD TSS) (fun tables plan=>(Sm TTb tables)/\(Sm TSS plan)/\K (dB (M.bC tables plan)) []) args hp,.plain,false⟩
abbrev C57:Ctx:=cx [(69,c69),(70,c70),(109,c109)] 23 [] 0 false
def ann57:=an [[kp 3],[kp 67],[kp 16]] []
theorem vc57 (tables:LTb) (plan:LS) (K:KA):vcT C57 aB ann57 f57 [.data TTb tables,.data TSS plan] [] (.dat Ty.bool) K =
 ((Sm TTb tables)/\(Sm TSS plan)/\(LD (M.cY tables plan) fun r1=>cond (r1.2==true) ((Sm TTb tables)/\cond ((M.cO tables)==true) (K (dB (M.inR (plan.length:Int) Z1 Z6)) []) (K (dB false) [])) (K (dB false) []))):=by kernel_rfl
theorem con57_ok:bf P 57 c57:=br C57 func57 (kC con69_ok (kC con70_ok (kC con109_ok kN))) fun args hp K h0=>by
 obtain⟨tables,plan,rfl,rfl,h_tables,h_plan,hK⟩:=g2e h0
 have h:ok (F.rj tables plan) (fun r=>K (dB r) []):=az (F.yx tables plan h_tables h_plan) hK
 refine⟨rfl,ann57,aB,(.dat Ty.bool),(aH (by kernel_rfl)),?_⟩
 ·rw[vc57]
  exact⟨h_tables,⟨h_plan,(oL h fun _ _ h=>(oC h (fun _ h=>⟨h_tables,(oC h (fun _ h=>h) fun _ h=>h)⟩) fun _ h=>h))⟩⟩
def c58:Con:=⟨[.dat TSS],fun args hp K=>g1 (pD TSS) (fun plan=>(Sm TSS plan)/\(LD plan fun r=>K (.own 0 none) [(0,.arr .sh ah r)])) args hp,.plain,false⟩
abbrev C58:Ctx:=cx [] 32 [] 0 false
def ann58:=an [[kp 1],[kp 9],[kp 25],[kp 1049],[kp 25],[kp 57],[kp 57],[kp 57],[kp 25],[kp 4]] [[kp 8]]
abbrev s58_0 (plan:LS) (i0:Int) (v0:LS):St:=⟨[(0,.data TSS plan),(3,.own 6 none),(4,dI i0)],[(6,.arr .sh ah v0)]⟩
abbrev LP58_0 (plan:LS) (m:Nat) (st_:St) (K:KX):Prop:=True/\bX (t:=ah) (s58_0 plan) plan (F.ko plan) (fun v0:LS=>True) (bg (fun v0:LS=>True->K (.exit 0) (⟨[(3,.own 6 none)],[(6,.arr .sh ah v0)]⟩:St)) (fun _=>False)) m st_
def L58 (plan:LS):bH:=lp1 0 (LP58_0 plan)
theorem vc58 (plan:LS) (K:KA):vcT C58 (L58 plan) ann58 f58 [.data TSS plan] [] .raw K =
 (∃m_,True/\bX (t:=ah) (s58_0 plan) plan (F.ko plan) (fun v0:LS=>True) (bg (fun v0:LS=>True->K (.own 0 none) [(0,.arr .sh ah v0)]) (fun _=>False)) m_ (s58_0 plan Z0 [])):=by kernel_rfl
theorem lvc58_0 (plan:LS)  (i0:Int) (v0:LS) (m:Nat) (K:KX):lvT C58 (L58 plan) ann58 f58 0 0 (s58_0 plan i0 v0) m K =
 (cond (decide (i0<(plan.length:Int))) ((0<=i0)/\(i0<(plan.length:Int))/\((([]:List aE.D).length+(nS plan i0).2.2.2.2.1.length) * 48<=lim)/\((([]:List aC.D).length+(nS plan i0).2.2.2.2.2.1.length) * 8<=lim)/\((v0.length+([((nS plan i0).1,((nS plan i0).2.1,((nS plan i0).2.2.1,((nS plan i0).2.2.2.1,(([]++(nS plan i0).2.2.2.2.1),(([]++(nS plan i0).2.2.2.2.2.1),()))))))]:List ah.D).length) * 80<=lim)/\(nxT (LP58_0 plan) m K (s58_0 plan (wrap64 (i0+Z1)) (v0++[((nS plan i0).1,((nS plan i0).2.1,((nS plan i0).2.2.1,((nS plan i0).2.2.2.1,(([]++(nS plan i0).2.2.2.2.1),(([]++(nS plan i0).2.2.2.2.2.1),()))))))])))) (K (.exit 0) (⟨[(3,.own 6 none)],[(6,.arr .sh ah v0)]⟩:St))):=by kernel_rfl
theorem con58_ok:bf P 58 c58:=br C58 func58 kN fun args hp K h0=>by
 obtain⟨plan,rfl,rfl,h_plan,hK⟩:=g1e h0
 have h:ok (F.tv plan) (fun r=>K (.own 0 none) [(0,.arr .sh ah r)]):=az (F.AF plan h_plan) (hK _ rfl)
 refine⟨rfl,ann58,(L58 plan),.raw,(bL (i0:=0) (by kernel_rfl) ?_),?_⟩
 ·rintro _ _ K ⟨hc0,i0,v0,rfl,hl0,rfl,hv0,h⟩
  exact cast (lvc58_0 _ _ _ _ _).symm (bB (t:=ah) hl0 h (fun ht0 h=>⟨hl0,⟨ht0,⟨(qa (jN aE) (aQ h_plan i0).2.2.2.2.1 rfl),⟨(qa (jN aC) (aQ h_plan i0).2.2.2.2.2.1 rfl),(oG h fun _ h=>(aZ (t:=ah) (fun _ hm=>⟨hc0,hm⟩) _ rfl hl0 ht0 (bz h_plan) trivial h))⟩⟩⟩⟩) fun h=>(h trivial))
 ·rw[vc58]
  exact(bn (t:=ah) (fun m hm=>⟨trivial,hm⟩) _ rfl trivial (aT h (fun v0 h hv0=>h) (fun _ h=>h.elim)))
def c19:Con:=⟨[.dat TTb,.dat TSS],fun args hp K=>g2 (pD TTb) (pD TSS) (fun tables plan=>(Sm TTb tables)/\(Sm TSS plan)/\(LD (M.cM tables plan) fun r=>K (.own 0 none) [(0,.arr .sh ah r)])) args hp,.plain,false⟩
abbrev C19:Ctx:=cx [(57,c57),(58,c58)] 122 [] 0 false
def ann19:=an [[kp 3],[kp 65538],[kp 16],[kp 34],[kp 34],[kp 98],[kp 1073741922],[kp 98],[.fixRow 7 ah,kp 226],[kp 35184372089058],[kp 226],[kp 98],[kp 290],[kp 802],[kp 1826],[kp 3874],[kp 302231454903657293680418],[kp 3874],[kp 19342813113834066795302690],[kp 7970],[kp 2475880078570760549798256418],[kp 7970],[kp 40564819207303340847894502580002],[kp 7970],[kp 7970],[kp 3874],[kp 16]] [[kp 34],[],[kp 512]]
abbrev s19_0 (tables:LTb) (plan:LS) (v0:Int×(List Bool)):St:=⟨[(1,.data TSS plan),(5,.own 20 none),(6,dI v0.1)],[(20,.arr .sh Ty.bool v0.2)]⟩
abbrev LP19_0 (tables:LTb) (plan:LS) (m:Nat) (st_:St) (K:KX):Prop:=True/\ep (s19_0 tables plan) (F.hU tables plan) (fun v0:Int×(List Bool)=>True) (fun e0:(List Bool)=>True->K (.exit 0) (⟨[(1,.data TSS plan),(5,.own 20 none)],[(20,.arr .sh Ty.bool e0)]⟩:St)) m st_
abbrev s19_2 (tables:LTb) (plan:LS) (c2_0:(List Bool)) (c2_1:LS) (i2:Int) (v2:LI×LS):St:=⟨[(1,.data TSS plan),(5,.own 20 none),(8,.own 71 none),(9,.own 72 none),(10,.own 74 none),(11,dI i2)],[(20,.arr .sh Ty.bool c2_0),(71,.arr .sh aC v2.1),(72,.arr .sh ah v2.2),(74,.arr .sh ah c2_1)]⟩
abbrev LP19_2 (tables:LTb) (plan:LS) (m:Nat) (st_:St) (K:KX):Prop:=∃c2_0:(List Bool),∃c2_1:LS,True/\cm (s19_2 tables plan c2_0 c2_1) Z0 (plan.length:Int) (F.eF tables plan c2_0 c2_1) (fun v2:LI×LS=>True) (bg (fun v2:LI×LS=>True->K (.exit 2) (⟨[(9,.own 72 none)],[(72,.arr .sh ah v2.2)]⟩:St)) (fun _=>False)) m st_
def L19 (tables:LTb) (plan:LS):bH:=lp2 0 (LP19_0 tables plan) 2 (LP19_2 tables plan)
theorem vc19 (tables:LTb) (plan:LS) (K:KA):vcT C19 (L19 tables plan) ann19 f19 [.data TTb tables,.data TSS plan] [] .raw K =
 ((Sm TTb tables)/\(Sm TSS plan)/\cond (!(M.bC tables plan)) (K (.own 0 none) [(0,.arr .sh ah [])]) (((plan.length:Int)=(plan.length:Int))/\(0<=(plan.length:Int))/\((plan.length:Int) * 1<=(lim:Int))/\(0<=wrap64 ((plan.length:Int)-Z1))/\(wrap64 ((plan.length:Int)-Z1)<((List.replicate (plan.length:Int).toNat false).length:Int))/\(let y1:(List Bool):=((List.replicate (plan.length:Int).toNat false).set (wrap64 ((plan.length:Int)-Z1)).toNat true);(∃m_,True/\ep (s19_0 tables plan) (F.hU tables plan) (fun v0:Int×(List Bool)=>True) (fun e0:(List Bool)=>True->((plan.length:Int)=(plan.length:Int))/\(0<=(plan.length:Int))/\((plan.length:Int) * 8<=(lim:Int))/\(Sm TSS plan)/\(LD plan fun r1=>(∃m_,∃c2_0:(List Bool),∃c2_1:LS,True/\cm (s19_2 tables plan c2_0 c2_1) Z0 (plan.length:Int) (F.eF tables plan c2_0 c2_1) (fun v2:LI×LS=>True) (bg (fun v2:LI×LS=>True->K (.own 0 none) [(0,.arr .sh ah v2.2)]) (fun _=>False)) m_ (s19_2 tables plan e0 r1 Z0 ((List.replicate (plan.length:Int).toNat Z0),[]))))) m_ (s19_0 tables plan (wrap64 ((plan.length:Int)-Z1),y1)))))):=by kernel_rfl
abbrev S19l0_0 (tables:LTb) (plan:LS)  (v0:Int×(List Bool)) (m:Nat) (K:KX):Prop:=(0<=(nS plan v0.1).2.2.1)/\((nS plan v0.1).2.2.1<((v0.2.set (nS plan v0.1).2.1.toNat true).length:Int))/\(let y2:(List Bool):=((v0.2.set (nS plan v0.1).2.1.toNat true).set (nS plan v0.1).2.2.1.toNat true);(nxT (LP19_0 tables plan) m K (s19_0 tables plan (wrap64 (v0.1-Z1),y2))))
theorem lvc19_0 (tables:LTb) (plan:LS)  (v0:Int×(List Bool)) (m:Nat) (K:KX):lvT C19 (L19 tables plan) ann19 f19 0 0 (s19_0 tables plan v0) m K =
 (cond (decide (Z0<=v0.1)) ((0<=v0.1)/\(v0.1<(plan.length:Int))/\(0<=v0.1)/\(v0.1<(v0.2.length:Int))/\cond ((nth (t:=Ty.bool) v0.2 v0.1)==true) (cond (!decide ((nS plan v0.1).1=Z1)) ((0<=(nS plan v0.1).2.1)/\((nS plan v0.1).2.1<(v0.2.length:Int))/\(0<=(nS plan v0.1).2.2.1)/\((nS plan v0.1).2.2.1<((v0.2.set (nS plan v0.1).2.1.toNat true).length:Int))/\cond ((nth (t:=Ty.bool) (v0.2.set (nS plan v0.1).2.1.toNat true) (nS plan v0.1).2.2.1)==false) (cond ((decide ((nS plan v0.1).1=Z4))==false) ((0<=(nS plan v0.1).2.2.1)/\((nS plan v0.1).2.2.1<((v0.2.set (nS plan v0.1).2.1.toNat true).length:Int))/\(let y2:(List Bool):=((v0.2.set (nS plan v0.1).2.1.toNat true).set (nS plan v0.1).2.2.1.toNat (decide ((nS plan v0.1).1=Z5)));(nxT (LP19_0 tables plan) m K (s19_0 tables plan (wrap64 (v0.1-Z1),y2))))) (S19l0_0  tables plan v0 m K)) (S19l0_0  tables plan v0 m K)) (nxT (LP19_0 tables plan) m K (s19_0 tables plan (wrap64 (v0.1-Z1),v0.2)))) (nxT (LP19_0 tables plan) m K (s19_0 tables plan (wrap64 (v0.1-Z1),v0.2)))) (K (.exit 0) (⟨[(1,.data TSS plan),(5,.own 20 none)],[(20,.arr .sh Ty.bool v0.2)]⟩:St))):=by kernel_rfl
abbrev S19l2_0 (tables:LTb) (plan:LS) (c2_0:(List Bool)) (c2_1:LS) (i2:Int) (v2:LI×LS) (m:Nat) (K:KX):Prop:=(0<=(nS c2_1 i2).2.2.1)/\((nS c2_1 i2).2.2.1<(v2.1.length:Int))/\(0<=i2)/\(i2<(v2.1.length:Int))/\((v2.2.length+[((nS c2_1 i2).1,((nI v2.1 (nS c2_1 i2).2.1),((nI v2.1 (nS c2_1 i2).2.2.1),(nS c2_1 i2).2.2.2)))].length) * 80<=lim)/\(nxT (LP19_2 tables plan) m K (s19_2 tables plan c2_0 c2_1 (wrap64 (i2+Z1)) ((v2.1.set i2.toNat (v2.2.length:Int)),(v2.2++[((nS c2_1 i2).1,((nI v2.1 (nS c2_1 i2).2.1),((nI v2.1 (nS c2_1 i2).2.2.1),(nS c2_1 i2).2.2.2)))]))))
abbrev S19l2_1 (tables:LTb) (plan:LS) (c2_0:(List Bool)) (c2_1:LS) (i2:Int) (v2:LI×LS) (m:Nat) (K:KX):Prop:=(0<=(nS c2_1 i2).2.2.1)/\((nS c2_1 i2).2.2.1<(v2.1.length:Int))/\(0<=i2)/\(i2<(v2.1.length:Int))/\((v2.2.length+[((nS c2_1 i2).1,((nS c2_1 i2).2.1,((nI v2.1 (nS c2_1 i2).2.2.1),(nS c2_1 i2).2.2.2)))].length) * 80<=lim)/\(nxT (LP19_2 tables plan) m K (s19_2 tables plan c2_0 c2_1 (wrap64 (i2+Z1)) ((v2.1.set i2.toNat (v2.2.length:Int)),(v2.2++[((nS c2_1 i2).1,((nS c2_1 i2).2.1,((nI v2.1 (nS c2_1 i2).2.2.1),(nS c2_1 i2).2.2.2)))]))))
theorem lvc19_1 (tables:LTb) (plan:LS) (c2_0:(List Bool)) (c2_1:LS) (i2:Int) (v2:LI×LS) (m:Nat) (K:KX):lvT C19 (L19 tables plan) ann19 f19 1 2 (s19_2 tables plan c2_0 c2_1 i2 v2) m K =
 (cond (decide (i2<(plan.length:Int))) ((0<=i2)/\(i2<(c2_0.length:Int))/\cond (nth (t:=Ty.bool) c2_0 i2) ((0<=i2)/\(i2<(c2_1.length:Int))/\cond (!decide ((nS c2_1 i2).1=Z1)) ((0<=(nS c2_1 i2).2.1)/\((nS c2_1 i2).2.1<(v2.1.length:Int))/\cond ((decide ((nS c2_1 i2).1=Z4))==false) (cond (decide ((nS c2_1 i2).1=Z5)) (S19l2_0  tables plan c2_0 c2_1 i2 v2 m K) ((0<=i2)/\(i2<(v2.1.length:Int))/\((v2.2.length+[((nS c2_1 i2).1,((nI v2.1 (nS c2_1 i2).2.1),(nS c2_1 i2).2.2))].length) * 80<=lim)/\(nxT (LP19_2 tables plan) m K (s19_2 tables plan c2_0 c2_1 (wrap64 (i2+Z1)) ((v2.1.set i2.toNat (v2.2.length:Int)),(v2.2++[((nS c2_1 i2).1,((nI v2.1 (nS c2_1 i2).2.1),(nS c2_1 i2).2.2))])))))) (S19l2_0  tables plan c2_0 c2_1 i2 v2 m K)) (cond ((decide ((nS c2_1 i2).1=Z4))==false) (cond (decide ((nS c2_1 i2).1=Z5)) (S19l2_1  tables plan c2_0 c2_1 i2 v2 m K) ((0<=i2)/\(i2<(v2.1.length:Int))/\((v2.2.length+[(nS c2_1 i2)].length) * 80<=lim)/\(nxT (LP19_2 tables plan) m K (s19_2 tables plan c2_0 c2_1 (wrap64 (i2+Z1)) ((v2.1.set i2.toNat (v2.2.length:Int)),(v2.2++[(nS c2_1 i2)])))))) (S19l2_1  tables plan c2_0 c2_1 i2 v2 m K))) (nxT (LP19_2 tables plan) m K (s19_2 tables plan c2_0 c2_1 (wrap64 (i2+Z1)) (v2.1,v2.2)))) (K (.exit 2) (⟨[(9,.own 72 none)],[(72,.arr .sh ah v2.2)]⟩:St))):=by kernel_rfl
theorem con19_ok:bf P 19 c19:=br C19 func19 (kC con57_ok (kC con58_ok kN)) fun args hp K h0=>by
 obtain⟨tables,plan,rfl,rfl,h_tables,h_plan,hK⟩:=g2e h0
 have h:ok (F.nH tables plan) (fun r=>K (.own 0 none) [(0,.arr .sh ah r)]):=az (F.wu tables plan h_tables h_plan) (hK _ rfl)
 refine⟨rfl,ann19,(L19 tables plan),.raw,(lS (i0:=0) (i1:=2) (by kernel_rfl) ?_ ?_),?_⟩
 ·rintro _ _ K ⟨hc0,v0,rfl,hv0,h⟩
  exact cast (lvc19_0 _ _ _ _ _).symm (cS h (fun m1 hm0 h=>(oC h (fun _ h=>(oG h fun g1 h=>(oG h fun _ h=>⟨g1,(oG h fun _ h=>(oC h (fun _ h=>(oC h (fun _ h=>(oG h fun _ h=>(oG h fun _ h=>(oG h fun g2 h=>(oG h fun g3 h=>(oC h (fun _ h=>(oC h (fun _ h=>⟨g2,⟨g3,(have h:=cL h _ rfl;(aX (fun _ hm=>⟨hc0,hm⟩) hm0 _ rfl trivial h))⟩⟩) fun _ h=>⟨g2,⟨g3,(have h:=cL h _ rfl;(aX (fun _ hm=>⟨hc0,hm⟩) hm0 _ rfl trivial h))⟩⟩)) fun _ h=>⟨g2,⟨g3,(have h:=cL h _ rfl;(aX (fun _ hm=>⟨hc0,hm⟩) hm0 _ rfl trivial h))⟩⟩)))))) fun _ h=>(aX (fun _ hm=>⟨hc0,hm⟩) hm0 _ rfl trivial h))) fun _ h=>(aX (fun _ hm=>⟨hc0,hm⟩) hm0 _ rfl trivial h)))⟩))) fun _ h=>((cB h :) trivial))))
 ·rintro _ _ K ⟨c2_0,c2_1,hc2,i2,v2,rfl,hl2,rfl,hv2,h⟩
  exact cast (lvc19_1 _ _ _ _ _ _ _ _).symm (bM h (fun ht2 h=>⟨hl2,(oG h fun _ h=>(oC h (fun _ h=>⟨hl2,(oG h fun _ h=>(oC h (fun _ h=>(oG h fun _ h=>(oG h fun _ h=>(oC h (fun _ h=>(oC h (fun _ h=>(oG h fun _ h=>(oG h fun _ h=>⟨hl2,(oG h fun _ h=>(oG h fun _ h=>(aN (fun _ hm=>⟨c2_0,c2_1,hc2,hm⟩) _ rfl hl2 fS ht2 (bz h_plan) trivial h)))⟩))) fun _ h=>⟨hl2,(oG h fun _ h=>(oG h fun _ h=>(aN (fun _ hm=>⟨c2_0,c2_1,hc2,hm⟩) _ rfl hl2 fS ht2 (bz h_plan) trivial h)))⟩)) fun _ h=>(oG h fun _ h=>(oG h fun _ h=>⟨hl2,(oG h fun _ h=>(oG h fun _ h=>(aN (fun _ hm=>⟨c2_0,c2_1,hc2,hm⟩) _ rfl hl2 fS ht2 (bz h_plan) trivial h)))⟩)))))) fun b_50 h=>(bE (ugt (cH (bnf b_50) (by decide))) (dZ (cH (bnf b_50) (by decide)) ⟨hl2,(oG h fun _ h=>(oG h fun _ h=>(aN (fun _ hm=>⟨c2_0,c2_1,hc2,hm⟩) _ rfl hl2 fS ht2 (bz h_plan) trivial h)))⟩))))⟩) fun _ h=>(aN (fun _ hm=>⟨c2_0,c2_1,hc2,hm⟩) _ rfl hl2 fS ht2 (bz h_plan) trivial h)))⟩) fun h=>(h trivial))
 ·rw[vc19]
  exact⟨h_tables,⟨h_plan,(oC h (fun _ h=>h) fun _ h=>⟨rfl,⟨(Int.natCast_nonneg _),⟨(yd h_plan rfl),(oG h fun _ h=>(oG h fun _ h=>(have h:=cL h _ rfl;(cj (fun m hm=>⟨trivial,hm⟩) _ rfl trivial (gA h (fun e0 h hv0=>⟨rfl,⟨(Int.natCast_nonneg _),⟨(yd h_plan rfl),⟨h_plan,(oL h fun r1 _ h=>(bA (fun m hm=>⟨e0,r1,trivial,hm⟩) Z0 _ rfl (Int.natCast_nonneg 0) trivial (aT h (fun v2 h hv2=>h) (fun _ h=>h.elim))))⟩⟩⟩⟩))))))⟩⟩⟩)⟩⟩
def c60:Con:=⟨[.dat TVS,.dat TVS],fun args hp K=>g2 (pD TVS) (pD TVS) (fun a b=>(Sm TVS a)/\(Sm TVS b)/\(a=b)/\K (dB true) []) args hp,.plain,false⟩
abbrev C60:Ctx:=cx [] 26 [] 0 false
def ann60:=an [[kp 3],[kp 1027],[kp 16],[kp 35],[kp 16419],[kp 35],[kp 33554467],[kp 16],[kp 16]] [[kp 0]]
abbrev s60_0 (a:LV) (b:LV) (i0:Int) (v0:Unit):St:=⟨[(0,.data TVS a),(1,.data TVS b),(5,dI i0)],[]⟩
abbrev LP60_0 (a:LV) (b:LV) (m:Nat) (st_:St) (K:KX):Prop:=True/\cm (s60_0 a b) Z0 (a.length:Int) (F.iP a b) (fun v0:Unit=>True) (bg (fun v0:Unit=>True->K (.exit 0) (⟨[],[]⟩:St)) (fun q0:Unit=>K .ret (⟨[(4,dB false)],[]⟩:St))) m st_
def L60 (a:LV) (b:LV):bH:=lp1 0 (LP60_0 a b)
theorem vc60 (a:LV) (b:LV) (K:KA):vcT C60 (L60 a b) ann60 f60 [.data TVS a,.data TVS b] [] (.dat Ty.bool) K =
 (cond (!decide ((a.length:Int)=(b.length:Int))) (K (dB false) []) (∃m_,True/\cm (s60_0 a b) Z0 (a.length:Int) (F.iP a b) (fun v0:Unit=>True) (bg (fun v0:Unit=>True->K (dB true) []) (fun q0:Unit=>K (dB false) [])) m_ (s60_0 a b Z0 ()))):=by kernel_rfl
theorem lvc60_0 (a:LV) (b:LV)  (i0:Int) (v0:Unit) (m:Nat) (K:KX):lvT C60 (L60 a b) ann60 f60 0 0 (s60_0 a b i0 v0) m K =
 (cond (decide (i0<(a.length:Int))) ((0<=i0)/\(i0<(a.length:Int))/\(0<=i0)/\(i0<(b.length:Int))/\cond (!(Ty.beq af (nV a i0) (nV b i0))) (K .ret (⟨[(4,dB false)],[]⟩:St)) (nxT (LP60_0 a b) m K (s60_0 a b (wrap64 (i0+Z1)) ()))) (K (.exit 0) (⟨[],[]⟩:St))):=by kernel_rfl
theorem con60_ok:bf P 60 c60:=br C60 func60 kN fun args hp K h0=>by
 obtain⟨a,b,rfl,rfl,h_a,h_b,p0,hK⟩:=g2e h0
 have h:ok (F.oW a b) (fun r=>K (dB r) []):=az (F.xK a b h_a h_b p0) hK
 refine⟨rfl,ann60,(L60 a b),(.dat Ty.bool),(bL (i0:=0) (by kernel_rfl) ?_),?_⟩
 ·rintro _ _ K ⟨hc0,i0,v0,rfl,hl0,rfl,hv0,h⟩
  exact cast (lvc60_0 _ _ _ _ _ _).symm (bM h (fun ht0 h=>⟨hl0,⟨ht0,⟨hl0,(oG h fun _ h=>(oC h (fun _ h=>h) fun _ h=>(aN (fun _ hm=>⟨hc0,hm⟩) _ rfl hl0 fS ht0 (bz h_a) trivial h)))⟩⟩⟩) fun h=>(h trivial))
 ·rw[vc60]
  exact(oC h (fun _ h=>h) fun _ h=>(bA (fun m hm=>⟨trivial,hm⟩) Z0 _ rfl (Int.natCast_nonneg 0) trivial (aT h (fun v0 h hv0=>h) (fun q0 h=>h))))
def c21:Con:=⟨[.dat (Ty.sl TVS),.dat (Ty.sl TVS)],fun args hp K=>g2 (pD (Ty.sl TVS)) (pD (Ty.sl TVS)) (fun a b=>(Sm (Ty.sl TVS) a)/\(Sm (Ty.sl TVS) b)/\(a=b)/\K (dB true) []) args hp,.plain,false⟩
abbrev C21:Ctx:=cx [(60,c60)] 27 [] 0 false
def ann21:=an [[kp 3],[kp 1027],[kp 16],[kp 35],[kp 16419],[kp 35],[kp 67108899],[kp 16],[kp 16]] [[kp 0]]
abbrev s21_0 (a:(List LV)) (b:(List LV)) (i0:Int) (v0:Unit):St:=⟨[(0,.data (Ty.sl TVS) a),(1,.data (Ty.sl TVS) b),(5,dI i0)],[]⟩
abbrev LP21_0 (a:(List LV)) (b:(List LV)) (m:Nat) (st_:St) (K:KX):Prop:=True/\cm (s21_0 a b) Z0 (a.length:Int) (F.hH a b) (fun v0:Unit=>True) (bg (fun v0:Unit=>True->K (.exit 0) (⟨[],[]⟩:St)) (fun q0:Unit=>K .ret (⟨[(4,dB false)],[]⟩:St))) m st_
def L21 (a:(List LV)) (b:(List LV)):bH:=lp1 0 (LP21_0 a b)
theorem vc21 (a:(List LV)) (b:(List LV)) (K:KA):vcT C21 (L21 a b) ann21 f21 [.data (Ty.sl TVS) a,.data (Ty.sl TVS) b] [] (.dat Ty.bool) K =
 (cond (!decide ((a.length:Int)=(b.length:Int))) (K (dB false) []) (∃m_,True/\cm (s21_0 a b) Z0 (a.length:Int) (F.hH a b) (fun v0:Unit=>True) (bg (fun v0:Unit=>True->K (dB true) []) (fun q0:Unit=>K (dB false) [])) m_ (s21_0 a b Z0 ()))):=by kernel_rfl
theorem lvc21_0 (a:(List LV)) (b:(List LV))  (i0:Int) (v0:Unit) (m:Nat) (K:KX):lvT C21 (L21 a b) ann21 f21 0 0 (s21_0 a b i0 v0) m K =
 (cond (decide (i0<(a.length:Int))) ((0<=i0)/\(i0<(a.length:Int))/\(0<=i0)/\(i0<(b.length:Int))/\(Sm TVS (nth (t:=TVS) a i0))/\(Sm TVS (nth (t:=TVS) b i0))/\((nth (t:=TVS) a i0)=(nth (t:=TVS) b i0))/\cond (!true) (K .ret (⟨[(4,dB false)],[]⟩:St)) (nxT (LP21_0 a b) m K (s21_0 a b (wrap64 (i0+Z1)) ()))) (K (.exit 0) (⟨[],[]⟩:St))):=by kernel_rfl
theorem con21_ok:bf P 21 c21:=br C21 func21 (kC con60_ok kN) fun args hp K h0=>by
 obtain⟨a,b,rfl,rfl,h_a,h_b,p0,hK⟩:=g2e h0
 have h:ok (F.nW a b) (fun r=>K (dB r) []):=az (F.vD a b h_a h_b p0) hK
 refine⟨rfl,ann21,(L21 a b),(.dat Ty.bool),(bL (i0:=0) (by kernel_rfl) ?_),?_⟩
 ·rintro _ _ K ⟨hc0,i0,v0,rfl,hl0,rfl,hv0,h⟩
  exact cast (lvc21_0 _ _ _ _ _ _).symm (bM h (fun ht0 h=>⟨hl0,⟨ht0,⟨hl0,(oG h fun _ h=>⟨(aQ h_a i0),⟨(aQ h_b i0),(oG h fun _ h=>(oC h (fun _ h=>h) fun _ h=>(aN (fun _ hm=>⟨hc0,hm⟩) _ rfl hl0 fS ht0 (bz h_a) trivial h)))⟩⟩)⟩⟩⟩) fun h=>(h trivial))
 ·rw[vc21]
  exact(oC h (fun _ h=>h) fun _ h=>(bA (fun m hm=>⟨trivial,hm⟩) Z0 _ rfl (Int.natCast_nonneg 0) trivial (aT h (fun v0 h hv0=>h) (fun q0 h=>h))))
def c128:Con:=⟨[.dat aC],fun args hp K=>g1 (pD aC) (fun truth=>(LD (M.valueOf truth) fun r=>K (.data af r) [])) args hp,.plain,false⟩
abbrev C128:Ctx:=cx [(67,c67)] 9 [] 0 false
def ann128:=an [[kp 5],[kp 37],[kp 4],[kp 4]] []
theorem vc128 (truth:Int) (K:KA):vcT C128 aB ann128 f128 [dI truth] [] (.dat af) K =
 (cond (!(M.inR truth Z0 Z1)) (K (.data af (Z0,(Z0,((⟨#[]⟩:ByteArray),())))) []) (K (.data af (Z3,(truth,((⟨#[]⟩:ByteArray),())))) [])):=by kernel_rfl
theorem con128_ok:bf P 128 c128:=br C128 func128 (kC con67_ok kN) fun args hp K h0=>by
 obtain⟨truth,rfl,rfl,hK⟩:=g1e h0
 have h:ok (F.oX truth) (fun r=>K (.data af r) []):=az (F.xL truth) (hK _ rfl)
 refine⟨rfl,ann128,aB,(.dat af),(aH (by kernel_rfl)),?_⟩
 ·rw[vc128]
  exact(oC h (fun _ h=>h) fun _ h=>h)
def c136:Con:=⟨[.dat Ty.bool],fun args hp K=>g1 (pD Ty.bool) (fun b=>K (dI (M.bool b)) []) args hp,.plain,false⟩
abbrev C136:Ctx:=cx [] 4 [] 0 false
def ann136:=an [[kp 1],[kp 8],[kp 4],[kp 4]] []
theorem vc136 (b:Bool) (K:KA):vcT C136 aB ann136 f136 [dB b] [] (.dat aC) K =
 (cond b (K (dI Z1) []) (K (dI Z0) [])):=by kernel_rfl
theorem con136_ok:bf P 136 c136:=br C136 func136 kN fun args hp K h0=>by
 obtain⟨b,rfl,rfl,hK⟩:=g1e h0
 have h:ok (F.qf b) (fun r=>K (dI r) []):=az (F.xo b) hK
 refine⟨rfl,ann136,aB,(.dat aC),(aH (by kernel_rfl)),?_⟩
 ·rw[vc136]
  exact(oC h (fun _ h=>h) fun _ h=>h)
def c202:Con:=⟨[.dat (Ty.sl aC)],fun args hp K=>g1 (pD (Ty.sl aC)) (fun vals=>(Sm (Ty.sl aC) vals)/\K (dI (M.orI vals)) []) args hp,.plain,false⟩
abbrev C202:Ctx:=cx [] 18 [] 0 false
def ann202:=an [[kp 1],[kp 9],[kp 456],[kp 968],[kp 488],[kp 16872],[kp 4],[kp 456],[kp 4]] [[kp 8]]
abbrev s202_0 (vals:LI) (i0:Int) (v0:Unit):St:=⟨[(3,dI Z0),(6,.data (Ty.sl aC) vals),(7,dI (vals.length:Int)),(8,dI i0)],[]⟩
abbrev LP202_0 (vals:LI) (m:Nat) (st_:St) (K:KX):Prop:=True/\bX (t:=aC) (s202_0 vals) vals (F.iG vals) (fun v0:Unit=>True) (bg (fun v0:Unit=>True->K (.exit 0) (⟨[(3,dI Z0)],[]⟩:St)) (fun q0:Int=>K .ret (⟨[(2,dI q0)],[]⟩:St))) m st_
def L202 (vals:LI):bH:=lp1 0 (LP202_0 vals)
theorem vc202 (vals:LI) (K:KA):vcT C202 (L202 vals) ann202 f202 [.data (Ty.sl aC) vals] [] (.dat aC) K =
 (∃m_,True/\bX (t:=aC) (s202_0 vals) vals (F.iG vals) (fun v0:Unit=>True) (bg (fun v0:Unit=>True->K (dI Z0) []) (fun q0:Int=>K (dI q0) [])) m_ (s202_0 vals Z0 ())):=by kernel_rfl
theorem lvc202_0 (vals:LI)  (i0:Int) (v0:Unit) (m:Nat) (K:KX):lvT C202 (L202 vals) ann202 f202 0 0 (s202_0 vals i0 v0) m K =
 (cond (decide (i0<(vals.length:Int))) ((0<=i0)/\(i0<(vals.length:Int))/\cond (!decide ((nI vals i0)=Z0)) (K .ret (⟨[(2,dI (nI vals i0))],[]⟩:St)) (nxT (LP202_0 vals) m K (s202_0 vals (wrap64 (i0+Z1)) ()))) (K (.exit 0) (⟨[(3,dI Z0)],[]⟩:St))):=by kernel_rfl
theorem con202_ok:bf P 202 c202:=br C202 func202 kN fun args hp K h0=>by
 obtain⟨vals,rfl,rfl,h_vals,hK⟩:=g1e h0
 have h:ok (F.sY vals) (fun r=>K (dI r) []):=az (F.AB vals h_vals) hK
 refine⟨rfl,ann202,(L202 vals),(.dat aC),(bL (i0:=0) (by kernel_rfl) ?_),?_⟩
 ·rintro _ _ K ⟨hc0,i0,v0,rfl,hl0,rfl,hv0,h⟩
  exact cast (lvc202_0 _ _ _ _ _).symm (bB (t:=aC) hl0 h (fun ht0 h=>⟨hl0,⟨ht0,(oC h (fun _ h=>h) fun _ h=>(aZ (t:=aC) (fun _ hm=>⟨hc0,hm⟩) _ rfl hl0 ht0 (bz h_vals) trivial h))⟩⟩) fun h=>(h trivial))
 ·rw[vc202]
  exact(bn (t:=aC) (fun m hm=>⟨trivial,hm⟩) _ rfl trivial (aT h (fun v0 h hv0=>h) (fun q0 h=>h)))
def c200:Con:=⟨[.dat aC],fun args hp K=>g1 (pD aC) (fun x=>K (dB false) []) args hp,.plain,false⟩
abbrev C200:Ctx:=cx [] 6 [] 0 false
def ann200:=an [[kp 1],[kp 4]] []
theorem vc200 (x:Int) (K:KA):vcT C200 aB ann200 f200 [dI x] [] (.dat Ty.bool) K =
 (K (dB (!decide (x=x))) []):=by kernel_rfl
theorem con200_ok:bf P 200 c200:=br C200 func200 kN fun args hp K h0=>by
 obtain⟨x,rfl,rfl,hK⟩:=g1e h0
 have h:ok (F.ou x) (fun r=>K (dB r) []):=az (F.vU x) hK
 refine⟨rfl,ann200,aB,(.dat Ty.bool),(aH (by kernel_rfl)),?_⟩
 ·rw[vc200]
  exact h
def c203:Con:=⟨[.dat aC,.dat aC],fun args hp K=>g2 (pD aC) (pD aC) (fun x y=>K (dI (M.vT x y)) []) args hp,.plain,false⟩
abbrev C203:Ctx:=cx [(200,c200)] 20 [] 0 false
def ann203:=an [[kp 3],[kp 35],[kp 99],[kp 2115],[kp 4096],[kp 16],[kp 16],[kp 8195],[kp 16],[kp 65539],[kp 16],[kp 524288],[kp 16],[kp 16]] []
theorem vc203 (x:Int) (y:Int) (K:KA):vcT C203 aB ann203 f203 [dI x,dI y] [] (.dat aC) K =
 (cond false (cond false (K (dI Z0) []) (K (dI (-1:Int)) [])) (cond false (K (dI Z1) []) (cond (decide (x<y)) (K (dI (-1:Int)) []) (cond (decide (y<x)) (K (dI Z1) []) (K (dI Z0) []))))):=by kernel_rfl
theorem con203_ok:bf P 203 c203:=br C203 func203 (kC con200_ok kN) fun args hp K h0=>by
 obtain⟨x,y,rfl,rfl,hK⟩:=g2e h0
 have h:ok (F.lE x y) (fun r=>K (dI r) []):=az (F.tA x y) hK
 refine⟨rfl,ann203,aB,(.dat aC),(aH (by kernel_rfl)),?_⟩
 ·rw[vc203]
  exact(oC h (fun b_1 h=>(bE b_1 h)) fun b_1 h=>(dZ b_1 (oC h (fun _ h=>h) fun _ h=>(oC h (fun _ h=>h) fun _ h=>h))))
def c214:Con:=⟨[.dat Ty.str],fun args hp K=>g1 (pD Ty.str) (fun x=>(Sm Ty.str x)/\K (dB false) []) args hp,.plain,false⟩
abbrev C214:Ctx:=cx [] 6 [] 0 false
def ann214:=an [[kp 1],[kp 4]] []
theorem vc214 (x:ByteArray) (K:KA):vcT C214 aB ann214 f214 [.data Ty.str x] [] (.dat Ty.bool) K =
 (K (dB (!decide (x=x))) []):=by kernel_rfl
theorem con214_ok:bf P 214 c214:=br C214 func214 kN fun args hp K h0=>by
 obtain⟨x,rfl,rfl,h_x,hK⟩:=g1e h0
 have h:ok (F.jL x) (fun r=>K (dB r) []):=az (F.sg x h_x) hK
 refine⟨rfl,ann214,aB,(.dat Ty.bool),(aH (by kernel_rfl)),?_⟩
 ·rw[vc214]
  exact h
def c204:Con:=⟨[.dat Ty.str,.dat Ty.str],fun args hp K=>g2 (pD Ty.str) (pD Ty.str) (fun x y=>(Sm Ty.str x)/\(Sm Ty.str y)/\K (dI (M.Dy x y)) []) args hp,.plain,false⟩
abbrev C204:Ctx:=cx [(214,c214)] 20 [] 0 false
def ann204:=an [[kp 3],[kp 35],[kp 99],[kp 2115],[kp 4096],[kp 16],[kp 16],[kp 8195],[kp 16],[kp 65539],[kp 16],[kp 524288],[kp 16],[kp 16]] []
theorem vc204 (x:ByteArray) (y:ByteArray) (K:KA):vcT C204 aB ann204 f204 [.data Ty.str x,.data Ty.str y] [] (.dat aC) K =
 ((Sm Ty.str x)/\(Sm Ty.str y)/\cond false (cond false (K (dI Z0) []) (K (dI (-1:Int)) [])) (cond false (K (dI Z1) []) (cond (Op.bytesLess x.toList y.toList) (K (dI (-1:Int)) []) (cond (!(Op.bytesLess x.toList y.toList||decide (x=y))) (K (dI Z1) []) (K (dI Z0) []))))):=by kernel_rfl
theorem con204_ok:bf P 204 c204:=br C204 func204 (kC con214_ok kN) fun args hp K h0=>by
 obtain⟨x,y,rfl,rfl,h_x,h_y,hK⟩:=g2e h0
 have h:ok (F.iY x y) (fun r=>K (dI r) []):=az (F.qw x y h_x h_y) hK
 refine⟨rfl,ann204,aB,(.dat aC),(aH (by kernel_rfl)),?_⟩
 ·rw[vc204]
  exact⟨h_x,⟨h_y,(oC h (fun b_1 h=>(bE b_1 h)) fun b_1 h=>(dZ b_1 (oC h (fun _ h=>h) fun _ h=>(oC h (fun _ h=>h) fun _ h=>h))))⟩⟩
def c178:Con:=⟨[.dat af,.dat af],fun args hp K=>g2 (pD af) (pD af) (fun v w=>(Sm af v)/\(Sm af w)/\K (dI (M.order v w)) []) args hp,.plain,false⟩
abbrev C178:Ctx:=cx [(202,c202),(203,c203),(204,c204)] 22 [] 0 false
def ann178:=an [[.fixRow 2 af,.fixRow 3 af,kp 12],[kp 16]] []
theorem vc178 (v:af.D) (w:af.D) (K:KA):vcT C178 aB ann178 f178 [.data af v,.data af w] [] (.dat aC) K =
 ((Sm Ty.str v.2.2.1)/\(Sm Ty.str w.2.2.1)/\(Sm (Ty.sl aC) [(M.vT v.1 w.1),(M.vT v.2.1 w.2.1),(M.Dy v.2.2.1 w.2.2.1)])/\K (dI (M.orI [(M.vT v.1 w.1),(M.vT v.2.1 w.2.1),(M.Dy v.2.2.1 w.2.2.1)])) []):=by kernel_rfl
theorem con178_ok:bf P 178 c178:=br C178 func178 (kC con202_ok (kC con203_ok (kC con204_ok kN))) fun args hp K h0=>by
 obtain⟨v,w,rfl,rfl,h_v,h_w,hK⟩:=g2e h0
 have h:ok (F.jX v w) (fun r=>K (dI r) []):=az (F.rX v w h_v h_w) hK
 refine⟨rfl,ann178,aB,(.dat aC),(aH (by kernel_rfl)),?_⟩
 ·rw[vc178]
  exact⟨h_v.2.2.1,⟨h_w.2.2.1,(oG h fun _ h=>h)⟩⟩
def c131:Con:=⟨[.dat aC,.dat af,.dat af],fun args hp K=>g3 (pD aC) (pD af) (pD af) (fun kind a b=>(Sm af a)/\(Sm af b)/\K (dI (M.compare kind a b)) []) args hp,.plain,false⟩
abbrev C131:Ctx:=cx [(67,c67),(99,c99),(136,c136),(178,c178)] 71 [] 0 false
def ann131:=an [[.fixRow 4 af,.fixRow 5 af,kp 49],[kp 305],[kp 64],[kp 4194353],[kp 64],[kp 2147483697],[kp 64],[kp 129],[kp 64]] []
abbrev S131_0 (kind:Int) (a:af.D) (b:af.D) (K:KA):Prop:=cond ((decide (kind=Z4))==true) (K (dI (M.bool (decide ((M.order a b)<=Z0)))) []) (K (dI (M.bool false)) [])
abbrev S131_1 (kind:Int) (a:af.D) (b:af.D) (K:KA):Prop:=cond ((decide (kind=Z3))==true) (cond ((decide ((M.order a b)<Z0))==false) (S131_0 kind a b K) (K (dI (M.bool true)) [])) (S131_0 kind a b K)
abbrev S131_2 (kind:Int) (a:af.D) (b:af.D) (K:KA):Prop:=cond ((decide (kind=Z2))==true) (cond ((!decide ((M.order a b)=Z0))==false) (S131_1 kind a b K) (K (dI (M.bool true)) [])) (S131_1 kind a b K)
theorem vc131 (kind:Int) (a:af.D) (b:af.D) (K:KA):vcT C131 aB ann131 f131 [dI kind,.data af a,.data af b] [] (.dat aC) K =
 (cond ((!(M.inR kind Z1 Z4))==false) ((Sm af a)/\cond ((!(M.aR a))==false) ((Sm af b)/\cond (!(M.aR b)) (K (dI (-1:Int)) []) (cond ((decide (a.1=Z0))==false) (cond (decide (b.1=Z0)) (K (dI Z2) []) (cond (!decide (a.1=b.1)) (K (dI (-1:Int)) []) ((Sm af a)/\(Sm af b)/\cond ((decide (kind=Z1))==true) (cond ((decide ((M.order a b)=Z0))==false) (S131_2 kind a b K) (K (dI (M.bool true)) [])) (S131_2 kind a b K)))) (K (dI Z2) []))) (K (dI (-1:Int)) [])) (K (dI (-1:Int)) [])):=by kernel_rfl
theorem con131_ok:bf P 131 c131:=br C131 func131 (kC con67_ok (kC con99_ok (kC con136_ok (kC con178_ok kN)))) fun args hp K h0=>by
 obtain⟨kind,a,b,rfl,rfl,h_a,h_b,hK⟩:=g3e h0
 have h:ok (F.qd kind a b) (fun r=>K (dI r) []):=az (F.xl kind a b h_a h_b) hK
 refine⟨rfl,ann131,aB,(.dat aC),(aH (by kernel_rfl)),?_⟩
 ·rw[vc131]
  exact(oC h (fun _ h=>⟨h_a,(oC h (fun _ h=>⟨h_b,(oC h (fun _ h=>h) fun _ h=>(oC h (fun _ h=>(oC h (fun _ h=>h) fun _ h=>(oC h (fun _ h=>h) fun _ h=>⟨h_a,⟨h_b,(oC h (fun b_7 h=>(oC h (fun _ h=>(dZ (uef (cH (bet b_7) (by decide))) (dZ (uef (cH (bet b_7) (by decide))) (dZ (uef (cH (bet b_7) (by decide))) h)))) fun _ h=>h)) fun _ h=>(oC h (fun b_19 h=>(oC h (fun _ h=>(dZ (uef (cH (bet b_19) (by decide))) (dZ (uef (cH (bet b_19) (by decide))) h))) fun _ h=>h)) fun _ h=>(oC h (fun b_25 h=>(oC h (fun _ h=>(dZ (uef (cH (bet b_25) (by decide))) h)) fun _ h=>h)) fun _ h=>(oC h (fun _ h=>h) fun _ h=>h))))⟩⟩))) fun _ h=>h))⟩) fun _ h=>h)⟩) fun _ h=>h)
def c205:Con:=⟨[.dat aC],fun args hp K=>g1 (pD aC) (fun n=>K (dB (M.inR n 0 2)) []) args hp,.plain,false⟩
abbrev C205:Ctx:=cx [(67,c67)] 5 [] 0 false
def ann205:=an [[kp 1],[kp 4]] []
theorem vc205 (n:Int) (K:KA):vcT C205 aB ann205 f205 [dI n] [] (.dat Ty.bool) K =
 (K (dB (M.inR n Z0 Z2)) []):=by kernel_rfl
theorem con205_ok:bf P 205 c205:=br C205 func205 (kC con67_ok kN) fun args hp K h0=>by
 obtain⟨n,rfl,rfl,hK⟩:=g1e h0
 have h:ok (F.tU n) (fun r=>K (dB r) []):=az (F.xq n) hK
 refine⟨rfl,ann205,aB,(.dat Ty.bool),(aH (by kernel_rfl)),?_⟩
 ·rw[vc205]
  exact h
def c179:Con:=⟨[.dat aC,.dat aC,.dat aC],fun args hp K=>g3 (pD aC) (pD aC) (pD aC) (fun a b alone=>(0<=alone/\alone<=1)/\K (dI (M.fold a b alone)) []) args hp,.plain,false⟩
abbrev C179:Ctx:=cx [(205,c205)] 35 [] 0 false
def ann179:=an [[kp 7],[kp 135],[kp 64],[kp 65543],[kp 64],[kp 67108868],[kp 64],[kp 64]] []
theorem vc179 (a:Int) (b:Int) (alone:Int) (K:KA):vcT C179 aB ann179 f179 [dI a,dI b,dI alone] [] (.dat aC) K =
 (cond ((!(M.inR a 0 2))==false) (cond (!(M.inR b 0 2)) (K (dI (-1:Int)) []) (cond ((decide (a=alone))==false) (cond (decide (b=alone)) (K (dI alone) []) (cond ((decide (a=Z2))==false) (cond (decide (b=Z2)) (K (dI Z2) []) (K (dI (wrap64 (Z1-alone))) [])) (K (dI Z2) []))) (K (dI alone) []))) (K (dI (-1:Int)) [])):=by kernel_rfl
theorem con179_ok:bf P 179 c179:=br C179 func179 (kC con205_ok kN) fun args hp K h0=>by
 obtain⟨a,b,alone,rfl,rfl,p0,hK⟩:=g3e h0
 have h:ok (F.vH a b alone) (fun r=>K (dI r) []):=az (F.Cb a b alone p0) hK
 refine⟨rfl,ann179,aB,(.dat aC),(aH (by kernel_rfl)),?_⟩
 ·rw[vc179]
  exact(oC h (fun _ h=>(oC h (fun _ h=>h) fun _ h=>(oC h (fun _ h=>(oC h (fun _ h=>h) fun _ h=>(oC h (fun _ h=>(oC h (fun _ h=>h) fun _ h=>h)) fun _ h=>h))) fun _ h=>h))) fun _ h=>h)
def c132:Con:=⟨[.dat aC,.dat aC],fun args hp K=>g2 (pD aC) (pD aC) (fun a b=>K (dI (M.Be a b)) []) args hp,.plain,false⟩
abbrev C132:Ctx:=cx [(179,c179)] 8 [] 0 false
def ann132:=an [[kp 3],[kp 16]] []
theorem vc132 (a:Int) (b:Int) (K:KA):vcT C132 aB ann132 f132 [dI a,dI b] [] (.dat aC) K =
 ((0<=Z0/\Z0<=1)/\K (dI (M.fold a b Z0)) []):=by kernel_rfl
theorem con132_ok:bf P 132 c132:=br C132 func132 (kC con179_ok kN) fun args hp K h0=>by
 obtain⟨a,b,rfl,rfl,hK⟩:=g2e h0
 have h:ok (F.tu a b) (fun r=>K (dI r) []):=az (F.Ap a b) hK
 refine⟨rfl,ann132,aB,(.dat aC),(aH (by kernel_rfl)),?_⟩
 ·rw[vc132]
  exact(oG h fun _ h=>h)
def c133:Con:=⟨[.dat af],fun args hp K=>g1 (pD af) (fun v=>(Sm af v)/\K (dI (M.eM v)) []) args hp,.plain,false⟩
abbrev C133:Ctx:=cx [(99,c99)] 17 [] 0 false
def ann133:=an [[.fixRow 1 af,kp 2],[kp 10],[kp 4],[kp 130],[kp 4],[kp 2050],[kp 4],[kp 4]] []
theorem vc133 (v:af.D) (K:KA):vcT C133 aB ann133 f133 [.data af v] [] (.dat aC) K =
 ((Sm af v)/\cond (!(M.aR v)) (K (dI (-1:Int)) []) (cond (decide (v.1=Z0)) (K (dI Z2) []) (cond (decide (v.1=Z3)) (K (dI v.2.1) []) (K (dI (-1:Int)) [])))):=by kernel_rfl
theorem con133_ok:bf P 133 c133:=br C133 func133 (kC con99_ok kN) fun args hp K h0=>by
 obtain⟨v,rfl,rfl,h_v,hK⟩:=g1e h0
 have h:ok (F.pN v) (fun r=>K (dI r) []):=az (F.xk v h_v) hK
 refine⟨rfl,ann133,aB,(.dat aC),(aH (by kernel_rfl)),?_⟩
 ·rw[vc133]
  exact⟨h_v,(oC h (fun _ h=>h) fun _ h=>(oC h (fun _ h=>h) fun _ h=>(oC h (fun _ h=>h) fun _ h=>h)))⟩
def c134:Con:=⟨[.dat aC,.dat aC],fun args hp K=>g2 (pD aC) (pD aC) (fun a b=>K (dI (M.Gn a b)) []) args hp,.plain,false⟩
abbrev C134:Ctx:=cx [(179,c179)] 8 [] 0 false
def ann134:=an [[kp 3],[kp 16]] []
theorem vc134 (a:Int) (b:Int) (K:KA):vcT C134 aB ann134 f134 [dI a,dI b] [] (.dat aC) K =
 ((0<=Z1/\Z1<=1)/\K (dI (M.fold a b Z1)) []):=by kernel_rfl
theorem con134_ok:bf P 134 c134:=br C134 func134 (kC con179_ok kN) fun args hp K h0=>by
 obtain⟨a,b,rfl,rfl,hK⟩:=g2e h0
 have h:ok (F.vG a b) (fun r=>K (dI r) []):=az (F.BG a b) hK
 refine⟨rfl,ann134,aB,(.dat aC),(aH (by kernel_rfl)),?_⟩
 ·rw[vc134]
  exact(oG h fun _ h=>h)
def c135:Con:=⟨[.dat aC],fun args hp K=>g1 (pD aC) (fun a=>K (dI (M.Bm a)) []) args hp,.plain,false⟩
abbrev C135:Ctx:=cx [] 10 [] 0 false
def ann135:=an [[kp 1],[kp 8],[kp 24],[kp 4],[kp 72],[kp 4],[kp 256],[kp 4],[kp 4]] []
theorem vc135 (a:Int) (K:KA):vcT C135 aB ann135 f135 [dI a] [] (.dat aC) K =
 (cond (decide (a=Z0)) (K (dI Z1) []) (cond (decide (a=Z1)) (K (dI Z0) []) (cond (decide (a=Z2)) (K (dI Z2) []) (K (dI (-1:Int)) [])))):=by kernel_rfl
theorem con135_ok:bf P 135 c135:=br C135 func135 kN fun args hp K h0=>by
 obtain⟨a,rfl,rfl,hK⟩:=g1e h0
 have h:ok (F.sV a) (fun r=>K (dI r) []):=az (F.Ax a) hK
 refine⟨rfl,ann135,aB,(.dat aC),(aH (by kernel_rfl)),?_⟩
 ·rw[vc135]
  exact(oC h (fun _ h=>h) fun _ h=>(oC h (fun _ h=>h) fun _ h=>(oC h (fun _ h=>h) fun _ h=>h)))
def c92:Con:=⟨[.dat aE,.dat TVS,.lent af],fun args hp K=>g3 (pD aE) (pD TVS) (pB af) (fun p row inp=>(Sm aE p)/\(Sm TVS row)/\(Sm TVS inp)/\((inp.length:Int)=M.takes p)/\(M.wY p row.length)/\(1<=p.1/\p.1<=8)/\(LD (M.jd p row inp) fun r=>K (.data af r) [])) args hp,.plain,false⟩
abbrev C92:Ctx:=cx [(99,c99),(128,c128),(131,c131),(132,c132),(133,c133),(134,c134),(135,c135),(136,c136)] 103 [] 0 false
def ann92:=an [[.fixRow 3 aE,kp 78],[kp 590],[kp 1614],[kp 64],[kp 16974],[kp 64],[kp 2097740],[.fixRow 7 af,kp 196],[.keep [6,7,49]],[kp 64],[kp 64],[kp 4503599627371084],[kp 64],[.keep [2,6,9,64]],[kp 64],[.keep [2,6,9,76]],[kp 64],[.keep [2,6,88]],[kp 64],[kp 64]] []
theorem vc92 (p:aE.D) (row:LV) (inp:LV) (K:KA):vcT C92 aB ann92 f92 [.data aE p,.data TVS row,.brw af inp] [] (.dat af) K =
 (cond (decide (p.1=Z1)) (K (.data af p.2.2.1) []) (cond (decide (p.1=Z2)) ((0<=p.2.1)/\(p.2.1<(row.length:Int))/\K (.data af (nV row p.2.1)) []) (cond (decide (p.1=Z3)) ((0<=Z0)/\(Z0<(inp.length:Int))/\(0<=Z1)/\(Z1<(inp.length:Int))/\(0<=Z0)/\(Z0<(inp.length:Int))/\cond ((decide ((nV inp Z0).1=Z0))==false) ((0<=Z1)/\(Z1<(inp.length:Int))/\cond ((decide ((nV inp Z1).1=Z0))==false) ((Sm af (Z1,(wrap64 ((nV inp Z0).2.1+(nV inp Z1).2.1),((⟨#[]⟩:ByteArray),()))))/\cond (!(M.aR (Z1,(wrap64 ((nV inp Z0).2.1+(nV inp Z1).2.1),((⟨#[]⟩:ByteArray),()))))) (K (.data af (Z0,(Z0,((⟨#[]⟩:ByteArray),())))) []) (K (.data af (Z1,(wrap64 ((nV inp Z0).2.1+(nV inp Z1).2.1),((⟨#[]⟩:ByteArray),())))) [])) (K (.data af (Z0,(Z0,((⟨#[]⟩:ByteArray),())))) [])) (K (.data af (Z0,(Z0,((⟨#[]⟩:ByteArray),())))) [])) (cond (decide (p.1=Z4)) ((0<=Z0)/\(Z0<(inp.length:Int))/\(0<=Z1)/\(Z1<(inp.length:Int))/\(Sm af (nV inp Z0))/\(Sm af (nV inp Z1))/\(LD (M.valueOf (M.compare p.2.1 (nV inp Z0) (nV inp Z1))) fun r1=>K (.data af r1) [])) (cond (decide (p.1=Z5)) ((0<=Z0)/\(Z0<(inp.length:Int))/\(0<=Z1)/\(Z1<(inp.length:Int))/\(Sm af (nV inp Z0))/\(Sm af (nV inp Z1))/\(LD (M.valueOf (M.Be (M.eM (nV inp Z0)) (M.eM (nV inp Z1)))) fun r2=>K (.data af r2) [])) (cond (decide (p.1=Z6)) ((0<=Z0)/\(Z0<(inp.length:Int))/\(0<=Z1)/\(Z1<(inp.length:Int))/\(Sm af (nV inp Z0))/\(Sm af (nV inp Z1))/\(LD (M.valueOf (M.Gn (M.eM (nV inp Z0)) (M.eM (nV inp Z1)))) fun r3=>K (.data af r3) [])) (cond (decide (p.1=(7:Int))) ((0<=Z0)/\(Z0<(inp.length:Int))/\(Sm af (nV inp Z0))/\(LD (M.valueOf (M.Bm (M.eM (nV inp Z0)))) fun r4=>K (.data af r4) [])) ((0<=Z0)/\(Z0<(inp.length:Int))/\(LD (M.valueOf (M.bool (decide ((nV inp Z0).1=Z0)))) fun r5=>K (.data af r5) []))))))))):=by kernel_rfl
theorem con92_ok:bf P 92 c92:=br C92 func92 (kC con99_ok (kC con128_ok (kC con131_ok (kC con132_ok (kC con133_ok (kC con134_ok (kC con135_ok (kC con136_ok kN)))))))) fun args hp K h0=>by
 obtain⟨p,row,inp,rfl,rfl,h_p,h_row,h_inp,p0,p1,p2,hK⟩:=g3e h0
 have h:ok (F.lG p row inp) (fun r=>K (.data af r) []):=az (F.sQ p row inp h_p h_row h_inp p0 p1 p2) (hK _ rfl)
 refine⟨rfl,ann92,aB,(.dat af),(aH (by kernel_rfl)),?_⟩
 ·rw[vc92]
  exact(oC h (fun _ h=>h) fun _ h=>(oC h (fun _ h=>(oG h fun _ h=>(oG h fun _ h=>h))) fun _ h=>(oC h (fun _ h=>⟨(Int.natCast_nonneg 0),(oG h fun g1 h=>⟨(Int.natCast_nonneg 1),(oG h fun g2 h=>⟨(Int.natCast_nonneg 0),⟨g1,(oC h (fun _ h=>⟨(Int.natCast_nonneg 1),⟨g2,(oC h (fun _ h=>⟨(show Sm af _ from⟨trivial,(show Sm (Ty.pair aC (Ty.pair Ty.str Ty.unit)) _ from⟨trivial,(show Sm (Ty.pair Ty.str Ty.unit) _ from⟨(Nat.le_of_ble_eq_true rfl),trivial⟩)⟩)⟩),(oC h (fun _ h=>h) fun _ h=>h)⟩) fun _ h=>h)⟩⟩) fun _ h=>h)⟩⟩)⟩)⟩) fun _ h=>(oC h (fun _ h=>⟨(Int.natCast_nonneg 0),(oG h fun _ h=>⟨(Int.natCast_nonneg 1),(oG h fun _ h=>⟨(aQ h_inp Z0),⟨(aQ h_inp Z1),(oL h fun _ _ h=>h)⟩⟩)⟩)⟩) fun _ h=>(oC h (fun _ h=>⟨(Int.natCast_nonneg 0),(oG h fun _ h=>⟨(Int.natCast_nonneg 1),(oG h fun _ h=>⟨(aQ h_inp Z0),⟨(aQ h_inp Z1),(oL h fun _ _ h=>h)⟩⟩)⟩)⟩) fun _ h=>(oC h (fun _ h=>⟨(Int.natCast_nonneg 0),(oG h fun _ h=>⟨(Int.natCast_nonneg 1),(oG h fun _ h=>⟨(aQ h_inp Z0),⟨(aQ h_inp Z1),(oL h fun _ _ h=>h)⟩⟩)⟩)⟩) fun _ h=>(oC h (fun _ h=>⟨(Int.natCast_nonneg 0),(oG h fun _ h=>⟨(aQ h_inp Z0),(oL h fun _ _ h=>h)⟩)⟩) fun _ h=>⟨(Int.natCast_nonneg 0),(oG h fun _ h=>(oL h fun _ _ h=>h))⟩)))))))
def c44:Con:=⟨[.dat TVS,.dat TPS],fun args hp K=>g2 (pD TVS) (pD TPS) (fun row e=>(Sm TVS row)/\(Sm TPS e)/\(M.fZ row.length e)/\(LD (M.lZ row e) fun r=>K (.data af r) [])) args hp,.plain,false⟩
abbrev C44:Ctx:=cx [(50,c50),(92,c92)] 37 [] 0 false
def ann44:=an [[kp 19],[kp 51],[kp 7217],[kp 15409],[.fixRow 7 aE,kp 7345],[kp 7601],[.fixRow 9 af,kp 7985],[kp 7217],[kp 7217],[kp 16]] [[kp 48]]
abbrev s44_0 (row:LV) (e:LPt) (i0:Int) (v0:LV):St:=⟨[(0,.data TVS row),(4,.ptr 4 0),(5,.own 5 none),(10,.data TPS e),(11,dI (e.length:Int)),(12,dI i0)],[(4,.box [dI Z0,dI Z0,.data Ty.str (⟨#[]⟩:ByteArray)]),(5,.arr .sh af v0)]⟩
abbrev LP44_0 (row:LV) (e:LPt) (m:Nat) (st_:St) (K:KX):Prop:=True/\bX (t:=aE) (s44_0 row e) e (F.dX row e) (fun v0:LV=>True) (bg (fun v0:LV=>True->K (.exit 0) (⟨[(4,.ptr 4 0),(5,.own 5 none)],[(4,.box [dI Z0,dI Z0,.data Ty.str (⟨#[]⟩:ByteArray)]),(5,.arr .sh af v0)]⟩:St)) (fun _=>False)) m st_
def L44 (row:LV) (e:LPt):bH:=lp1 0 (LP44_0 row e)
theorem vc44 (row:LV) (e:LPt) (K:KA):vcT C44 (L44 row e) ann44 f44 [.data TVS row,.data TPS e] [] (.dat af) K =
 (∃m_,True/\bX (t:=aE) (s44_0 row e) e (F.dX row e) (fun v0:LV=>True) (bg (fun v0:LV=>True->(0<=Z0)/\(Z0<(v0.length:Int))/\K (.data af (nV v0 Z0)) []) (fun _=>False)) m_ (s44_0 row e Z0 [])):=by kernel_rfl
abbrev S44l0_0 (row:LV) (e:LPt)  (i0:Int) (v0:LV) (m:Nat) (K:KX):Prop:=(Sm aE (nP e i0))/\(Sm TVS row)/\(Sm TVS (ay v0 (some (wrap64 ((v0.length:Int)-(M.takes (nP e i0))),(v0.length:Int)))))/\(((ay v0 (some (wrap64 ((v0.length:Int)-(M.takes (nP e i0))),(v0.length:Int)))).length:Int)=M.takes (nP e i0))/\(M.wY (nP e i0) row.length)/\(1<=(nP e i0).1/\(nP e i0).1<=8)/\(LD (M.jd (nP e i0) row (ay v0 (some (wrap64 ((v0.length:Int)-(M.takes (nP e i0))),(v0.length:Int))))) fun r1=>(0<=Z0)/\(Z0<=wrap64 ((v0.length:Int)-(M.takes (nP e i0))))/\(wrap64 ((v0.length:Int)-(M.takes (nP e i0)))<=(v0.length:Int))/\(wrap64 ((v0.length:Int)-(M.takes (nP e i0)))=wrap64 ((v0.length:Int)-(M.takes (nP e i0))))/\(Z0=0)/\(((wrap64 ((v0.length:Int)-(M.takes (nP e i0)))).toNat+[r1].length) * 32<=lim)/\(nxT (LP44_0 row e) m K (s44_0 row e (wrap64 (i0+Z1)) (v0.take (wrap64 ((v0.length:Int)-(M.takes (nP e i0)))).toNat++[r1]))))
theorem lvc44_0 (row:LV) (e:LPt)  (i0:Int) (v0:LV) (m:Nat) (K:KX):lvT C44 (L44 row e) ann44 f44 0 0 (s44_0 row e i0 v0) m K =
 (cond (decide (i0<(e.length:Int))) ((0<=i0)/\(i0<(e.length:Int))/\(Sm aE (nP e i0))/\(0<=wrap64 ((v0.length:Int)-(M.takes (nP e i0))))/\(wrap64 ((v0.length:Int)-(M.takes (nP e i0)))<=(v0.length:Int))/\((v0.length:Int)<=(v0.length:Int))/\((v0.length:Int)=(v0.length:Int))/\Q0 (S44l0_0  row e i0 v0 m K)) (K (.exit 0) (⟨[(4,.ptr 4 0),(5,.own 5 none)],[(4,.box [dI Z0,dI Z0,.data Ty.str (⟨#[]⟩:ByteArray)]),(5,.arr .sh af v0)]⟩:St))):=by kernel_rfl
theorem con44_ok:bf P 44 c44:=br C44 func44 (kC con50_ok (kC con92_ok kN)) fun args hp K h0=>by
 obtain⟨row,e,rfl,rfl,h_row,h_e,p0,hK⟩:=g2e h0
 have h:ok (F.mJ row e) (fun r=>K (.data af r) []):=az (F.tK row e h_row h_e p0) (hK _ rfl)
 refine⟨rfl,ann44,(L44 row e),(.dat af),(bL (i0:=0) (by kernel_rfl) ?_),?_⟩
 ·rintro _ _ K ⟨hc0,i0,v0,rfl,hl0,rfl,hv0,h⟩
  exact cast (lvc44_0 _ _ _ _ _ _).symm (bB (t:=aE) hl0 h (fun ht0 h=>⟨hl0,⟨ht0,⟨(aQ h_e i0),(oG h fun _ h=>(oG h fun g1 h=>⟨(Int.le_refl _),⟨rfl,(q0 (⟨(aQ h_e i0),⟨h_row,(oG h fun _ h=>(oG h fun _ h=>(oG h fun _ h=>(oG h fun _ h=>(oL h fun _ _ h=>⟨(Int.natCast_nonneg 0),(oG h fun _ h=>⟨g1,⟨rfl,⟨rfl,(oG h fun _ h=>(aZ (t:=aE) (fun _ hm=>⟨hc0,hm⟩) _ rfl hl0 ht0 (bz h_e) trivial h))⟩⟩⟩)⟩)))))⟩⟩))⟩⟩))⟩⟩⟩) fun h=>(h trivial))
 ·rw[vc44]
  exact(bn (t:=aE) (fun m hm=>⟨trivial,hm⟩) _ rfl trivial (aT h (fun v0 h hv0=>⟨(Int.natCast_nonneg 0),(oG h fun _ h=>h)⟩) (fun _ h=>h.elim)))
def c87:Con:=⟨[.dat TVS,.dat TPS],fun args hp K=>g2 (pD TVS) (pD TPS) (fun row e=>(Sm TVS row)/\(Sm TPS e)/\(M.fZ row.length e)/\K (dB (M.holds row e)) []) args hp,.plain,false⟩
abbrev C87:Ctx:=cx [(44,c44),(128,c128)] 10 [] 0 false
def ann87:=an [[kp 3],[kp 16]] []
theorem vc87 (row:LV) (e:LPt) (K:KA):vcT C87 aB ann87 f87 [.data TVS row,.data TPS e] [] (.dat Ty.bool) K =
 ((Sm TVS row)/\(Sm TPS e)/\(M.fZ row.length e)/\(LD (M.lZ row e) fun r1=>(LD (M.valueOf Z1) fun r2=>K (dB (Ty.beq af r1 r2)) []))):=by kernel_rfl
theorem con87_ok:bf P 87 c87:=br C87 func87 (kC con44_ok (kC con128_ok kN)) fun args hp K h0=>by
 obtain⟨row,e,rfl,rfl,h_row,h_e,p0,hK⟩:=g2e h0
 have h:ok (F.rF row e) (fun r=>K (dB r) []):=az (F.tO row e h_row h_e p0) hK
 refine⟨rfl,ann87,aB,(.dat Ty.bool),(aH (by kernel_rfl)),?_⟩
 ·rw[vc87]
  exact⟨h_row,⟨h_e,⟨p0,(oL h fun _ _ h=>(oL h fun _ _ h=>h))⟩⟩⟩
abbrev C194:Ctx:=cx [] 9 [] 400000 true
def T194:Inl:=uo C194 (fun _=>[]) (dP f194) f194.results.toList
theorem inlOk194:vj P 194 T194:=AI C194 func194 kN
def c162:Con:=⟨[.dat TVS],fun args hp K=>g1 (pD TVS) (fun xs=>(Sm TVS xs)/\(LD xs fun r=>K (.clp 0 (r.length:Int)) [(0,.arr .sh af r)])) args hp,.bor,false⟩
abbrev C162:Ctx:=cx [] 9 [(194,T194)] 0 true
def ann162:=an [[kp 1],[kp 33],[.clip 2,kp 4],[kp 4]] []
theorem vc162 (xs:LV) (K:KA):vcT C162 aB ann162 f162 [.data TVS xs] [] .raw K =
 (cond (decide ((xs.length:Int)=Z0)) (K (.clp 0 (([]:List af.D).length:Int)) [(0,.arr .sh af ([]:List af.D))]) ((xs.length * 32<=lim)/\(0<=Z0)/\(Z0<=(xs.length:Int))/\((xs.length:Int)<=(xs.length:Int))/\((xs.length:Int)=(xs.length:Int))/\(Z0=0)/\K (.clp 0 ((xs.take (xs.length:Int).toNat).length:Int)) [(0,.arr .sh af (xs.take (xs.length:Int).toNat))])):=by kernel_rfl
theorem con162_ok:bf P 162 c162:=br C162 func162 (kI inlOk194 kN) fun args hp K h0=>by
 obtain⟨xs,rfl,rfl,h_xs,hK⟩:=g1e h0
 have h:ok (F.uT xs) (fun r=>K (.clp 0 (r.length:Int)) [(0,.arr .sh af r)]):=az (F.xA xs h_xs) (hK _ rfl)
 refine⟨rfl,ann162,aB,.raw,(aH (by kernel_rfl)),?_⟩
 ·rw[vc162]
  exact(oC h (fun _ h=>h) fun _ h=>⟨(zP h_xs rfl),⟨(Int.natCast_nonneg 0),⟨(Int.natCast_nonneg _),⟨(Int.le_refl _),⟨rfl,⟨rfl,h⟩⟩⟩⟩⟩⟩)
def c158:Con:=⟨[.dat TVS,.dat (Ty.sl aC)],fun args hp K=>g2 (pD TVS) (pD (Ty.sl aC)) (fun row list=>(Sm TVS row)/\(Sm (Ty.sl aC) list)/\(M.Bc row list)/\(LD (M.taken row list) fun r=>K (.data TVS r) [])) args hp,.plain,false⟩
abbrev C158:Ctx:=cx [(162,c162)] 24 [] 0 false
def ann158:=an [[kp 3],[kp 35],[kp 1825],[kp 3873],[kp 1953],[kp 1825],[kp 1825],[.freeze 23,kp 16]] [[kp 32]]
abbrev s158_0 (row:LV) (list:LI) (i0:Int) (v0:LV):St:=⟨[(0,.data TVS row),(5,.own 5 none),(8,.data (Ty.sl aC) list),(9,dI (list.length:Int)),(10,dI i0)],[(5,.arr .sh af v0)]⟩
abbrev LP158_0 (row:LV) (list:LI) (m:Nat) (st_:St) (K:KX):Prop:=True/\bX (t:=aC) (s158_0 row list) list (F.kD row list) (fun v0:LV=>True) (bg (fun v0:LV=>True->K (.exit 0) (⟨[(5,.own 5 none)],[(5,.arr .sh af v0)]⟩:St)) (fun _=>False)) m st_
def L158 (row:LV) (list:LI):bH:=lp1 0 (LP158_0 row list)
theorem vc158 (row:LV) (list:LI) (K:KA):vcT C158 (L158 row list) ann158 f158 [.data TVS row,.data (Ty.sl aC) list] [] (.dat TVS) K =
 (∃m_,True/\bX (t:=aC) (s158_0 row list) list (F.kD row list) (fun v0:LV=>True) (bg (fun v0:LV=>True->(Sm TVS v0)/\(LD v0 fun r1=>K (.data TVS (ay r1 (some (Z0,(r1.length:Int))))) [])) (fun _=>False)) m_ (s158_0 row list Z0 [])):=by kernel_rfl
theorem lvc158_0 (row:LV) (list:LI)  (i0:Int) (v0:LV) (m:Nat) (K:KX):lvT C158 (L158 row list) ann158 f158 0 0 (s158_0 row list i0 v0) m K =
 (cond (decide (i0<(list.length:Int))) ((0<=i0)/\(i0<(list.length:Int))/\(0<=(nI list i0))/\((nI list i0)<(row.length:Int))/\((v0.length+[(nV row (nI list i0))].length) * 32<=lim)/\(nxT (LP158_0 row list) m K (s158_0 row list (wrap64 (i0+Z1)) (v0++[(nV row (nI list i0))])))) (K (.exit 0) (⟨[(5,.own 5 none)],[(5,.arr .sh af v0)]⟩:St))):=by kernel_rfl
theorem con158_ok:bf P 158 c158:=br C158 func158 (kC con162_ok kN) fun args hp K h0=>by
 obtain⟨row,list,rfl,rfl,h_row,h_list,p0,hK⟩:=g2e h0
 have h:ok (F.sU row list) (fun r=>K (.data TVS r) []):=az (F.AD row list h_row h_list p0) (hK _ rfl)
 refine⟨rfl,ann158,(L158 row list),(.dat TVS),(bL (i0:=0) (by kernel_rfl) ?_),?_⟩
 ·rintro _ _ K ⟨hc0,i0,v0,rfl,hl0,rfl,hv0,h⟩
  exact cast (lvc158_0 _ _ _ _ _ _).symm (bB (t:=aC) hl0 h (fun ht0 h=>⟨hl0,⟨ht0,(oG h fun _ h=>(oG h fun _ h=>(oG h fun _ h=>(aZ (t:=aC) (fun _ hm=>⟨hc0,hm⟩) _ rfl hl0 ht0 (bz h_list) trivial h))))⟩⟩) fun h=>(h trivial))
 ·rw[vc158]
  exact(bn (t:=aC) (fun m hm=>⟨trivial,hm⟩) _ rfl trivial (aT h (fun v0 h hv0=>(oG h fun _ h=>(oL h fun _ _ h=>h))) (fun _ h=>h.elim)))
end Go.AE
