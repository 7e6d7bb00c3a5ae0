/- Contracts. -/
import Derived.Test.YtgfopdekfopmcaaGreatAeY
import Derived.Test.YtgfopdekfopmcaaGreatAeEq
namespace Go.AE
open Go Go.RowKit Go.Proofs.Tryz
set_option maxRecDepth 100000
set_option maxHeartbeats 2000000
set_option linter.unusedVariables false
abbrev Q0 (p:Prop):Prop:=(p/\p)
theorem q0 {p:Prop} (h:p):Q0 p:=⟨h,h⟩
abbrev Q1 (p:Prop):Prop:=(p/\(p/\(p/\p)))
theorem q1 {p:Prop} (h:p):Q1 p:=⟨h,⟨h,⟨h,h⟩⟩⟩
abbrev Q2 (p:Prop):Prop:=(p/\(p/\p))
theorem q2 {p:Prop} (h:p):Q2 p:=⟨h,⟨h,h⟩⟩
def c30:Con:=⟨[.any,.dat bf],fun args hp K=>hpR (fun b p=>args2 (fun a0 a1=>mA a0 (kR bf a1 fun n=>(Sm TBy b)/\(M.ak b)/\(0<=p)/\(p<=1000000000000000)/\(LD (M.pick b p n) fun r=>K (dI r.1) [(1000000,.box [.data TBy b,dI r.2])]))) args []) hp,.plain,true⟩
abbrev C30:Ctx:=cx [] 99 [] 0 false
def ann30:=an [[kp 3],[kp 3],[kp 16777219],[kp 16],[kp 35],[kp 68719476771],[kp 16],[kp 66],[kp 66],[kp 16]] []
abbrev S30_0 (b:LI) (p:Int) (n:Int) (K:KA):Prop:=K (dI Z0) [(1000000,.box [.data TBy b,dI (wrap64 (p+Z1))])]
abbrev S30_1 (b:LI) (p:Int) (n:Int) (K:KA):Prop:=((64:Int)≠0)/\(n≠0)/\K (dI ((iZ .xor .i64 (wrap64 (wrap64 (wrap64 (wrap64 ((wrap64 (nth (t:=(Ty.int .u8)) b ((wrap64 (wrap64 (p+Z1)-Z1)).tmod (b.length:Int)))) * (131:Int))+wrap64 ((wrap64 (nth (t:=(Ty.int .u8)) b ((wrap64 (wrap64 ((wrap64 (wrap64 (p+Z1)-Z1)) * (7:Int))+Z3)).tmod (b.length:Int)))) * (1117:Int)))+wrap64 ((wrap64 (wrap64 (p+Z1)-Z1)) * (29:Int)))+wrap64 ((wrap64 ((wrap64 (wrap64 (p+Z1)-Z1)).tdiv (b.length:Int))) * (53:Int)))) (wrap64 ((wrap64 (wrap64 (wrap64 (wrap64 ((wrap64 (nth (t:=(Ty.int .u8)) b ((wrap64 (wrap64 (p+Z1)-Z1)).tmod (b.length:Int)))) * (131:Int))+wrap64 ((wrap64 (nth (t:=(Ty.int .u8)) b ((wrap64 (wrap64 ((wrap64 (wrap64 (p+Z1)-Z1)) * (7:Int))+Z3)).tmod (b.length:Int)))) * (1117:Int)))+wrap64 ((wrap64 (wrap64 (p+Z1)-Z1)) * (29:Int)))+wrap64 ((wrap64 ((wrap64 (wrap64 (p+Z1)-Z1)).tdiv (b.length:Int))) * (53:Int)))).tdiv (64:Int)))).tmod n)) [(1000000,.box [.data TBy b,dI (wrap64 (p+Z1))])]
abbrev S30_2 (b:LI) (p:Int) (n:Int) (K:KA):Prop:=(S30_1 b p n K)
theorem vc30 (b:LI) (p:Int) (n:Int) (K:KA):vcT C30 aC ann30 f30 [.ptr 1000000 0,dI n] [(1000000,.box [.data TBy b,dI p])] (.dat bf) K =
 (cond ((decide (n<Z1))==false) (cond (decide ((b.length:Int)=Z0)) (S30_0 b p n K) (cond (decide (wrap64 (wrap64 (p+Z1)-Z1)<(b.length:Int))) ((0<=wrap64 (wrap64 (p+Z1)-Z1))/\(wrap64 (wrap64 (p+Z1)-Z1)<(b.length:Int))/\(n≠0)/\K (dI ((wrap64 (nth (t:=(Ty.int .u8)) b (wrap64 (wrap64 (p+Z1)-Z1)))).tmod n)) [(1000000,.box [.data TBy b,dI (wrap64 (p+Z1))])]) (((b.length:Int)≠0)/\(0<=((wrap64 (wrap64 (p+Z1)-Z1)).tmod (b.length:Int)))/\(((wrap64 (wrap64 (p+Z1)-Z1)).tmod (b.length:Int))<(b.length:Int))/\((b.length:Int)≠0)/\(0<=((wrap64 (wrap64 ((wrap64 (wrap64 (p+Z1)-Z1)) * (7:Int))+Z3)).tmod (b.length:Int)))/\(((wrap64 (wrap64 ((wrap64 (wrap64 (p+Z1)-Z1)) * (7:Int))+Z3)).tmod (b.length:Int))<(b.length:Int))/\((b.length:Int)≠0)/\Q0 (S30_2 b p n K)))) (S30_0 b p n K)):=by kernel_rfl
theorem con30_ok:bL P 30 c30:=bX C30 func30 kN fun args hp K h0=>by
 unfold c30 at h0
 dsimp only at h0
 obtain⟨b,p,rfl,h00⟩:=gK h0
 obtain⟨a0,a1,rfl,_,h1⟩:=bp h00
 obtain⟨rfl,h2⟩:=dZ h1
 obtain⟨n,rfl,h3⟩:=dc h2
 obtain⟨h_b,p0,p1,p2,hK⟩:=h3
 have h:ok (F.jI b p n) (fun r=>K (dI r.1) [(1000000,.box [.data TBy b,dI r.2])]):=aB (F.ud b p n h_b p0 p1 p2) (hK _ rfl)
 refine⟨rfl,ann30,aC,(.dat bf),(aQ (by kernel_rfl)),?_⟩
 ·rw[vc30]
  exact(oC h (fun _ h=>(oC h (fun _ h=>h) fun _ h=>(oC h (fun _ h=>(oG h fun _ h=>(oG h fun _ h=>(oG h fun _ h=>h)))) fun _ h=>(oG h fun g1 h=>(oG h fun _ h=>(oG h fun _ h=>⟨g1,(oG h fun _ h=>(oG h fun _ h=>⟨g1,(q0 (⟨(by decide),(oG h fun _ h=>h)⟩))⟩))⟩)))))) fun _ h=>h)
def c33:Con:=⟨[.any,.dat bf],fun args hp K=>hpR (fun b p=>args2 (fun a0 a1=>mA a0 (kR bf a1 fun n=>(Sm TBy b)/\(M.ak b)/\(0<=p)/\(p<=999000000000000)/\(LD (M.odd b p n) fun r=>K (dB r.1) [(1000000,.box [.data TBy b,dI r.2])]))) args []) hp,.plain,true⟩
abbrev C33:Ctx:=cx [(30,c30)] 15 [] 0 false
def ann33:=an [[kp 3],[kp 16]] []
theorem vc33 (b:LI) (p:Int) (n:Int) (K:KA):vcT C33 aC ann33 f33 [.ptr 1000000 0,dI n] [(1000000,.box [.data TBy b,dI p])] (.dat Ty.bool) K =
 (cond ((decide (Z0<n))==true) ((Sm TBy b)/\(M.ak b)/\(0<=p)/\(p<=1000000000000000)/\(LD (M.pick b p n) fun r1=>K (dB (decide (r1.1=wrap64 (n-Z1)))) [(1000000,.box [.data TBy b,dI r1.2])])) (K (dB false) [(1000000,.box [.data TBy b,dI p])])):=by kernel_rfl
theorem con33_ok:bL P 33 c33:=bX C33 func33 (kC con30_ok kN) fun args hp K h0=>by
 unfold c33 at h0
 dsimp only at h0
 obtain⟨b,p,rfl,h00⟩:=gK h0
 obtain⟨a0,a1,rfl,_,h1⟩:=bp h00
 obtain⟨rfl,h2⟩:=dZ h1
 obtain⟨n,rfl,h3⟩:=dc h2
 obtain⟨h_b,p0,p1,p2,hK⟩:=h3
 have h:ok (F.lJ b p n) (fun r=>K (dB r.1) [(1000000,.box [.data TBy b,dI r.2])]):=aB (F.vf b p n h_b p0 p1 p2) (hK _ rfl)
 refine⟨rfl,ann33,aC,(.dat Ty.bool),(aQ (by kernel_rfl)),?_⟩
 ·rw[vc33]
  exact(oC h (fun _ h=>⟨h_b,⟨p0,⟨p1,(oG h fun _ h=>(oL h fun _ _ h=>h))⟩⟩⟩) fun _ h=>h)
def c31:Con:=⟨[.any,.dat bf],fun args hp K=>hpR (fun b p=>args2 (fun a0 a1=>mA a0 (kR bf a1 fun n=>(Sm TBy b)/\(M.ak b)/\(0<=p)/\(p<=998000000000000)/\(LD (M.dA b p n) fun r=>K (.own 0 none) [(0,.arr .sh ai r.1),(1000000,.box [.data TBy b,dI r.2])]))) args []) hp,.plain,true⟩
abbrev C31:Ctx:=cx [(30,c30),(33,c33)] 40 [] 0 false
def ann31:=an [[kp 3],[kp 35],[kp 99],[kp 4195],[kp 99],[kp 99],[kp 536870945],[kp 32],[kp 16]] [[kp 35]]
abbrev s31_0 (b:LI) (p:Int) (n:Int) (v0:Int×Int×LC):St:=⟨[(0,.ptr 1000000 0),(1,dI n),(5,.own 7 none),(6,dI v0.1)],[(1000000,.box [.data TBy b,dI v0.2.1]),(7,.arr .sh ai v0.2.2)]⟩
abbrev LP31_0 (b:LI) (p:Int) (n:Int) (m:Nat) (st_:St) (K:KX):Prop:=True/\gb (s31_0 b p n) (F.dD b p n) (fun v0:Int×Int×LC=>True) (fun e0:Int×LC=>True->K (.exit 0) (⟨[(0,.ptr 1000000 0),(1,dI n),(5,.own 7 none)],[(1000000,.box [.data TBy b,dI e0.1]),(7,.arr .sh ai e0.2)]⟩:St)) m st_
def L31 (b:LI) (p:Int) (n:Int):br:=lp1 0 (LP31_0 b p n)
theorem vc31 (b:LI) (p:Int) (n:Int) (K:KA):vcT C31 (L31 b p n) ann31 f31 [.ptr 1000000 0,dI n] [(1000000,.box [.data TBy b,dI p])] .raw K =
 ((Sm TBy b)/\(M.ak b)/\(0<=p)/\(p<=1000000000000000)/\(LD (M.pick b p Z3) fun r1=>(∃m_,True/\gb (s31_0 b p n) (F.dD b p n) (fun v0:Int×Int×LC=>True) (fun e0:Int×LC=>True->(Sm TBy b)/\(M.ak b)/\(0<=e0.1)/\(e0.1<=999000000000000)/\(LD (M.odd b e0.1 n) fun r2=>cond r2.1 ((Sm TBy b)/\(M.ak b)/\(0<=r2.2)/\(r2.2<=1000000000000000)/\(LD (M.pick b r2.2 Z6) fun r3=>((e0.2.length+[(wrap64 (r3.1-Z1),(false,())),(Z1,(false,())),(Z1,(false,()))].length) * 16<=lim)/\K (.own 0 none) [(0,.arr .sh ai (e0.2++[(wrap64 (r3.1-Z1),(false,())),(Z1,(false,())),(Z1,(false,()))])),(1000000,.box [.data TBy b,dI r3.2])])) (K (.own 0 none) [(0,.arr .sh ai e0.2),(1000000,.box [.data TBy b,dI r2.2])]))) m_ (s31_0 b p n (wrap64 (Z1+r1.1),r1.2,[]))))):=by kernel_rfl
theorem lvc31_0 (b:LI) (p:Int) (n:Int)  (v0:Int×Int×LC) (m:Nat) (K:KX):lvT C31 (L31 b p n) ann31 f31 0 0 (s31_0 b p n v0) m K =
 (cond (decide (Z0<v0.1)) (((Sm TBy b)/\(M.ak b)/\(0<=v0.2.1)/\(v0.2.1<=1000000000000000)/\(LD (M.pick b v0.2.1 Z4) fun r4=>(0<=r4.1)/\(r4.1<([Z1,Z1,Z2,Z3].length:Int))/\Q0 ((Sm TBy b)/\(M.ak b)/\(0<=r4.2)/\(r4.2<=1000000000000000)/\(LD (M.pick b r4.2 Z3) fun r5=>((v0.2.2.length+[((nI [Z1,Z1,Z2,Z3] r4.1),((decide (Z0<r5.1)),()))].length) * 16<=lim)/\(nxT (LP31_0 b p n) m K (s31_0 b p n (wrap64 (v0.1-Z1),r5.2,(v0.2.2++[((nI [Z1,Z1,Z2,Z3] r4.1),((decide (Z0<r5.1)),()))]))))))))/\((Sm TBy b)/\(M.ak b)/\(0<=v0.2.1)/\(v0.2.1<=1000000000000000)/\(LD (M.pick b v0.2.1 Z4) fun r4=>((0<=r4.1)/\(r4.1<([Z1,Z1,Z2,Z3].length:Int))/\Q0 ((Sm TBy b)/\(M.ak b)/\(0<=r4.2)/\(r4.2<=1000000000000000)/\(LD (M.pick b r4.2 Z3) fun r5=>((v0.2.2.length+[((nI [Z1,Z1,Z2,Z3] r4.1),((decide (Z0<r5.1)),()))].length) * 16<=lim)/\(nxT (LP31_0 b p n) m K (s31_0 b p n (wrap64 (v0.1-Z1),r5.2,(v0.2.2++[((nI [Z1,Z1,Z2,Z3] r4.1),((decide (Z0<r5.1)),()))])))))))/\((Sm TBy b)/\(M.ak b)/\(0<=r4.2)/\(r4.2<=1000000000000000)/\(LD (M.pick b r4.2 Z3) fun r5=>(0<=r4.1)/\(r4.1<([Z1,Z1,Z2,Z3].length:Int))/\((v0.2.2.length+[((nI [Z1,Z1,Z2,Z3] r4.1),((decide (Z0<r5.1)),()))].length) * 16<=lim)/\(nxT (LP31_0 b p n) m K (s31_0 b p n (wrap64 (v0.1-Z1),r5.2,(v0.2.2++[((nI [Z1,Z1,Z2,Z3] r4.1),((decide (Z0<r5.1)),()))]))))))))) (K (.exit 0) (⟨[(0,.ptr 1000000 0),(1,dI n),(5,.own 7 none)],[(1000000,.box [.data TBy b,dI v0.2.1]),(7,.arr .sh ai v0.2.2)]⟩:St))):=by kernel_rfl
theorem con31_ok:bL P 31 c31:=bX C31 func31 (kC con30_ok (kC con33_ok kN)) fun args hp K h0=>by
 unfold c31 at h0
 dsimp only at h0
 obtain⟨b,p,rfl,h00⟩:=gK h0
 obtain⟨a0,a1,rfl,_,h1⟩:=bp h00
 obtain⟨rfl,h2⟩:=dZ h1
 obtain⟨n,rfl,h3⟩:=dc h2
 obtain⟨h_b,p0,p1,p2,hK⟩:=h3
 have h:ok (F.dL b p n) (fun r=>K (.own 0 none) [(0,.arr .sh ai r.1),(1000000,.box [.data TBy b,dI r.2])]):=aB (F.nk b p n h_b p0 p1 p2) (hK _ rfl)
 refine⟨rfl,ann31,(L31 b p n),.raw,(bF (i0:=0) (by kernel_rfl) ?_),?_⟩
 ·rintro _ _ K ⟨hc0,v0,rfl,hv0,h⟩
  exact cast (lvc31_0 _ _ _ _ _ _).symm (ep h (fun m1 hm0 h=>(oC h (fun _ h=>((fun(g1_0:M.ak b)=>(fun(g1_1:0<=v0.2.1)=>(fun(g1_2:v0.2.1<=1000000000000000)=>(fun(g1_3:0<=(M.pick b v0.2.1 Z4).1)=>(fun(g1_4:(M.pick b v0.2.1 Z4).1<([Z1,Z1,Z2,Z3].length:Int))=>(fun(g1_5:0<=(M.pick b v0.2.1 Z4).2)=>(fun(g1_6:(M.pick b v0.2.1 Z4).2<=1000000000000000)=>(fun(g1_7:(v0.2.2.length+[((nI [Z1,Z1,Z2,Z3] (M.pick b v0.2.1 Z4).1),((decide (Z0<(M.pick b (M.pick b v0.2.1 Z4).2 Z3).1)),()))].length) * 16<=lim)=>⟨⟨h_b,⟨g1_0,have g1:=g1_0;⟨g1_1,have g2:=g1_1;⟨g1_2,have g3:=g1_2;(fun r4 er4=>(have g4:0<=r4.1:=(by rw[er4];exact g1_3);⟨g4,(have g5:r4.1<([Z1,Z1,Z2,Z3].length:Int):=(by rw[er4];exact g1_4);⟨g5,(q0 (⟨h_b,⟨g1,(have g6:0<=r4.2:=(by rw[er4];exact g1_5);⟨g6,(have g7:r4.2<=1000000000000000:=(by rw[er4];exact g1_6);⟨g7,(fun r5 er5=>(have g8:(v0.2.2.length+[((nI [Z1,Z1,Z2,Z3] r4.1),((decide (Z0<r5.1)),()))].length) * 16<=lim:=(by rw[er5,er4];exact g1_7);⟨g8,(have h:=(aq (cF (aq (aq (aq (aq (cF (aq (aq (aq h).2).2).2 r4 er4)).2).2).2).2 r5 er5)).2;(cI (fun _ hm=>⟨hc0,hm⟩) hm0 _ rfl trivial h))⟩))⟩)⟩)⟩⟩))⟩)⟩))⟩⟩⟩⟩,⟨h_b,⟨g1_0,have g9:=g1_0;⟨g1_1,have g10:=g1_1;⟨g1_2,have g11:=g1_2;(fun r4 er4=>⟨(have g12:0<=r4.1:=(by rw[er4];exact g1_3);⟨g12,(have g13:r4.1<([Z1,Z1,Z2,Z3].length:Int):=(by rw[er4];exact g1_4);⟨g13,(q0 (⟨h_b,⟨g9,(have g14:0<=r4.2:=(by rw[er4];exact g1_5);⟨g14,(have g15:r4.2<=1000000000000000:=(by rw[er4];exact g1_6);⟨g15,(fun r5 er5=>(have g16:(v0.2.2.length+[((nI [Z1,Z1,Z2,Z3] r4.1),((decide (Z0<r5.1)),()))].length) * 16<=lim:=(by rw[er5,er4];exact g1_7);⟨g16,(have h:=(aq (cF (aq (aq (aq (aq (cF (aq (aq (aq h).2).2).2 r4 er4)).2).2).2).2 r5 er5)).2;(cI (fun _ hm=>⟨hc0,hm⟩) hm0 _ rfl trivial h))⟩))⟩)⟩)⟩⟩))⟩)⟩),⟨h_b,⟨g9,(have g17:0<=r4.2:=(by rw[er4];exact g1_5);⟨g17,(have g18:r4.2<=1000000000000000:=(by rw[er4];exact g1_6);⟨g18,(fun r5 er5=>(have g19:0<=r4.1:=(by rw[er4];exact g1_3);⟨g19,(have g20:r4.1<([Z1,Z1,Z2,Z3].length:Int):=(by rw[er4];exact g1_4);⟨g20,(have g21:(v0.2.2.length+[((nI [Z1,Z1,Z2,Z3] r4.1),((decide (Z0<r5.1)),()))].length) * 16<=lim:=(by rw[er5,er4];exact g1_7);⟨g21,(have h:=(aq (cF (aq (aq (aq (aq (cF (aq (aq (aq h).2).2).2 r4 er4)).2).2).2).2 r5 er5)).2;(cI (fun _ hm=>⟨hc0,hm⟩) hm0 _ rfl trivial h))⟩)⟩)⟩))⟩)⟩)⟩⟩⟩)⟩⟩⟩⟩⟩) (aq (cF (aq (aq (aq (aq (cF (aq (aq (aq h).2).2).2 _ rfl)).2).2).2).2 _ rfl)).1) (aq (aq (aq (aq (cF (aq (aq (aq h).2).2).2 _ rfl)).2).2).2).1) (aq (aq (aq (cF (aq (aq (aq h).2).2).2 _ rfl)).2).2).1) (aq (aq (cF (aq (aq (aq h).2).2).2 _ rfl)).2).1) (aq (cF (aq (aq (aq h).2).2).2 _ rfl)).1) (aq (aq (aq h).2).2).1) (aq (aq h).2).1) (aq h).1)) fun _ h=>((dY h :) trivial))))
 ·rw[vc31]
  exact⟨h_b,⟨p0,⟨p1,(oG h fun _ h=>(oL h fun _ _ h=>(cX (fun m hm=>⟨trivial,hm⟩) _ rfl trivial (jk h (fun e0 h hv0=>⟨h_b,⟨p0,(oG h fun _ h=>(oG h fun _ h=>(oL h fun _ _ h=>(oC h (fun _ h=>⟨h_b,⟨p0,(oG h fun _ h=>(oG h fun _ h=>(oL h fun _ _ h=>(oG h fun _ h=>h))))⟩⟩) fun _ h=>h))))⟩⟩)))))⟩⟩⟩
def c39:Con:=⟨[.dat TVS],fun args hp K=>g1 (pD TVS) (fun row=>(Sm TVS row)/\(LD row fun r=>K (.own 0 none) [(0,.arr .sh ag r)])) args hp,.bor,false⟩
abbrev C39:Ctx:=cx [] 6 [] 0 false
def ann39:=an [[kp 1],[kp 4]] []
theorem vc39 (row:LV) (K:KA):vcT C39 aC ann39 f39 [.data TVS row] [] .raw K =
 (((([]:List ag.D).length+row.length) * 32<=lim)/\K (.own 0 none) [(0,.arr .sh ag ([]++row))]):=by kernel_rfl
theorem con39_ok:bL P 39 c39:=bX C39 func39 kN fun args hp K h0=>by
 obtain⟨row,rfl,rfl,h_row,hK⟩:=g1e h0
 have h:ok (F.rq row) (fun r=>K (.own 0 none) [(0,.arr .sh ag r)]):=aB (F.sQ row h_row) (hK _ rfl)
 refine⟨rfl,ann39,aC,.raw,(aQ (by kernel_rfl)),?_⟩
 ·rw[vc39]
  exact⟨(xp (lK ag) h_row rfl),h⟩
def c72:Con:=⟨[.any,.dat ai],fun args hp K=>hpR (fun b p=>args2 (fun a0 a1=>mA a0 (kR ai a1 fun c=>(Sm TBy b)/\(M.ak b)/\(0<=p)/\(p<=998000000000000)/\(LD (M.je b p c) fun r=>K (.data ag r.1) [(1000000,.box [.data TBy b,dI r.2])]))) args []) hp,.plain,true⟩
abbrev C72:Ctx:=cx [(30,c30)] 31 [] 0 false
def ann72:=an [[.fixRow 3 ai,kp 25],[kp 2073],[kp 16],[kp 16401],[kp 49169],[kp 16],[kp 1048593],[kp 16],[kp 16]] []
theorem vc72 (b:LI) (p:Int) (c:ai.D) (K:KA):vcT C72 aC ann72 f72 [.ptr 1000000 0,.data ai c] [(1000000,.box [.data TBy b,dI p])] (.dat ag) K =
 (cond (c.2.1==true) ((Sm TBy b)/\(M.ak b)/\(0<=p)/\(p<=1000000000000000)/\(LD (M.pick b p Z5) fun r1=>cond (decide (r1.1=Z0)) (K (.data ag (Z0,(Z0,((⟨#[]⟩:ByteArray),())))) [(1000000,.box [.data TBy b,dI r1.2])]) (cond (decide (c.1=Z1)) ((Sm TBy b)/\(M.ak b)/\(0<=r1.2)/\(r1.2<=1000000000000000)/\(LD (M.pick b r1.2 Z4) fun r2=>K (.data ag (Z1,(r2.1,((⟨#[]⟩:ByteArray),())))) [(1000000,.box [.data TBy b,dI r2.2])])) (cond (decide (c.1=Z2)) ((Sm TBy b)/\(M.ak b)/\(0<=r1.2)/\(r1.2<=1000000000000000)/\(LD (M.pick b r1.2 Z4) fun r3=>(0<=r3.1)/\(r3.1<([(⟨#[]⟩:ByteArray),(⟨#[97]⟩:ByteArray),(⟨#[98]⟩:ByteArray),(⟨#[97,98]⟩:ByteArray)].length:Int))/\K (.data ag (Z2,(Z0,((nth (t:=Ty.str) [(⟨#[]⟩:ByteArray),(⟨#[97]⟩:ByteArray),(⟨#[98]⟩:ByteArray),(⟨#[97,98]⟩:ByteArray)] r3.1),())))) [(1000000,.box [.data TBy b,dI r3.2])])) ((Sm TBy b)/\(M.ak b)/\(0<=r1.2)/\(r1.2<=1000000000000000)/\(LD (M.pick b r1.2 Z2) fun r4=>K (.data ag (Z3,(r4.1,((⟨#[]⟩:ByteArray),())))) [(1000000,.box [.data TBy b,dI r4.2])])))))) (cond (decide (c.1=Z1)) ((Sm TBy b)/\(M.ak b)/\(0<=p)/\(p<=1000000000000000)/\(LD (M.pick b p Z4) fun r2=>K (.data ag (Z1,(r2.1,((⟨#[]⟩:ByteArray),())))) [(1000000,.box [.data TBy b,dI r2.2])])) (cond (decide (c.1=Z2)) ((Sm TBy b)/\(M.ak b)/\(0<=p)/\(p<=1000000000000000)/\(LD (M.pick b p Z4) fun r3=>(0<=r3.1)/\(r3.1<([(⟨#[]⟩:ByteArray),(⟨#[97]⟩:ByteArray),(⟨#[98]⟩:ByteArray),(⟨#[97,98]⟩:ByteArray)].length:Int))/\K (.data ag (Z2,(Z0,((nth (t:=Ty.str) [(⟨#[]⟩:ByteArray),(⟨#[97]⟩:ByteArray),(⟨#[98]⟩:ByteArray),(⟨#[97,98]⟩:ByteArray)] r3.1),())))) [(1000000,.box [.data TBy b,dI r3.2])])) ((Sm TBy b)/\(M.ak b)/\(0<=p)/\(p<=1000000000000000)/\(LD (M.pick b p Z2) fun r4=>K (.data ag (Z3,(r4.1,((⟨#[]⟩:ByteArray),())))) [(1000000,.box [.data TBy b,dI r4.2])]))))):=by kernel_rfl
theorem con72_ok:bL P 72 c72:=bX C72 func72 (kC con30_ok kN) fun args hp K h0=>by
 unfold c72 at h0
 dsimp only at h0
 obtain⟨b,p,rfl,h00⟩:=gK h0
 obtain⟨a0,a1,rfl,_,h1⟩:=bp h00
 obtain⟨rfl,h2⟩:=dZ h1
 obtain⟨c,rfl,h3⟩:=dc h2
 obtain⟨h_b,p0,p1,p2,hK⟩:=h3
 have h:ok (F.fQ b p c) (fun r=>K (.data ag r.1) [(1000000,.box [.data TBy b,dI r.2])]):=aB (F.qu b p c h_b p0 p1 p2) (hK _ rfl)
 refine⟨rfl,ann72,aC,(.dat ag),(aQ (by kernel_rfl)),?_⟩
 ·rw[vc72]
  exact(oC h (fun _ h=>⟨h_b,⟨p0,⟨p1,(oG h fun _ h=>(oL h fun _ _ h=>(oC h (fun _ h=>h) fun _ h=>(oC h (fun _ h=>⟨h_b,⟨p0,(oG h fun _ h=>(oG h fun _ h=>(oL h fun _ _ h=>h)))⟩⟩) fun _ h=>(oC h (fun _ h=>⟨h_b,⟨p0,(oG h fun _ h=>(oG h fun _ h=>(oL h fun _ _ h=>(oG h fun _ h=>(oG h fun _ h=>h)))))⟩⟩) fun _ h=>⟨h_b,⟨p0,(oG h fun _ h=>(oG h fun _ h=>(oL h fun _ _ h=>h)))⟩⟩)))))⟩⟩⟩) fun _ h=>(oC h (fun _ h=>⟨h_b,⟨p0,⟨p1,(oG h fun _ h=>(oL h fun _ _ h=>h))⟩⟩⟩) fun _ h=>(oC h (fun _ h=>⟨h_b,⟨p0,⟨p1,(oG h fun _ h=>(oL h fun _ _ h=>(oG h fun _ h=>(oG h fun _ h=>h))))⟩⟩⟩) fun _ h=>⟨h_b,⟨p0,⟨p1,(oG h fun _ h=>(oL h fun _ _ h=>h))⟩⟩⟩)))
def c73:Con:=⟨[.any,.dat bf],fun args hp K=>hpR (fun b p=>args2 (fun a0 a1=>mA a0 (kR bf a1 fun n=>(Sm TBy b)/\(M.ak b)/\(0<=p)/\(p<=998000000000000)/\(LD (M.cR b p n) fun r=>K (.data ag r.1) [(1000000,.box [.data TBy b,dI r.2])]))) args []) hp,.plain,true⟩
abbrev C73:Ctx:=cx [(30,c30),(33,c33)] 77 [] 0 false
def ann73:=an [[kp 19],[kp 51],[kp 563],[kp 51],[kp 8755],[kp 33331],[kp 33331],[kp 33331],[kp 51],[kp 33554483],[kp 51],[kp 4294967859],[kp 4294967347],[kp 51],[kp 115],[kp 549755814003],[kp 115],[kp 115],[.keep [0,4,5,54]],[.keep [0,4,5,56]],[kp 48],[kp 2377900603251621937],[kp 48],[kp 18518801667747479601],[kp 48],[.keep [0,4,5,70]],[kp 48],[kp 16]] [[kp 51],[kp 51]]
abbrev s73_0 (b:LI) (p:Int) (n:Int) (c0_0:Int) (c0_1:Int) (v0:Unit):St:=⟨[(0,.ptr 1000000 0),(1,dI n),(4,.ptr 4 0),(5,.ptr 5 0),(9,dI c0_0)],[(1000000,.box [.data TBy b,dI c0_1]),(4,.box [dI Z0,dI Z0,.data Ty.str (⟨#[]⟩:ByteArray)]),(5,.box [dI Z0,dI Z0,.data Ty.str (⟨#[]⟩:ByteArray)])]⟩
abbrev LP73_0 (b:LI) (p:Int) (n:Int) (m:Nat) (st_:St) (K:KX):Prop:=∃c0_0:Int,∃c0_1:Int,True/\gb (s73_0 b p n c0_0 c0_1) (F.eU b p n c0_0 c0_1) (fun v0:Unit=>True) (fun e0:Int×Int×Int×ByteArray=>True->K (.exit 0) (⟨[(0,.ptr 1000000 0),(1,dI n),(4,.ptr 4 0),(5,.ptr 5 0)],[(1000000,.box [.data TBy b,dI e0.1]),(4,.box [dI Z0,dI Z0,.data Ty.str (⟨#[]⟩:ByteArray)]),(5,.box [dI e0.2.1,dI e0.2.2.1,.data Ty.str e0.2.2.2])]⟩:St)) m st_
abbrev s73_1 (b:LI) (p:Int) (n:Int) (v1:Int×Int×ByteArray):St:=⟨[(0,.ptr 1000000 0),(1,dI n),(4,.ptr 4 0),(5,.ptr 5 0),(6,dI v1.1)],[(1000000,.box [.data TBy b,dI v1.2.1]),(4,.box [dI Z0,dI Z0,.data Ty.str (⟨#[]⟩:ByteArray)]),(5,.box [dI Z2,dI Z0,.data Ty.str v1.2.2])]⟩
abbrev LP73_1 (b:LI) (p:Int) (n:Int) (m:Nat) (st_:St) (K:KX):Prop:=True/\gb (s73_1 b p n) (F.cH b p n) (fun v1:Int×Int×ByteArray=>True) (fun e1:Int×ByteArray=>True->K (.exit 1) (⟨[(0,.ptr 1000000 0),(1,dI n),(4,.ptr 4 0),(5,.ptr 5 0)],[(1000000,.box [.data TBy b,dI e1.1]),(4,.box [dI Z0,dI Z0,.data Ty.str (⟨#[]⟩:ByteArray)]),(5,.box [dI Z2,dI Z0,.data Ty.str e1.2])]⟩:St)) m st_
def L73 (b:LI) (p:Int) (n:Int):br:=lp2 0 (LP73_0 b p n) 1 (LP73_1 b p n)
theorem vc73 (b:LI) (p:Int) (n:Int) (K:KA):vcT C73 (L73 b p n) ann73 (qC [(1000000,true)] f73) [.ptr 1000000 0,dI n] [(1000000,.box [.data TBy b,dI p])] (.dat ag) K =
 ((Sm TBy b)/\(M.ak b)/\(0<=p)/\(p<=1000000000000000)/\(LD (M.pick b p (7:Int)) fun r1=>(∃m_,∃c0_0:Int,∃c0_1:Int,True/\gb (s73_0 b p n c0_0 c0_1) (F.eU b p n c0_0 c0_1) (fun v0:Unit=>True) (fun e0:Int×Int×Int×ByteArray=>True->(Sm TBy b)/\(M.ak b)/\(0<=e0.1)/\(e0.1<=999000000000000)/\(LD (M.odd b e0.1 n) fun r2=>cond r2.1 ((Sm TBy b)/\(M.ak b)/\(0<=r2.2)/\(r2.2<=1000000000000000)/\(LD (M.pick b r2.2 Z4) fun r3=>cond (decide (r3.1=Z0)) (K (.data ag (e0.2.1,((10000:Int),(e0.2.2.2,())))) [(1000000,.box [.data TBy b,dI r3.2])]) (cond (decide (r3.1=Z1)) ((e0.2.2.2.size+(⟨#[97,98,99,100,101,102,103]⟩:ByteArray).size<=9223372036854775807)/\K (.data ag (e0.2.1,(e0.2.2.1,((e0.2.2.2++(⟨#[97,98,99,100,101,102,103]⟩:ByteArray)),())))) [(1000000,.box [.data TBy b,dI r3.2])]) (cond (decide (r3.1=Z2)) ((Sm TBy b)/\(M.ak b)/\(0<=r3.2)/\(r3.2<=1000000000000000)/\(LD (M.pick b r3.2 (7:Int)) fun r4=>K (.data ag (wrap64 (r4.1-Z1),(e0.2.2.1,(e0.2.2.2,())))) [(1000000,.box [.data TBy b,dI r4.2])])) ((e0.2.2.2.size+(⟨#[65]⟩:ByteArray).size<=9223372036854775807)/\K (.data ag (e0.2.1,(e0.2.2.1,((e0.2.2.2++(⟨#[65]⟩:ByteArray)),())))) [(1000000,.box [.data TBy b,dI r3.2])]))))) (K (.data ag (e0.2.1,(e0.2.2.1,(e0.2.2.2,())))) [(1000000,.box [.data TBy b,dI r2.2])]))) m_ (s73_0 b p n r1.1 r1.2 ())))):=by kernel_rfl
abbrev S73l0_0 (b:LI) (p:Int) (n:Int) (c0_0:Int) (c0_1:Int) (v0:Unit) (m:Nat) (K:KX):Prop:=(Sm TBy b)/\(M.ak b)/\(0<=c0_1)/\(c0_1<=1000000000000000)/\(LD (M.pick b c0_1 (7:Int)) fun r5=>(Sm TBy b)/\(M.ak b)/\(0<=r5.2)/\(r5.2<=1000000000000000)/\(LD (M.pick b r5.2 (8:Int)) fun r6=>cond (decide (r6.1=Z0)) ((Sm TBy b)/\(M.ak b)/\(0<=r6.2)/\(r6.2<=1000000000000000)/\(LD (M.pick b r6.2 Z5) fun r7=>(0<=r7.1)/\(r7.1<([(9999:Int),(-9999:Int),(255:Int),(256:Int),(-256:Int)].length:Int))/\K (.exit 0) (⟨[(0,.ptr 1000000 0),(1,dI n),(4,.ptr 4 0),(5,.ptr 5 0)],[(1000000,.box [.data TBy b,dI r7.2]),(4,.box [dI Z0,dI Z0,.data Ty.str (⟨#[]⟩:ByteArray)]),(5,.box [dI Z1,dI (nI [(9999:Int),(-9999:Int),(255:Int),(256:Int),(-256:Int)] r7.1),.data Ty.str (⟨#[]⟩:ByteArray)])]⟩:St))) (K (.exit 0) (⟨[(0,.ptr 1000000 0),(1,dI n),(4,.ptr 4 0),(5,.ptr 5 0)],[(1000000,.box [.data TBy b,dI r6.2]),(4,.box [dI Z0,dI Z0,.data Ty.str (⟨#[]⟩:ByteArray)]),(5,.box [dI Z1,dI (wrap64 (r5.1-Z3)),.data Ty.str (⟨#[]⟩:ByteArray)])]⟩:St))))
abbrev S73l0_1 (b:LI) (p:Int) (n:Int) (c0_0:Int) (c0_1:Int) (v0:Unit) (m:Nat) (K:KX):Prop:=(Sm TBy b)/\(M.ak b)/\(0<=c0_1)/\(c0_1<=1000000000000000)/\(LD (M.pick b c0_1 Z4) fun r8=>(∃m_,True/\gb (s73_1 b p n) (F.cH b p n) (fun v1:Int×Int×ByteArray=>True) (fun e1:Int×ByteArray=>True->K (.exit 0) (⟨[(0,.ptr 1000000 0),(1,dI n),(4,.ptr 4 0),(5,.ptr 5 0)],[(1000000,.box [.data TBy b,dI e1.1]),(4,.box [dI Z0,dI Z0,.data Ty.str (⟨#[]⟩:ByteArray)]),(5,.box [dI Z2,dI Z0,.data Ty.str e1.2])]⟩:St)) m_ (s73_1 b p n (r8.1,r8.2,(⟨#[]⟩:ByteArray)))))
abbrev S73l0_2 (b:LI) (p:Int) (n:Int) (c0_0:Int) (c0_1:Int) (v0:Unit) (m:Nat) (K:KX):Prop:=(Sm TBy b)/\(M.ak b)/\(0<=c0_1)/\(c0_1<=1000000000000000)/\(LD (M.pick b c0_1 Z2) fun r9=>K (.exit 0) (⟨[(0,.ptr 1000000 0),(1,dI n),(4,.ptr 4 0),(5,.ptr 5 0)],[(1000000,.box [.data TBy b,dI r9.2]),(4,.box [dI Z0,dI Z0,.data Ty.str (⟨#[]⟩:ByteArray)]),(5,.box [dI Z3,dI r9.1,.data Ty.str (⟨#[]⟩:ByteArray)])]⟩:St))
abbrev S73l0_3 (b:LI) (p:Int) (n:Int) (c0_0:Int) (c0_1:Int) (v0:Unit) (m:Nat) (K:KX):Prop:=cond (decide (c0_0=Z4)) (cond (decide (c0_0=Z4)) (S73l0_1  b p n c0_0 c0_1 v0 m K) (S73l0_2  b p n c0_0 c0_1 v0 m K)) (cond (decide (c0_0=Z5)) (S73l0_1  b p n c0_0 c0_1 v0 m K) (S73l0_2  b p n c0_0 c0_1 v0 m K))
theorem lvc73_0 (b:LI) (p:Int) (n:Int) (c0_0:Int) (c0_1:Int) (v0:Unit) (m:Nat) (K:KX):lvT C73 (L73 b p n) ann73 (qC [(1000000,true)] f73) 0 0 (s73_0 b p n c0_0 c0_1 v0) m K =
 (cond (decide (c0_0=Z0)) (K (.exit 0) (⟨[(0,.ptr 1000000 0),(1,dI n),(4,.ptr 4 0),(5,.ptr 5 0)],[(1000000,.box [.data TBy b,dI c0_1]),(4,.box [dI Z0,dI Z0,.data Ty.str (⟨#[]⟩:ByteArray)]),(5,.box [dI Z0,dI Z0,.data Ty.str (⟨#[]⟩:ByteArray)])]⟩:St)) (cond (decide (c0_0=Z1)) (cond (decide (c0_0=Z1)) (S73l0_0  b p n c0_0 c0_1 v0 m K) (S73l0_3  b p n c0_0 c0_1 v0 m K)) (cond (decide (c0_0=Z2)) (cond (decide (c0_0=Z2)) (S73l0_0  b p n c0_0 c0_1 v0 m K) (S73l0_3  b p n c0_0 c0_1 v0 m K)) (cond (decide (c0_0=Z3)) (S73l0_0  b p n c0_0 c0_1 v0 m K) (S73l0_3  b p n c0_0 c0_1 v0 m K))))):=by kernel_rfl
theorem lvc73_1 (b:LI) (p:Int) (n:Int)  (v1:Int×Int×ByteArray) (m:Nat) (K:KX):lvT C73 (L73 b p n) ann73 (qC [(1000000,true)] f73) 1 1 (s73_1 b p n v1) m K =
 (cond (decide (Z0<v1.1)) (((Sm TBy b)/\(M.ak b)/\(0<=v1.2.1)/\(v1.2.1<=1000000000000000)/\(LD (M.pick b v1.2.1 Z3) fun r10=>(v1.2.2.size+(strOf [((wrap64 ((97:Int)+r10.1)) % 256)]).size<=9223372036854775807)/\(nxT (LP73_1 b p n) m K (s73_1 b p n (wrap64 (v1.1-Z1),r10.2,(v1.2.2++(strOf [((wrap64 ((97:Int)+r10.1)) % 256)])))))))/\((Sm TBy b)/\(M.ak b)/\(0<=v1.2.1)/\(v1.2.1<=1000000000000000)/\(LD (M.pick b v1.2.1 Z3) fun r10=>Q1 ((v1.2.2.size+(strOf [((wrap64 ((97:Int)+r10.1)) % 256)]).size<=9223372036854775807)/\(nxT (LP73_1 b p n) m K (s73_1 b p n (wrap64 (v1.1-Z1),r10.2,(v1.2.2++(strOf [((wrap64 ((97:Int)+r10.1)) % 256)]))))))))) (K (.exit 1) (⟨[(0,.ptr 1000000 0),(1,dI n),(4,.ptr 4 0),(5,.ptr 5 0)],[(1000000,.box [.data TBy b,dI v1.2.1]),(4,.box [dI Z0,dI Z0,.data Ty.str (⟨#[]⟩:ByteArray)]),(5,.box [dI Z2,dI Z0,.data Ty.str v1.2.2])]⟩:St))):=by kernel_rfl
theorem con73_ok:bL P 73 c73:=Aj [(1000000,true)] C73 func73 (kC con30_ok (kC con33_ok kN)) fun args hp K h0=>by
 unfold c73 at h0
 dsimp only at h0
 obtain⟨b,p,rfl,h00⟩:=gK h0
 obtain⟨a0,a1,rfl,_,h1⟩:=bp h00
 obtain⟨rfl,h2⟩:=dZ h1
 obtain⟨n,rfl,h3⟩:=dc h2
 obtain⟨h_b,p0,p1,p2,hK⟩:=h3
 have h:ok (F.fc b p n) (fun r=>K (.data ag r.1) [(1000000,.box [.data TBy b,dI r.2])]):=aB (F.pM b p n h_b p0 p1 p2) (hK _ rfl)
 refine⟨rfl,ann73,(L73 b p n),(.dat ag),(tR (i0:=0) (i1:=1) (by kernel_rfl) ?_ ?_),?_⟩
 ·rintro _ _ K ⟨c0_0,c0_1,hc0,v0,rfl,hv0,h⟩
  exact cast (lvc73_0 _ _ _ _ _ _ _ _).symm (ep h (fun m1 hm0 h=>(oC h (fun _ h=>((dY h :) trivial)) fun _ h=>(oC h (fun b_3 h=>(rO b_3 ⟨h_b,(oG h fun g1 h=>(oG h fun _ h=>(oG h fun _ h=>(oL h fun _ _ h=>⟨h_b,⟨g1,(oG h fun _ h=>(oG h fun _ h=>(oL h fun _ _ h=>(oC h (fun _ h=>⟨h_b,⟨g1,(oG h fun _ h=>(oG h fun _ h=>(oL h fun _ _ h=>(oG h fun _ h=>(oG h fun _ h=>((dY h :) trivial))))))⟩⟩) fun _ h=>((dY h :) trivial)))))⟩⟩))))⟩)) fun _ h=>(oC h (fun b_51 h=>(rO b_51 ⟨h_b,(oG h fun g2 h=>(oG h fun _ h=>(oG h fun _ h=>(oL h fun _ _ h=>⟨h_b,⟨g2,(oG h fun _ h=>(oG h fun _ h=>(oL h fun _ _ h=>(oC h (fun _ h=>⟨h_b,⟨g2,(oG h fun _ h=>(oG h fun _ h=>(oL h fun _ _ h=>(oG h fun _ h=>(oG h fun _ h=>((dY h :) trivial))))))⟩⟩) fun _ h=>((dY h :) trivial)))))⟩⟩))))⟩)) fun _ h=>(oC h (fun _ h=>⟨h_b,(oG h fun g3 h=>(oG h fun _ h=>(oG h fun _ h=>(oL h fun _ _ h=>⟨h_b,⟨g3,(oG h fun _ h=>(oG h fun _ h=>(oL h fun _ _ h=>(oC h (fun _ h=>⟨h_b,⟨g3,(oG h fun _ h=>(oG h fun _ h=>(oL h fun _ _ h=>(oG h fun _ h=>(oG h fun _ h=>((dY h :) trivial))))))⟩⟩) fun _ h=>((dY h :) trivial)))))⟩⟩))))⟩) fun _ h=>(oC h (fun b_74 h=>(rO b_74 ⟨h_b,(oG h fun _ h=>(oG h fun _ h=>(oG h fun _ h=>(oL h fun _ _ h=>(cX (fun m hm=>⟨trivial,hm⟩) _ rfl trivial (jk h (fun e1 h hv1=>((dY h :) trivial))))))))⟩)) fun _ h=>(oC h (fun _ h=>⟨h_b,(oG h fun _ h=>(oG h fun _ h=>(oG h fun _ h=>(oL h fun _ _ h=>(cX (fun m hm=>⟨trivial,hm⟩) _ rfl trivial (jk h (fun e1 h hv1=>((dY h :) trivial))))))))⟩) fun _ h=>⟨h_b,(oG h fun _ h=>(oG h fun _ h=>(oG h fun _ h=>(oL h fun _ _ h=>((dY h :) trivial)))))⟩))))))))
 ·rintro _ _ K ⟨hc1,v1,rfl,hv1,h⟩
  exact cast (lvc73_1 _ _ _ _ _ _).symm (ep h (fun m1 hm1 h=>(oC h (fun _ h=>((fun(g2_0:M.ak b)=>(fun(g2_1:0<=v1.2.1)=>(fun(g2_2:v1.2.1<=1000000000000000)=>(fun(g2_3:v1.2.2.size+(strOf [((wrap64 ((97:Int)+(M.pick b v1.2.1 Z3).1)) % 256)]).size<=9223372036854775807)=>⟨⟨h_b,⟨g2_0,have g4:=g2_0;⟨g2_1,have g5:=g2_1;⟨g2_2,have g6:=g2_2;(fun r10 er10=>(have g7:v1.2.2.size+(strOf [((wrap64 ((97:Int)+r10.1)) % 256)]).size<=9223372036854775807:=(by rw[er10];exact g2_3);⟨g7,(have h:=(aq (cF (aq (aq (aq h).2).2).2 r10 er10)).2;(cI (fun _ hm=>⟨hc1,hm⟩) hm1 _ rfl trivial h))⟩))⟩⟩⟩⟩,⟨h_b,⟨g2_0,have g8:=g2_0;⟨g2_1,have g9:=g2_1;⟨g2_2,have g10:=g2_2;(fun r10 er10=>(q1 (have g11:v1.2.2.size+(strOf [((wrap64 ((97:Int)+r10.1)) % 256)]).size<=9223372036854775807:=(by rw[er10];exact g2_3);⟨g11,(have h:=(aq (cF (aq (aq (aq h).2).2).2 r10 er10)).2;(cI (fun _ hm=>⟨hc1,hm⟩) hm1 _ rfl trivial h))⟩)))⟩⟩⟩⟩⟩) (aq (cF (aq (aq (aq h).2).2).2 _ rfl)).1) (aq (aq (aq h).2).2).1) (aq (aq h).2).1) (aq h).1)) fun _ h=>((dY h :) trivial))))
 ·rw[vc73]
  exact⟨h_b,⟨p0,⟨p1,(oG h fun _ h=>(oL h fun r1 _ h=>(cX (fun m hm=>⟨r1.1,r1.2,trivial,hm⟩) _ rfl trivial (jk h (fun e0 h hv0=>⟨h_b,⟨p0,(oG h fun _ h=>(oG h fun _ h=>(oL h fun _ _ h=>(oC h (fun _ h=>⟨h_b,⟨p0,(oG h fun _ h=>(oG h fun _ h=>(oL h fun _ _ h=>(oC h (fun _ h=>h) fun _ h=>(oC h (fun _ h=>(oG h fun _ h=>h)) fun _ h=>(oC h (fun _ h=>⟨h_b,⟨p0,(oG h fun _ h=>(oG h fun _ h=>(oL h fun _ _ h=>h)))⟩⟩) fun _ h=>(oG h fun _ h=>h)))))))⟩⟩) fun _ h=>h))))⟩⟩)))))⟩⟩⟩
def c57:Con:=⟨[.any,.lent ai,.dat bf],fun args hp K=>hpR (fun b p=>uI (fun a0 a1 a2=>mA a0 (gZ ai a1 fun columns=>kR bf a2 fun n=>(Sm TBy b)/\(Sm TCS columns)/\(M.ak b)/\(0<=p)/\(p<=997000000000000)/\(LD (M.gL b p columns n) fun r=>K (.own 0 none) [(0,.arr .sh ag r.1),(1000000,.box [.data TBy b,dI r.2])]))) args []) hp,.plain,true⟩
abbrev C57:Ctx:=cx [(30,c30),(33,c33),(72,c72),(73,c73)] 59 [] 0 false
def ann57:=an [[kp 7],[kp 135],[kp 391],[kp 8583],[kp 391],[kp 391],[kp 134217857],[kp 536871041],[kp 128],[kp 550292684929],[kp 128],[.keep [0,7,45]],[.keep [0,7,49]],[kp 128],[kp 64]] [[kp 133]]
abbrev s57_0 (b:LI) (p:Int) (columns:LC) (n:Int) (i0:Int) (v0:Int×LV):St:=⟨[(0,.ptr 1000000 0),(1,.brw ai columns),(2,dI n),(7,.own 9 none),(8,dI i0)],[(1000000,.box [.data TBy b,dI v0.1]),(9,.arr .sh ag v0.2)]⟩
abbrev LP57_0 (b:LI) (p:Int) (columns:LC) (n:Int) (m:Nat) (st_:St) (K:KX):Prop:=True/\ga (t:=ai) (s57_0 b p columns n) columns (F.fI b p columns n) (fun v0:Int×LV=>True) (bO (fun v0:Int×LV=>True->K (.exit 0) (⟨[(0,.ptr 1000000 0),(2,dI n),(7,.own 9 none)],[(1000000,.box [.data TBy b,dI v0.1]),(9,.arr .sh ag v0.2)]⟩:St)) (fun _=>False)) m st_
def L57 (b:LI) (p:Int) (columns:LC) (n:Int):br:=lp1 0 (LP57_0 b p columns n)
theorem vc57 (b:LI) (p:Int) (columns:LC) (n:Int) (K:KA):vcT C57 (L57 b p columns n) ann57 f57 [.ptr 1000000 0,.brw ai columns,dI n] [(1000000,.box [.data TBy b,dI p])] .raw K =
 (∃m_,True/\ga (t:=ai) (s57_0 b p columns n) columns (F.fI b p columns n) (fun v0:Int×LV=>True) (bO (fun v0:Int×LV=>True->(Sm TBy b)/\(M.ak b)/\(0<=v0.1)/\(v0.1<=999000000000000)/\(LD (M.odd b v0.1 n) fun r1=>cond r1.1 ((Sm TBy b)/\(M.ak b)/\(0<=r1.2)/\(r1.2<=1000000000000000)/\(LD (M.pick b r1.2 Z3) fun r2=>cond (decide (r2.1=Z0)) (((v0.2.length+([(Z0,(Z0,((⟨#[]⟩:ByteArray),())))]:List ag.D).length) * 32<=lim)/\K (.own 0 none) [(0,.arr .sh ag (v0.2++[(Z0,(Z0,((⟨#[]⟩:ByteArray),())))])),(1000000,.box [.data TBy b,dI r2.2])]) (cond (decide (r2.1=Z1)) (cond (decide (Z0<(v0.2.length:Int))) ((Sm TBy b)/\(M.ak b)/\(0<=r2.2)/\(r2.2<=1000000000000000)/\(LD (M.pick b r2.2 (v0.2.length:Int)) fun r3=>(Sm TBy b)/\(M.ak b)/\(0<=r3.2)/\(r3.2<=998000000000000)/\(LD (M.cR b r3.2 Z3) fun r4=>(0<=r3.1)/\(r3.1<(v0.2.length:Int))/\K (.own 0 none) [(0,.arr .sh ag (v0.2.set r3.1.toNat r4.1)),(1000000,.box [.data TBy b,dI r4.2])]))) (K (.own 0 none) [(0,.arr .sh ag v0.2),(1000000,.box [.data TBy b,dI r2.2])])) ((Sm TBy b)/\(M.ak b)/\(0<=r2.2)/\(r2.2<=998000000000000)/\(LD (M.cR b r2.2 Z0) fun r5=>(Sm TBy b)/\(M.ak b)/\(0<=r5.2)/\(r5.2<=998000000000000)/\(LD (M.cR b r5.2 Z0) fun r6=>(Sm TBy b)/\(M.ak b)/\(0<=r6.2)/\(r6.2<=998000000000000)/\(LD (M.cR b r6.2 Z0) fun r7=>((v0.2.length+[r5.1,r6.1,r7.1].length) * 32<=lim)/\K (.own 0 none) [(0,.arr .sh ag (v0.2++[r5.1,r6.1,r7.1])),(1000000,.box [.data TBy b,dI r7.2])]))))))) (K (.own 0 none) [(0,.arr .sh ag v0.2),(1000000,.box [.data TBy b,dI r1.2])]))) (fun _=>False)) m_ (s57_0 b p columns n Z0 (p,[]))):=by kernel_rfl
theorem lvc57_0 (b:LI) (p:Int) (columns:LC) (n:Int)  (i0:Int) (v0:Int×LV) (m:Nat) (K:KX):lvT C57 (L57 b p columns n) ann57 f57 0 0 (s57_0 b p columns n i0 v0) m K =
 (cond (decide (i0<(columns.length:Int))) ((0<=i0)/\(i0<(columns.length:Int))/\(Sm TBy b)/\(M.ak b)/\(0<=v0.1)/\(v0.1<=998000000000000)/\(LD (M.je b v0.1 (nC columns i0)) fun r8=>((v0.2.length+[r8.1].length) * 32<=lim)/\(nxT (LP57_0 b p columns n) m K (s57_0 b p columns n (wrap64 (i0+Z1)) (r8.2,(v0.2++[r8.1])))))) (K (.exit 0) (⟨[(0,.ptr 1000000 0),(2,dI n),(7,.own 9 none)],[(1000000,.box [.data TBy b,dI v0.1]),(9,.arr .sh ag v0.2)]⟩:St))):=by kernel_rfl
theorem con57_ok:bL P 57 c57:=bX C57 func57 (kC con30_ok (kC con33_ok (kC con72_ok (kC con73_ok kN)))) fun args hp K h0=>by
 unfold c57 at h0
 dsimp only at h0
 obtain⟨b,p,rfl,h00⟩:=gK h0
 obtain⟨a0,a1,a2,rfl,_,h1⟩:=mM h00
 obtain⟨rfl,h2⟩:=dZ h1
 obtain⟨columns,rfl,h3⟩:=bT h2
 obtain⟨n,rfl,h4⟩:=dc h3
 obtain⟨h_b,h_columns,p0,p1,p2,hK⟩:=h4
 have h:ok (F.gy b p columns n) (fun r=>K (.own 0 none) [(0,.arr .sh ag r.1),(1000000,.box [.data TBy b,dI r.2])]):=aB (F.rF b p columns n h_b h_columns p0 p1 p2) (hK _ rfl)
 refine⟨rfl,ann57,(L57 b p columns n),.raw,(bF (i0:=0) (by kernel_rfl) ?_),?_⟩
 ·rintro _ _ K ⟨hc0,i0,v0,rfl,hl0,rfl,hv0,h⟩
  exact cast (lvc57_0 _ _ _ _ _ _ _ _).symm (eA (t:=ai) hl0 h (fun ht0 h=>⟨hl0,⟨ht0,⟨h_b,(oG h fun _ h=>(oG h fun _ h=>(oG h fun _ h=>(oL h fun _ _ h=>(oG h fun _ h=>(ee (t:=ai) (fun _ hm=>⟨hc0,hm⟩) _ rfl hl0 ht0 (cD h_columns) trivial h))))))⟩⟩⟩) fun h=>(h trivial))
 ·rw[vc57]
  exact(dz (t:=ai) (fun m hm=>⟨trivial,hm⟩) _ rfl trivial (bB h (fun v0 h hv0=>⟨h_b,⟨p0,(oG h fun _ h=>(oG h fun _ h=>(oL h fun _ _ h=>(oC h (fun _ h=>⟨h_b,⟨p0,(oG h fun _ h=>(oG h fun _ h=>(oL h fun _ _ h=>(oC h (fun _ h=>(oG h fun _ h=>h)) fun _ h=>(oC h (fun _ h=>(oC h (fun _ h=>⟨h_b,⟨p0,(oG h fun _ h=>(oG h fun _ h=>(oL h fun _ _ h=>⟨h_b,⟨p0,(oG h fun _ h=>(oG h fun _ h=>(oL h fun _ _ h=>(oG h fun _ h=>(oG h fun _ h=>h)))))⟩⟩)))⟩⟩) fun _ h=>h)) fun _ h=>⟨h_b,⟨p0,(oG h fun _ h=>(oG h fun _ h=>(oL h fun _ _ h=>⟨h_b,⟨p0,(oG h fun _ h=>(oG h fun _ h=>(oL h fun _ _ h=>⟨h_b,⟨p0,(oG h fun _ h=>(oG h fun _ h=>(oL h fun _ _ h=>(oG h fun _ h=>h))))⟩⟩)))⟩⟩)))⟩⟩)))))⟩⟩) fun _ h=>h))))⟩⟩) (fun _ h=>h.elim)))
def c32:Con:=⟨[.any,.lent ai,.dat bf],fun args hp K=>hpR (fun b p=>uI (fun a0 a1 a2=>mA a0 (gZ ai a1 fun c=>kR bf a2 fun n=>(Sm TBy b)/\(Sm TCS c)/\(M.ak b)/\(0<=p)/\(p<=996000000000000)/\(c.length<=6)/\(n=0)/\(LD (M.jA b p c n) fun r=>K (.own 0 none) [(0,.arr .dp TVS r.1),(1000000,.box [.data TBy b,dI r.2])]))) args []) hp,.plain,true⟩
abbrev C32:Ctx:=cx [(30,c30),(39,c39),(57,c57)] 43 [] 0 true
def ann32:=an [[kp 7],[kp 135],[kp 391],[kp 8583],[kp 391],[kp 8388999],[kp 391],[kp 391],[kp 64]] [[kp 128]]
abbrev s32_0 (b:LI) (p:Int) (c:LC) (n:Int) (v0:Int×Int×(List LV)):St:=⟨[(0,.ptr 1000000 0),(1,.brw ai c),(2,dI n),(7,.own 9 none),(8,dI v0.1)],[(1000000,.box [.data TBy b,dI v0.2.1]),(9,.arr .dp TVS v0.2.2)]⟩
abbrev LP32_0 (b:LI) (p:Int) (c:LC) (n:Int) (m:Nat) (st_:St) (K:KX):Prop:=True/\gb (s32_0 b p c n) (F.fX b p c n) (fun v0:Int×Int×(List LV)=>True) (fun e0:Int×(List LV)=>True->K (.exit 0) (⟨[(7,.own 9 none)],[(1000000,.box [.data TBy b,dI e0.1]),(9,.arr .dp TVS e0.2)]⟩:St)) m st_
def L32 (b:LI) (p:Int) (c:LC) (n:Int):br:=lp1 0 (LP32_0 b p c n)
theorem vc32 (b:LI) (p:Int) (c:LC) (n:Int) (K:KA):vcT C32 (L32 b p c n) ann32 f32 [.ptr 1000000 0,.brw ai c,dI n] [(1000000,.box [.data TBy b,dI p])] .raw K =
 ((Sm TBy b)/\(M.ak b)/\(0<=p)/\(p<=1000000000000000)/\(LD (M.pick b p (7:Int)) fun r1=>(∃m_,True/\gb (s32_0 b p c n) (F.fX b p c n) (fun v0:Int×Int×(List LV)=>True) (fun e0:Int×(List LV)=>True->K (.own 0 none) [(0,.arr .dp TVS e0.2),(1000000,.box [.data TBy b,dI e0.1])]) m_ (s32_0 b p c n (r1.1,r1.2,[]))))):=by kernel_rfl
theorem lvc32_0 (b:LI) (p:Int) (c:LC) (n:Int)  (v0:Int×Int×(List LV)) (m:Nat) (K:KX):lvT C32 (L32 b p c n) ann32 f32 0 0 (s32_0 b p c n v0) m K =
 (cond (decide (Z0<v0.1)) (cond ((decide (Z0<(v0.2.2.length:Int)))==true) ((Sm TBy b)/\(M.ak b)/\(0<=v0.2.1)/\(v0.2.1<=1000000000000000)/\(LD (M.pick b v0.2.1 Z3) fun r2=>cond (decide (r2.1=Z0)) ((Sm TBy b)/\(M.ak b)/\(0<=r2.2)/\(r2.2<=1000000000000000)/\(LD (M.pick b r2.2 (v0.2.2.length:Int)) fun r3=>(0<=r3.1)/\(r3.1<(v0.2.2.length:Int))/\(Sm TVS (nth (t:=TVS) v0.2.2 r3.1))/\(LD (nth (t:=TVS) v0.2.2 r3.1) fun r4=>((v0.2.2.length+[r4].length) * 24<=lim)/\(nxT (LP32_0 b p c n) m K (s32_0 b p c n (wrap64 (v0.1-Z1),r3.2,(v0.2.2++[r4]))))))) ((Sm TBy b)/\(Sm TCS c)/\(M.ak b)/\(0<=r2.2)/\(r2.2<=997000000000000)/\(LD (M.gL b r2.2 c n) fun r5=>((v0.2.2.length+[r5.1].length) * 24<=lim)/\(nxT (LP32_0 b p c n) m K (s32_0 b p c n (wrap64 (v0.1-Z1),r5.2,(v0.2.2++[r5.1])))))))) ((Sm TBy b)/\(Sm TCS c)/\(M.ak b)/\(0<=v0.2.1)/\(v0.2.1<=997000000000000)/\(LD (M.gL b v0.2.1 c n) fun r5=>((v0.2.2.length+[r5.1].length) * 24<=lim)/\(nxT (LP32_0 b p c n) m K (s32_0 b p c n (wrap64 (v0.1-Z1),r5.2,(v0.2.2++[r5.1]))))))) (K (.exit 0) (⟨[(7,.own 9 none)],[(1000000,.box [.data TBy b,dI v0.2.1]),(9,.arr .dp TVS v0.2.2)]⟩:St))):=by kernel_rfl
theorem con32_ok:bL P 32 c32:=bX C32 func32 (kC con30_ok (kC con39_ok (kC con57_ok kN))) fun args hp K h0=>by
 unfold c32 at h0
 dsimp only at h0
 obtain⟨b,p,rfl,h00⟩:=gK h0
 obtain⟨a0,a1,a2,rfl,_,h1⟩:=mM h00
 obtain⟨rfl,h2⟩:=dZ h1
 obtain⟨c,rfl,h3⟩:=bT h2
 obtain⟨n,rfl,h4⟩:=dc h3
 obtain⟨h_b,h_c,p0,p1,p2,p3,p4,hK⟩:=h4
 have h:ok (F.gH b p c n) (fun r=>K (.own 0 none) [(0,.arr .dp TVS r.1),(1000000,.box [.data TBy b,dI r.2])]):=aB (F.qX b p c n h_b h_c p0 p1 p2 p3 p4) (hK _ rfl)
 refine⟨rfl,ann32,(L32 b p c n),.raw,(bF (i0:=0) (by kernel_rfl) ?_),?_⟩
 ·rintro _ _ K ⟨hc0,v0,rfl,hv0,h⟩
  exact cast (lvc32_0 _ _ _ _ _ _ _).symm (ep h (fun m1 hm0 h=>(oC h (fun _ h=>(oC h (fun _ h=>⟨h_b,(oG h fun g1 h=>(oG h fun _ h=>(oG h fun _ h=>(oL h fun _ _ h=>(oC h (fun _ h=>⟨h_b,⟨g1,(oG h fun _ h=>(oG h fun _ h=>(oL h fun _ _ h=>(oG h fun _ h=>(oG h fun _ h=>(oG h fun _ h=>(oL h fun _ _ h=>(oG h fun _ h=>(cI (fun _ hm=>⟨hc0,hm⟩) hm0 _ rfl trivial h)))))))))⟩⟩) fun _ h=>⟨h_b,⟨h_c,⟨g1,(oG h fun _ h=>(oG h fun _ h=>(oL h fun _ _ h=>(oG h fun _ h=>(cI (fun _ hm=>⟨hc0,hm⟩) hm0 _ rfl trivial h)))))⟩⟩⟩)))))⟩) fun _ h=>⟨h_b,⟨h_c,(oG h fun _ h=>(oG h fun _ h=>(oG h fun _ h=>(oL h fun _ _ h=>(oG h fun _ h=>(cI (fun _ hm=>⟨hc0,hm⟩) hm0 _ rfl trivial h))))))⟩⟩)) fun _ h=>((dY h :) trivial))))
 ·rw[vc32]
  exact⟨h_b,⟨p0,⟨p1,(oG h fun _ h=>(oL h fun _ _ h=>(cX (fun m hm=>⟨trivial,hm⟩) _ rfl trivial (jk h (fun e0 h hv0=>h)))))⟩⟩⟩
def c11:Con:=⟨[.any,.dat bf],fun args hp K=>hpR (fun b p=>args2 (fun a0 a1=>mA a0 (kR bf a1 fun n=>(Sm TBy b)/\(M.ak b)/\(0<=p)/\(p<=995000000000000)/\(LD (M.cz b p n) fun r=>K (.own 0 none) [(0,.arr .dp aj r.1),(1000000,.box [.data TBy b,dI r.2])]))) args []) hp,.plain,true⟩
abbrev C11:Ctx:=cx [(30,c30),(31,c31),(32,c32),(33,c33)] 73 [] 0 true
def ann11:=an [[kp 3],[kp 35],[kp 99],[kp 16483],[kp 99],[kp 227],[kp 227],[.fixRow 8 aj,kp 355],[kp 99],[kp 274877906977],[.keep [5,40]],[kp 32],[.keep [5,40,51]],[kp 32],[.keep [5,59]],[kp 32],[kp 16]] [[kp 35]]
abbrev s11_0 (b:LI) (p:Int) (n:Int) (v0:Int×Int×LTb):St:=⟨[(0,.ptr 1000000 0),(1,dI n),(5,.own 9 none),(6,dI v0.1)],[(1000000,.box [.data TBy b,dI v0.2.1]),(9,.arr .dp aj v0.2.2)]⟩
abbrev LP11_0 (b:LI) (p:Int) (n:Int) (m:Nat) (st_:St) (K:KX):Prop:=True/\gb (s11_0 b p n) (F.dS b p n) (fun v0:Int×Int×LTb=>True) (fun e0:Int×LTb=>True->K (.exit 0) (⟨[(0,.ptr 1000000 0),(1,dI n),(5,.own 9 none)],[(1000000,.box [.data TBy b,dI e0.1]),(9,.arr .dp aj e0.2)]⟩:St)) m st_
def L11 (b:LI) (p:Int) (n:Int):br:=lp1 0 (LP11_0 b p n)
theorem vc11 (b:LI) (p:Int) (n:Int) (K:KA):vcT C11 (L11 b p n) ann11 f11 [.ptr 1000000 0,dI n] [(1000000,.box [.data TBy b,dI p])] .raw K =
 ((Sm TBy b)/\(M.ak b)/\(0<=p)/\(p<=1000000000000000)/\(LD (M.pick b p Z3) fun r1=>(∃m_,True/\gb (s11_0 b p n) (F.dS b p n) (fun v0:Int×Int×LTb=>True) (fun e0:Int×LTb=>True->(Sm TBy b)/\(M.ak b)/\(0<=e0.1)/\(e0.1<=999000000000000)/\(LD (M.odd b e0.1 n) fun r2=>cond r2.1 ((Sm TBy b)/\(M.ak b)/\(0<=r2.2)/\(r2.2<=1000000000000000)/\(LD (M.pick b r2.2 Z3) fun r3=>cond (decide (r3.1=Z0)) (((e0.2.length+([([],([],())),([],([],())),([],([],()))]:List aj.D).length) * 48<=lim)/\K (.own 0 none) [(0,.arr .dp aj (e0.2++[([],([],())),([],([],())),([],([],()))])),(1000000,.box [.data TBy b,dI r3.2])]) (cond (decide (r3.1=Z1)) ((0<=Z0)/\(Z0<(e0.2.length:Int))/\(((nT e0.2 Z0).2.1.length+([[((9:Int),(Z0,((⟨#[]⟩:ByteArray),())))]]:List TVS.D).length) * 24<=lim)/\(0<=Z0)/\(Z0<((e0.2.set Z0.toNat ((nT e0.2 Z0).1,([],()))).length:Int))/\(Z0=Z0)/\(let y1:LTb:=((e0.2.set Z0.toNat ((nT e0.2 Z0).1,([],()))).set Z0.toNat ((nT (e0.2.set Z0.toNat ((nT e0.2 Z0).1,([],()))) Z0).1,(((nT e0.2 Z0).2.1++[[((9:Int),(Z0,((⟨#[]⟩:ByteArray),())))]]),())));K (.own 0 none) [(0,.arr .dp aj y1),(1000000,.box [.data TBy b,dI r3.2])])) ((0<=Z0)/\(Z0<(e0.2.length:Int))/\(((nT e0.2 Z0).1.length+[(Z1,(false,()))].length) * 16<=lim)/\(0<=Z0)/\(Z0<((e0.2.set Z0.toNat ([],(nT e0.2 Z0).2)).length:Int))/\(Z0=Z0)/\(let y2:LTb:=((e0.2.set Z0.toNat ([],(nT e0.2 Z0).2)).set Z0.toNat (((nT e0.2 Z0).1++[(Z1,(false,()))]),(nT (e0.2.set Z0.toNat ([],(nT e0.2 Z0).2)) Z0).2));K (.own 0 none) [(0,.arr .dp aj y2),(1000000,.box [.data TBy b,dI r3.2])]))))) (K (.own 0 none) [(0,.arr .dp aj e0.2),(1000000,.box [.data TBy b,dI r2.2])]))) m_ (s11_0 b p n (wrap64 (Z1+r1.1),r1.2,[]))))):=by kernel_rfl
theorem lvc11_0 (b:LI) (p:Int) (n:Int)  (v0:Int×Int×LTb) (m:Nat) (K:KX):lvT C11 (L11 b p n) ann11 f11 0 0 (s11_0 b p n v0) m K =
 (cond (decide (Z0<v0.1)) ((Sm TBy b)/\(M.ak b)/\(0<=v0.2.1)/\(v0.2.1<=998000000000000)/\(LD (M.dA b v0.2.1 Z0) fun r4=>(Sm TBy b)/\(M.ak b)/\(0<=r4.2)/\(r4.2<=1000000000000000)/\(LD (M.pick b r4.2 Z2) fun r5=>((r4.1.length:Int)≠0)/\(0<=Z0)/\(Z0<=wrap64 (Z1+(r5.1.tmod (r4.1.length:Int))))/\(wrap64 (Z1+(r5.1.tmod (r4.1.length:Int)))<=(r4.1.length:Int))/\(wrap64 (Z1+(r5.1.tmod (r4.1.length:Int)))=wrap64 (Z1+(r5.1.tmod (r4.1.length:Int))))/\(Sm TBy b)/\(Sm TCS (ax r4.1 (some (Z0,wrap64 (Z1+(r5.1.tmod (r4.1.length:Int)))))))/\(M.ak b)/\(0<=r5.2)/\(r5.2<=996000000000000)/\((ax r4.1 (some (Z0,wrap64 (Z1+(r5.1.tmod (r4.1.length:Int)))))).length<=6)/\(Z0=0)/\(LD (M.jA b r5.2 (ax r4.1 (some (Z0,wrap64 (Z1+(r5.1.tmod (r4.1.length:Int)))))) Z0) fun r6=>((v0.2.2.length+[((ax r4.1 (some (Z0,wrap64 (Z1+(r5.1.tmod (r4.1.length:Int)))))),(r6.1,()))].length) * 48<=lim)/\(nxT (LP11_0 b p n) m K (s11_0 b p n (wrap64 (v0.1-Z1),r6.2,(v0.2.2++[((ax r4.1 (some (Z0,wrap64 (Z1+(r5.1.tmod (r4.1.length:Int)))))),(r6.1,()))])))))))) (K (.exit 0) (⟨[(0,.ptr 1000000 0),(1,dI n),(5,.own 9 none)],[(1000000,.box [.data TBy b,dI v0.2.1]),(9,.arr .dp aj v0.2.2)]⟩:St))):=by kernel_rfl
theorem con11_ok:bL P 11 c11:=bX C11 func11 (kC con30_ok (kC con31_ok (kC con32_ok (kC con33_ok kN)))) fun args hp K h0=>by
 unfold c11 at h0
 dsimp only at h0
 obtain⟨b,p,rfl,h00⟩:=gK h0
 obtain⟨a0,a1,rfl,_,h1⟩:=bp h00
 obtain⟨rfl,h2⟩:=dZ h1
 obtain⟨n,rfl,h3⟩:=dc h2
 obtain⟨h_b,p0,p1,p2,hK⟩:=h3
 have h:ok (F.eG b p n) (fun r=>K (.own 0 none) [(0,.arr .dp aj r.1),(1000000,.box [.data TBy b,dI r.2])]):=aB (F.oM b p n h_b p0 p1 p2) (hK _ rfl)
 refine⟨rfl,ann11,(L11 b p n),.raw,(bF (i0:=0) (by kernel_rfl) ?_),?_⟩
 ·rintro _ _ K ⟨hc0,v0,rfl,hv0,h⟩
  exact cast (lvc11_0 _ _ _ _ _ _).symm (ep h (fun m1 hm0 h=>(oC h (fun _ h=>⟨h_b,(oG h fun g1 h=>(oG h fun _ h=>(oG h fun _ h=>(oL h fun _ _ h=>⟨h_b,⟨g1,(oG h fun _ h=>(oG h fun _ h=>(oL h fun _ _ h=>(oG h fun _ h=>⟨(Int.natCast_nonneg 0),(oG h fun _ h=>(oG h fun _ h=>⟨rfl,⟨h_b,(oG h fun _ h=>⟨g1,(oG h fun _ h=>(oG h fun _ h=>(oG h fun _ h=>(oG h fun _ h=>(oL h fun _ _ h=>(oG h fun _ h=>(cI (fun _ hm=>⟨hc0,hm⟩) hm0 _ rfl trivial h)))))))⟩)⟩⟩))⟩))))⟩⟩))))⟩) fun _ h=>((dY h :) trivial))))
 ·rw[vc11]
  exact⟨h_b,⟨p0,⟨p1,(oG h fun _ h=>(oL h fun _ _ h=>(cX (fun m hm=>⟨trivial,hm⟩) _ rfl trivial (jk h (fun e0 h hv0=>⟨h_b,⟨p0,(oG h fun _ h=>(oG h fun _ h=>(oL h fun _ _ h=>(oC h (fun _ h=>⟨h_b,⟨p0,(oG h fun _ h=>(oG h fun _ h=>(oL h fun _ _ h=>(oC h (fun _ h=>(oG h fun _ h=>h)) fun _ h=>(oC h (fun _ h=>⟨(Int.natCast_nonneg 0),(oG h fun _ h=>(oG h fun _ h=>⟨(Int.natCast_nonneg 0),(oG h fun _ h=>⟨rfl,(have h:=cF h _ rfl;h)⟩)⟩))⟩) fun _ h=>⟨(Int.natCast_nonneg 0),(oG h fun _ h=>(oG h fun _ h=>⟨(Int.natCast_nonneg 0),(oG h fun _ h=>⟨rfl,(have h:=cF h _ rfl;h)⟩)⟩))⟩)))))⟩⟩) fun _ h=>h))))⟩⟩)))))⟩⟩⟩
abbrev C12:Ctx:=cx [] 11 [] 200000 false
def T12:Inl:=sF C12 (fun _=>[]) (cP f12) f12.results.toList
theorem inlOk12:ua P 12 T12:=xX C12 func12 kN
def c4:Con:=⟨[.dat TBy],fun args hp K=>g1 (pD TBy) (fun code=>(Sm TBy code)/\(M.ak code)/\(LD (M.cT code) fun r=>K (.data TTb r) [])) args hp,.plain,false⟩
abbrev C4:Ctx:=cx [(11,c11)] 6 [(12,T12)] 0 false
def ann4:=an [[kp 1],[.weak 5,kp 4]] []
theorem vc4 (code:LI) (K:KA):vcT C4 aC ann4 f4 [.data TBy code] [] (.dat TTb) K =
 (cond (decide ((2000:Int)<(code.length:Int))) ((0<=Z0)/\(Z0<=(2000:Int))/\((2000:Int)<=(code.length:Int))/\((2000:Int)=(2000:Int))/\(Sm TBy (ax code (some (Z0,(2000:Int)))))/\(M.ak (ax code (some (Z0,(2000:Int)))))/\(0<=Z0)/\(Z0<=995000000000000)/\(LD (M.cz (ax code (some (Z0,(2000:Int)))) Z0 Z6) fun r1=>K (.data TTb r1.1) [])) ((Sm TBy code)/\(M.ak code)/\(0<=Z0)/\(Z0<=995000000000000)/\(LD (M.cz code Z0 Z6) fun r1=>K (.data TTb r1.1) []))):=by kernel_rfl
theorem con4_ok:bL P 4 c4:=bX C4 func4 (kC con11_ok (kI inlOk12 kN)) fun args hp K h0=>by
 obtain⟨code,rfl,rfl,h_code,p0,hK⟩:=g1e h0
 have h:ok (F.cW code) (fun r=>K (.data TTb r) []):=aB (F.lN code h_code p0) (hK _ rfl)
 refine⟨rfl,ann4,aC,(.dat TTb),(aQ (by kernel_rfl)),?_⟩
 ·rw[vc4]
  exact(oC h (fun _ h=>⟨(Int.natCast_nonneg 0),(oG h fun _ h=>(oG h fun _ h=>⟨rfl,⟨(wg h_code _),(oG h fun _ h=>(oG h fun _ h=>(oG h fun _ h=>(oL h fun _ _ h=>h))))⟩⟩))⟩) fun _ h=>⟨h_code,⟨p0,(oG h fun _ h=>(oG h fun _ h=>(oL h fun _ _ h=>h)))⟩⟩)
def c26:Con:=⟨[.dat bf,.dat bf,.dat bf],fun args hp K=>g3 (pD bf) (pD bf) (pD bf) (fun n low high=>K (dB (M.inR n low high)) []) args hp,.plain,false⟩
abbrev C26:Ctx:=cx [] 15 [] 0 false
def ann26:=an [[kp 7],[kp 64]] []
theorem vc26 (n:Int) (low:Int) (high:Int) (K:KA):vcT C26 aC ann26 f26 [dI n,dI low,dI high] [] (.dat Ty.bool) K =
 (cond ((decide (low<=n))==true) (K (dB (decide (n<=high))) []) (K (dB false) [])):=by kernel_rfl
theorem con26_ok:bL P 26 c26:=bX C26 func26 kN fun args hp K h0=>by
 obtain⟨n,low,high,rfl,rfl,hK⟩:=g3e h0
 have h:ok (F.ke n low high) (fun r=>K (dB r) []):=aB (F.qA n low high) hK
 refine⟨rfl,ann26,aC,(.dat Ty.bool),(aQ (by kernel_rfl)),?_⟩
 ·rw[vc26]
  exact(oC h (fun _ h=>h) fun _ h=>h)
def c42:Con:=⟨[.dat ai],fun args hp K=>g1 (pD ai) (fun c=>K (dB (!M.cE c)) []) args hp,.plain,false⟩
abbrev C42:Ctx:=cx [(26,c26)] 7 [] 0 false
def ann42:=an [[.fixRow 1 ai,kp 2],[kp 4]] []
theorem vc42 (c:ai.D) (K:KA):vcT C42 aC ann42 f42 [.data ai c] [] (.dat Ty.bool) K =
 (K (dB (!(M.inR c.1 Z1 Z3))) []):=by kernel_rfl
theorem con42_ok:bL P 42 c42:=bX C42 func42 (kC con26_ok kN) fun args hp K h0=>by
 obtain⟨c,rfl,rfl,hK⟩:=g1e h0
 have h:ok (F.jO c) (fun r=>K (dB r) []):=aB (F.mz c) hK
 refine⟨rfl,ann42,aC,(.dat Ty.bool),(aQ (by kernel_rfl)),?_⟩
 ·rw[vc42]
  exact h
def c62:Con:=⟨[.lent ai,.any],fun args hp K=>args2 (fun a0 a1=>gZ ai a0 fun xs=>kM 42 a1 (mC ((Sm TCS xs)/\K (dI (M.idx (t:=ai) (fun e=>!M.cE e) xs)) []))) args hp,.plain,false⟩
abbrev C62:Ctx:=cx [(42,c42)] 19 [] 0 false
def ann62:=an [[kp 3],[kp 387],[kp 899],[kp 419],[kp 65955],[kp 16],[kp 387],[kp 16]] [[kp 0]]
abbrev s62_0 (xs:LC) (i0:Int) (v0:Unit):St:=⟨[(0,.brw ai xs),(1,.fn 42 []),(7,dI (xs.length:Int)),(8,dI i0)],[]⟩
abbrev LP62_0 (xs:LC) (m:Nat) (st_:St) (K:KX):Prop:=True/\cA (s62_0 xs) Z0 (xs.length:Int) (F.bE xs) (fun v0:Unit=>True) (bO (fun v0:Unit=>True->K (.exit 0) (⟨[],[]⟩:St)) (fun q0:Int=>K .ret (⟨[(4,dI q0)],[]⟩:St))) m st_
def L62 (xs:LC):br:=lp1 0 (LP62_0 xs)
theorem vc62 (xs:LC) (K:KA):vcT C62 (L62 xs) ann62 f62 [.brw ai xs,.fn 42 []] [] (.dat bf) K =
 (∃m_,True/\cA (s62_0 xs) Z0 (xs.length:Int) (F.bE xs) (fun v0:Unit=>True) (bO (fun v0:Unit=>True->K (dI (-1:Int)) []) (fun q0:Int=>K (dI q0) [])) m_ (s62_0 xs Z0 ())):=by kernel_rfl
theorem lvc62_0 (xs:LC)  (i0:Int) (v0:Unit) (m:Nat) (K:KX):lvT C62 (L62 xs) ann62 f62 0 0 (s62_0 xs i0 v0) m K =
 (cond (decide (i0<(xs.length:Int))) ((0<=i0)/\(i0<(xs.length:Int))/\cond (!M.cE (nC xs i0)) (K .ret (⟨[(4,dI i0)],[]⟩:St)) (nxT (LP62_0 xs) m K (s62_0 xs (wrap64 (i0+Z1)) ()))) (K (.exit 0) (⟨[],[]⟩:St))):=by kernel_rfl
theorem con62_ok:bL P 62 c62:=bX C62 func62 (kC con42_ok kN) fun args hp K h0=>by
 obtain⟨a0,a1,rfl,rfl,h1⟩:=bp h0
 obtain⟨xs,rfl,h2⟩:=bT h1
 obtain⟨cs1,rfl,h3⟩:=cZ h2
 obtain⟨rfl,h4⟩:=ez h3
 obtain⟨h_xs,hK⟩:=h4
 have h:ok (F.eF xs) (fun r=>K (dI r) []):=aB (F.gG xs h_xs) hK
 refine⟨rfl,ann62,(L62 xs),(.dat bf),(bF (i0:=0) (by kernel_rfl) ?_),?_⟩
 ·rintro _ _ K ⟨hc0,i0,v0,rfl,hl0,rfl,hv0,h⟩
  exact cast (lvc62_0 _ _ _ _ _).symm (bC h (fun ht0 h=>⟨hl0,⟨ht0,(oC h (fun _ h=>h) fun _ h=>(bg (fun _ hm=>⟨hc0,hm⟩) _ rfl hl0 kU ht0 (cD h_xs) trivial h))⟩⟩) fun h=>(h trivial))
 ·rw[vc62]
  exact(aZ (fun m hm=>⟨trivial,hm⟩) Z0 _ rfl (Int.natCast_nonneg 0) trivial (bB h (fun v0 h hv0=>h) (fun q0 h=>h)))
def c41:Con:=⟨[.lent ai,.any],fun args hp K=>args2 (fun a0 a1=>gZ ai a0 fun xs=>kM 42 a1 (mC ((Sm TCS xs)/\K (dB (List.any xs (fun e=>!M.cE e))) []))) args hp,.plain,false⟩
abbrev C41:Ctx:=cx [(42,c42),(62,c62)] 9 [] 0 false
def ann41:=an [[kp 3],[kp 16]] []
theorem vc41 (xs:LC) (K:KA):vcT C41 aC ann41 f41 [.brw ai xs,.fn 42 []] [] (.dat Ty.bool) K =
 ((Sm TCS xs)/\K (dB (decide (Z0<=(M.idx (t:=ai) (fun e=>!M.cE e) xs)))) []):=by kernel_rfl
theorem con41_ok:bL P 41 c41:=bX C41 func41 (kC con42_ok (kC con62_ok kN)) fun args hp K h0=>by
 obtain⟨a0,a1,rfl,rfl,h1⟩:=bp h0
 obtain⟨xs,rfl,h2⟩:=bT h1
 obtain⟨cs1,rfl,h3⟩:=cZ h2
 obtain⟨rfl,h4⟩:=ez h3
 obtain⟨h_xs,hK⟩:=h4
 have h:ok (F.cw xs) (fun r=>K (dB r) []):=aB (F.fT xs h_xs) hK
 refine⟨rfl,ann41,aC,(.dat Ty.bool),(aQ (by kernel_rfl)),?_⟩
 ·rw[vc41]
  exact⟨h_xs,h⟩
def c22:Con:=⟨[.dat TCS],fun args hp K=>g1 (pD TCS) (fun columns=>(Sm TCS columns)/\K (dB (M.aW columns)) []) args hp,.plain,false⟩
abbrev C22:Ctx:=cx [(41,c41)] 11 [] 0 false
def ann22:=an [[kp 1],[kp 4]] []
theorem vc22 (columns:LC) (K:KA):vcT C22 aC ann22 f22 [.data TCS columns] [] (.dat Ty.bool) K =
 (cond ((decide ((columns.length:Int)<=Z4))==true) ((Sm TCS columns)/\K (dB (!(List.any columns (fun e=>!M.cE e)))) []) (K (dB false) [])):=by kernel_rfl
theorem con22_ok:bL P 22 c22:=bX C22 func22 (kC con41_ok kN) fun args hp K h0=>by
 obtain⟨columns,rfl,rfl,h_columns,hK⟩:=g1e h0
 have h:ok (F.iL columns) (fun r=>K (dB r) []):=aB (F.nZ columns h_columns) hK
 refine⟨rfl,ann22,aC,(.dat Ty.bool),(aQ (by kernel_rfl)),?_⟩
 ·rw[vc22]
  exact(oC h (fun _ h=>⟨h_columns,h⟩) fun _ h=>h)
def c71:Con:=⟨[.dat Ty.str],fun args hp K=>g1 (pD Ty.str) (fun s=>(Sm Ty.str s)/\K (dB (M.lower (aP s))) []) args hp,.plain,false⟩
abbrev C71:Ctx:=cx [(26,c26)] 17 [] 0 false
def ann71:=an [[kp 1],[kp 448],[kp 960],[kp 464],[kp 33216],[kp 4],[kp 448],[kp 4]] [[kp 0]]
abbrev s71_0 (s:ByteArray) (i0:Int) (v0:Unit):St:=⟨[(6,.data TBy (aP s)),(7,dI ((aP s).length:Int)),(8,dI i0)],[]⟩
abbrev LP71_0 (s:ByteArray) (m:Nat) (st_:St) (K:KX):Prop:=True/\ga (t:=(Ty.int .u8)) (s71_0 s) (aP s) (F.fo s) (fun v0:Unit=>True) (bO (fun v0:Unit=>True->K (.exit 0) (⟨[],[]⟩:St)) (fun q0:Unit=>K .ret (⟨[(2,dB false)],[]⟩:St))) m st_
def L71 (s:ByteArray):br:=lp1 0 (LP71_0 s)
theorem vc71 (s:ByteArray) (K:KA):vcT C71 (L71 s) ann71 f71 [.data Ty.str s] [] (.dat Ty.bool) K =
 (∃m_,True/\ga (t:=(Ty.int .u8)) (s71_0 s) (aP s) (F.fo s) (fun v0:Unit=>True) (bO (fun v0:Unit=>True->K (dB true) []) (fun q0:Unit=>K (dB false) [])) m_ (s71_0 s Z0 ())):=by kernel_rfl
theorem lvc71_0 (s:ByteArray)  (i0:Int) (v0:Unit) (m:Nat) (K:KX):lvT C71 (L71 s) ann71 f71 0 0 (s71_0 s i0 v0) m K =
 (cond (decide (i0<((aP s).length:Int))) ((0<=i0)/\(i0<((aP s).length:Int))/\cond (!(M.inR (wrap64 (nth (t:=(Ty.int .u8)) (aP s) i0)) (97:Int) (122:Int))) (K .ret (⟨[(2,dB false)],[]⟩:St)) (nxT (LP71_0 s) m K (s71_0 s (wrap64 (i0+Z1)) ()))) (K (.exit 0) (⟨[],[]⟩:St))):=by kernel_rfl
theorem con71_ok:bL P 71 c71:=bX C71 func71 (kC con26_ok kN) fun args hp K h0=>by
 obtain⟨s,rfl,rfl,h_s,hK⟩:=g1e h0
 have h:ok (F.kD s) (fun r=>K (dB r) []):=aB (F.qF s h_s) hK
 refine⟨rfl,ann71,(L71 s),(.dat Ty.bool),(bF (i0:=0) (by kernel_rfl) ?_),?_⟩
 ·rintro _ _ K ⟨hc0,i0,v0,rfl,hl0,rfl,hv0,h⟩
  exact cast (lvc71_0 _ _ _ _ _).symm (eA (t:=(Ty.int .u8)) hl0 h (fun ht0 h=>⟨hl0,⟨ht0,(oC h (fun _ h=>h) fun _ h=>(ee (t:=(Ty.int .u8)) (fun _ hm=>⟨hc0,hm⟩) _ rfl hl0 ht0 (cD (yO h_s)) trivial h))⟩⟩) fun h=>(h trivial))
 ·rw[vc71]
  exact(dz (t:=(Ty.int .u8)) (fun m hm=>⟨trivial,hm⟩) _ rfl trivial (bB h (fun v0 h hv0=>h) (fun q0 h=>h)))
def c56:Con:=⟨[.dat ag],fun args hp K=>g1 (pD ag) (fun v=>(Sm ag v)/\K (dB (M.aK v)) []) args hp,.plain,false⟩
abbrev C56:Ctx:=cx [(26,c26),(71,c71)] 46 [] 0 false
def ann56:=an [[.fixRow 1 ag,kp 2],[kp 18],[kp 50],[kp 4],[kp 1042],[kp 4],[kp 1048594],[kp 4],[.keep [1,36]],[kp 4],[kp 4]] []
theorem vc56 (v:ag.D) (K:KA):vcT C56 aC ann56 f56 [.data ag v] [] (.dat Ty.bool) K =
 (cond (decide (v.1=Z0)) (K (dB (Ty.beq ag v (Z0,(Z0,((⟨#[]⟩:ByteArray),()))))) []) (cond (decide (v.1=Z1)) (cond ((decide (v.2.2.1=(⟨#[]⟩:ByteArray)))==true) (K (dB (M.inR v.2.1 (-9999:Int) (9999:Int))) []) (K (dB false) [])) (cond (decide (v.1=Z2)) (cond ((decide (v.2.1=Z0))==true) (cond ((decide ((v.2.2.1.size:Int)<=Z6))==true) ((Sm Ty.str v.2.2.1)/\K (dB (M.lower (aP v.2.2.1))) []) (K (dB false) [])) (K (dB false) [])) (cond (decide (v.1=Z3)) (cond ((decide (v.2.2.1=(⟨#[]⟩:ByteArray)))==true) (K (dB (M.inR v.2.1 Z0 Z1)) []) (K (dB false) [])) (K (dB false) []))))):=by kernel_rfl
theorem con56_ok:bL P 56 c56:=bX C56 func56 (kC con26_ok (kC con71_ok kN)) fun args hp K h0=>by
 obtain⟨v,rfl,rfl,h_v,hK⟩:=g1e h0
 have h:ok (F.jz v) (fun r=>K (dB r) []):=aB (F.pF v h_v) hK
 refine⟨rfl,ann56,aC,(.dat Ty.bool),(aQ (by kernel_rfl)),?_⟩
 ·rw[vc56]
  exact(oC h (fun _ h=>h) fun _ h=>(oC h (fun _ h=>(oC h (fun _ h=>h) fun _ h=>h)) fun _ h=>(oC h (fun _ h=>(oC h (fun _ h=>(oC h (fun _ h=>⟨h_v.2.2.1,h⟩) fun _ h=>h)) fun _ h=>h)) fun _ h=>(oC h (fun _ h=>(oC h (fun _ h=>h) fun _ h=>h)) fun _ h=>h))))
def c80:Con:=⟨[.dat ag],fun args hp K=>g1 (pD ag) (fun v=>(Sm ag v)/\K (dB (!M.aK v)) []) args hp,.plain,false⟩
abbrev C80:Ctx:=cx [(56,c56)] 6 [] 0 false
def ann80:=an [[.fixRow 1 ag,kp 2],[kp 4]] []
theorem vc80 (v:ag.D) (K:KA):vcT C80 aC ann80 f80 [.data ag v] [] (.dat Ty.bool) K =
 ((Sm ag v)/\K (dB (!(M.aK v))) []):=by kernel_rfl
theorem con80_ok:bL P 80 c80:=bX C80 func80 (kC con56_ok kN) fun args hp K h0=>by
 obtain⟨v,rfl,rfl,h_v,hK⟩:=g1e h0
 have h:ok (F.nH v) (fun r=>K (dB r) []):=aB (F.qw v h_v) hK
 refine⟨rfl,ann80,aC,(.dat Ty.bool),(aQ (by kernel_rfl)),?_⟩
 ·rw[vc80]
  exact⟨h_v,h⟩
def c94:Con:=⟨[.lent ag,.any],fun args hp K=>args2 (fun a0 a1=>gZ ag a0 fun xs=>kM 80 a1 (mC ((Sm TVS xs)/\K (dI (M.idx (t:=ag) (fun e=>!M.aK e) xs)) []))) args hp,.plain,false⟩
abbrev C94:Ctx:=cx [(80,c80)] 19 [] 0 false
def ann94:=an [[kp 3],[kp 387],[kp 899],[kp 419],[kp 65955],[kp 16],[kp 387],[kp 16]] [[kp 0]]
abbrev s94_0 (xs:LV) (i0:Int) (v0:Unit):St:=⟨[(0,.brw ag xs),(1,.fn 80 []),(7,dI (xs.length:Int)),(8,dI i0)],[]⟩
abbrev LP94_0 (xs:LV) (m:Nat) (st_:St) (K:KX):Prop:=True/\cA (s94_0 xs) Z0 (xs.length:Int) (F.bY xs) (fun v0:Unit=>True) (bO (fun v0:Unit=>True->K (.exit 0) (⟨[],[]⟩:St)) (fun q0:Int=>K .ret (⟨[(4,dI q0)],[]⟩:St))) m st_
def L94 (xs:LV):br:=lp1 0 (LP94_0 xs)
theorem vc94 (xs:LV) (K:KA):vcT C94 (L94 xs) ann94 f94 [.brw ag xs,.fn 80 []] [] (.dat bf) K =
 (∃m_,True/\cA (s94_0 xs) Z0 (xs.length:Int) (F.bY xs) (fun v0:Unit=>True) (bO (fun v0:Unit=>True->K (dI (-1:Int)) []) (fun q0:Int=>K (dI q0) [])) m_ (s94_0 xs Z0 ())):=by kernel_rfl
theorem lvc94_0 (xs:LV)  (i0:Int) (v0:Unit) (m:Nat) (K:KX):lvT C94 (L94 xs) ann94 f94 0 0 (s94_0 xs i0 v0) m K =
 (cond (decide (i0<(xs.length:Int))) ((0<=i0)/\(i0<(xs.length:Int))/\(Sm ag (nV xs i0))/\cond (!M.aK (nV xs i0)) (K .ret (⟨[(4,dI i0)],[]⟩:St)) (nxT (LP94_0 xs) m K (s94_0 xs (wrap64 (i0+Z1)) ()))) (K (.exit 0) (⟨[],[]⟩:St))):=by kernel_rfl
theorem con94_ok:bL P 94 c94:=bX C94 func94 (kC con80_ok kN) fun args hp K h0=>by
 obtain⟨a0,a1,rfl,rfl,h1⟩:=bp h0
 obtain⟨xs,rfl,h2⟩:=bT h1
 obtain⟨cs1,rfl,h3⟩:=cZ h2
 obtain⟨rfl,h4⟩:=ez h3
 obtain⟨h_xs,hK⟩:=h4
 have h:ok (F.fP xs) (fun r=>K (dI r) []):=aB (F.iY xs h_xs) hK
 refine⟨rfl,ann94,(L94 xs),(.dat bf),(bF (i0:=0) (by kernel_rfl) ?_),?_⟩
 ·rintro _ _ K ⟨hc0,i0,v0,rfl,hl0,rfl,hv0,h⟩
  exact cast (lvc94_0 _ _ _ _ _).symm (bC h (fun ht0 h=>⟨hl0,⟨ht0,⟨(bW h_xs i0),(oC h (fun _ h=>h) fun _ h=>(bg (fun _ hm=>⟨hc0,hm⟩) _ rfl hl0 kU ht0 (cD h_xs) trivial h))⟩⟩⟩) fun h=>(h trivial))
 ·rw[vc94]
  exact(aZ (fun m hm=>⟨trivial,hm⟩) Z0 _ rfl (Int.natCast_nonneg 0) trivial (bB h (fun v0 h hv0=>h) (fun q0 h=>h)))
def c79:Con:=⟨[.lent ag,.any],fun args hp K=>args2 (fun a0 a1=>gZ ag a0 fun xs=>kM 80 a1 (mC ((Sm TVS xs)/\K (dB (List.any xs (fun e=>!M.aK e))) []))) args hp,.plain,false⟩
abbrev C79:Ctx:=cx [(80,c80),(94,c94)] 9 [] 0 false
def ann79:=an [[kp 3],[kp 16]] []
theorem vc79 (xs:LV) (K:KA):vcT C79 aC ann79 f79 [.brw ag xs,.fn 80 []] [] (.dat Ty.bool) K =
 ((Sm TVS xs)/\K (dB (decide (Z0<=(M.idx (t:=ag) (fun e=>!M.aK e) xs)))) []):=by kernel_rfl
theorem con79_ok:bL P 79 c79:=bX C79 func79 (kC con80_ok (kC con94_ok kN)) fun args hp K h0=>by
 obtain⟨a0,a1,rfl,rfl,h1⟩:=bp h0
 obtain⟨xs,rfl,h2⟩:=bT h1
 obtain⟨cs1,rfl,h3⟩:=cZ h2
 obtain⟨rfl,h4⟩:=ez h3
 obtain⟨h_xs,hK⟩:=h4
 have h:ok (F.cO xs) (fun r=>K (dB r) []):=aB (F.gU xs h_xs) hK
 refine⟨rfl,ann79,aC,(.dat Ty.bool),(aQ (by kernel_rfl)),?_⟩
 ·rw[vc79]
  exact⟨h_xs,h⟩
def c64:Con:=⟨[.dat TVS],fun args hp K=>g1 (pD TVS) (fun row=>(Sm TVS row)/\K (dB (M.jL row)) []) args hp,.plain,false⟩
abbrev C64:Ctx:=cx [(79,c79)] 11 [] 0 false
def ann64:=an [[kp 1],[kp 4]] []
theorem vc64 (row:LV) (K:KA):vcT C64 aC ann64 f64 [.data TVS row] [] (.dat Ty.bool) K =
 (cond ((decide ((row.length:Int)<=Z4))==true) ((Sm TVS row)/\K (dB (!(List.any row (fun e=>!M.aK e)))) []) (K (dB false) [])):=by kernel_rfl
theorem con64_ok:bL P 64 c64:=bX C64 func64 (kC con79_ok kN) fun args hp K h0=>by
 obtain⟨row,rfl,rfl,h_row,hK⟩:=g1e h0
 have h:ok (F.nj row) (fun r=>K (dB r) []):=aB (F.sR row h_row) hK
 refine⟨rfl,ann64,aC,(.dat Ty.bool),(aQ (by kernel_rfl)),?_⟩
 ·rw[vc64]
  exact(oC h (fun _ h=>⟨h_row,h⟩) fun _ h=>h)
def c45:Con:=⟨[.dat TCS,.dat TVS],fun args hp K=>g2 (pD TCS) (pD TVS) (fun columns row=>(Sm TCS columns)/\(Sm TVS row)/\K (dB (M.bD columns row)) []) args hp,.plain,false⟩
abbrev C45:Ctx:=cx [(22,c22),(64,c64)] 51 [] 0 false
def ann45:=an [[kp 3],[kp 2097155],[kp 16],[kp 29360129],[kp 62914561],[.fixRow 6 ag,kp 29360225],[kp 562949982781441],[kp 16],[kp 29360129],[kp 16]] [[kp 0]]
abbrev s45_0 (columns:LC) (row:LV) (i0:Int) (v0:Unit):St:=⟨[(0,.data TCS columns),(22,.data TVS row),(23,dI (row.length:Int)),(24,dI i0)],[]⟩
abbrev LP45_0 (columns:LC) (row:LV) (m:Nat) (st_:St) (K:KX):Prop:=True/\cA (s45_0 columns row) Z0 (row.length:Int) (F.fm columns row) (fun v0:Unit=>True) (bO (fun v0:Unit=>True->K (.exit 0) (⟨[],[]⟩:St)) (fun q0:Unit=>K .ret (⟨[(4,dB false)],[]⟩:St))) m st_
def L45 (columns:LC) (row:LV):br:=lp1 0 (LP45_0 columns row)
theorem vc45 (columns:LC) (row:LV) (K:KA):vcT C45 (L45 columns row) ann45 f45 [.data TCS columns,.data TVS row] [] (.dat Ty.bool) K =
 ((Sm TCS columns)/\cond ((!(M.aW columns))==false) ((Sm TVS row)/\cond ((!(M.jL row))==false) (cond (!decide ((row.length:Int)=(columns.length:Int))) (K (dB false) []) (∃m_,True/\cA (s45_0 columns row) Z0 (row.length:Int) (F.fm columns row) (fun v0:Unit=>True) (bO (fun v0:Unit=>True->K (dB true) []) (fun q0:Unit=>K (dB false) [])) m_ (s45_0 columns row Z0 ()))) (K (dB false) [])) (K (dB false) [])):=by kernel_rfl
theorem lvc45_0 (columns:LC) (row:LV)  (i0:Int) (v0:Unit) (m:Nat) (K:KX):lvT C45 (L45 columns row) ann45 f45 0 0 (s45_0 columns row i0 v0) m K =
 (cond (decide (i0<(row.length:Int))) ((0<=i0)/\(i0<(row.length:Int))/\(0<=i0)/\(i0<(columns.length:Int))/\cond ((!decide ((nV row i0).1=(nC columns i0).1))==true) (cond ((!decide ((nV row i0).1=Z0))==false) ((0<=i0)/\(i0<(columns.length:Int))/\cond (!(nC columns i0).2.1) (K .ret (⟨[(4,dB false)],[]⟩:St)) (nxT (LP45_0 columns row) m K (s45_0 columns row (wrap64 (i0+Z1)) ()))) (K .ret (⟨[(4,dB false)],[]⟩:St))) (nxT (LP45_0 columns row) m K (s45_0 columns row (wrap64 (i0+Z1)) ()))) (K (.exit 0) (⟨[],[]⟩:St))):=by kernel_rfl
theorem con45_ok:bL P 45 c45:=bX C45 func45 (kC con22_ok (kC con64_ok kN)) fun args hp K h0=>by
 obtain⟨columns,row,rfl,rfl,h_columns,h_row,hK⟩:=g2e h0
 have h:ok (F.jX columns row) (fun r=>K (dB r) []):=aB (F.qJ columns row h_columns h_row) hK
 refine⟨rfl,ann45,(L45 columns row),(.dat Ty.bool),(bF (i0:=0) (by kernel_rfl) ?_),?_⟩
 ·rintro _ _ K ⟨hc0,i0,v0,rfl,hl0,rfl,hv0,h⟩
  exact cast (lvc45_0 _ _ _ _ _ _).symm (bC h (fun ht0 h=>⟨hl0,⟨ht0,⟨hl0,(oG h fun g1 h=>(oC h (fun _ h=>(oC h (fun _ h=>⟨hl0,⟨g1,(oC h (fun _ h=>h) fun _ h=>(bg (fun _ hm=>⟨hc0,hm⟩) _ rfl hl0 kU ht0 (cD h_row) trivial h))⟩⟩) fun _ h=>h)) fun _ h=>(bg (fun _ hm=>⟨hc0,hm⟩) _ rfl hl0 kU ht0 (cD h_row) trivial h)))⟩⟩⟩) fun h=>(h trivial))
 ·rw[vc45]
  exact⟨h_columns,(oC h (fun _ h=>⟨h_row,(oC h (fun _ h=>(oC h (fun _ h=>h) fun _ h=>(aZ (fun m hm=>⟨trivial,hm⟩) Z0 _ rfl (Int.natCast_nonneg 0) trivial (bB h (fun v0 h hv0=>h) (fun q0 h=>h))))) fun _ h=>h)⟩) fun _ h=>h)⟩
def c44:Con:=⟨[.dat TVS,.any],fun args hp K=>g2 (pD TVS) (pR TCS) (fun r columns=>(Sm TVS r)/\(Sm TCS columns)/\K (dB (!M.bD columns r)) []) args hp,.plain,false⟩
abbrev C44:Ctx:=cx [(45,c45)] 8 [] 0 false
def ann44:=an [[kp 3],[kp 8]] []
theorem vc44 (r:LV) (columns:LC) (K:KA):vcT C44 aC ann44 f44 [.data TVS r,.ref (.data TCS columns)] [] (.dat Ty.bool) K =
 ((Sm TCS columns)/\(Sm TVS r)/\K (dB (!(M.bD columns r))) []):=by kernel_rfl
theorem con44_ok:bL P 44 c44:=bX C44 func44 (kC con45_ok kN) fun args hp K h0=>by
 obtain⟨r,columns,rfl,rfl,h_r,h_columns,hK⟩:=g2e h0
 have h:ok (F.mB r columns) (fun r=>K (dB r) []):=aB (F.oY r columns h_r h_columns) hK
 refine⟨rfl,ann44,aC,(.dat Ty.bool),(aQ (by kernel_rfl)),?_⟩
 ·rw[vc44]
  exact⟨h_columns,⟨h_r,h⟩⟩
def c63:Con:=⟨[.lent TVS,.any],fun args hp K=>args2 (fun a0 a1=>gZ TVS a0 fun xs=>kM 44 a1 (wO (fun b1_0=>uT TCS b1_0 fun k0=>(Sm (Ty.sl TVS) xs)/\(Sm TCS k0)/\K (dI (M.idx (t:=TVS) (fun e=>!M.bD k0 e) xs)) []))) args hp,.plain,false⟩
abbrev C63:Ctx:=cx [(44,c44)] 19 [] 0 false
def ann63:=an [[kp 3],[kp 387],[kp 899],[kp 419],[kp 65955],[kp 16],[kp 387],[kp 16]] [[kp 0]]
abbrev s63_0 (xs:(List LV)) (k0:LC) (i0:Int) (v0:Unit):St:=⟨[(0,.brw TVS xs),(1,.fn 44 [.ref (.data TCS k0)]),(7,dI (xs.length:Int)),(8,dI i0)],[]⟩
abbrev LP63_0 (xs:(List LV)) (k0:LC) (m:Nat) (st_:St) (K:KX):Prop:=True/\cA (s63_0 xs k0) Z0 (xs.length:Int) (F.bS xs k0) (fun v0:Unit=>True) (bO (fun v0:Unit=>True->K (.exit 0) (⟨[],[]⟩:St)) (fun q0:Int=>K .ret (⟨[(4,dI q0)],[]⟩:St))) m st_
def L63 (xs:(List LV)) (k0:LC):br:=lp1 0 (LP63_0 xs k0)
theorem vc63 (xs:(List LV)) (k0:LC) (K:KA):vcT C63 (L63 xs k0) ann63 f63 [.brw TVS xs,.fn 44 [.ref (.data TCS k0)]] [] (.dat bf) K =
 (∃m_,True/\cA (s63_0 xs k0) Z0 (xs.length:Int) (F.bS xs k0) (fun v0:Unit=>True) (bO (fun v0:Unit=>True->K (dI (-1:Int)) []) (fun q0:Int=>K (dI q0) [])) m_ (s63_0 xs k0 Z0 ())):=by kernel_rfl
theorem lvc63_0 (xs:(List LV)) (k0:LC)  (i0:Int) (v0:Unit) (m:Nat) (K:KX):lvT C63 (L63 xs k0) ann63 f63 0 0 (s63_0 xs k0 i0 v0) m K =
 (cond (decide (i0<(xs.length:Int))) ((0<=i0)/\(i0<(xs.length:Int))/\(Sm TVS (nth (t:=TVS) xs i0))/\(Sm TCS k0)/\cond (!M.bD k0 (nth (t:=TVS) xs i0)) (K .ret (⟨[(4,dI i0)],[]⟩:St)) (nxT (LP63_0 xs k0) m K (s63_0 xs k0 (wrap64 (i0+Z1)) ()))) (K (.exit 0) (⟨[],[]⟩:St))):=by kernel_rfl
theorem con63_ok:bL P 63 c63:=bX C63 func63 (kC con44_ok kN) fun args hp K h0=>by
 obtain⟨a0,a1,rfl,rfl,h1⟩:=bp h0
 obtain⟨xs,rfl,h2⟩:=bT h1
 obtain⟨cs1,rfl,h3⟩:=cZ h2
 obtain⟨b1_0,rfl,h4⟩:=rX h3
 obtain⟨k0,rfl,h5⟩:=mZ h4
 obtain⟨h_xs,h_k0,hK⟩:=h5
 have h:ok (F.fG xs k0) (fun r=>K (dI r) []):=aB (F.iP xs k0 h_xs h_k0) hK
 refine⟨rfl,ann63,(L63 xs k0),(.dat bf),(bF (i0:=0) (by kernel_rfl) ?_),?_⟩
 ·rintro _ _ K ⟨hc0,i0,v0,rfl,hl0,rfl,hv0,h⟩
  exact cast (lvc63_0 _ _ _ _ _ _).symm (bC h (fun ht0 h=>⟨hl0,⟨ht0,⟨(bW h_xs i0),⟨h_k0,(oC h (fun _ h=>h) fun _ h=>(bg (fun _ hm=>⟨hc0,hm⟩) _ rfl hl0 kU ht0 (cD h_xs) trivial h))⟩⟩⟩⟩) fun h=>(h trivial))
 ·rw[vc63]
  exact(aZ (fun m hm=>⟨trivial,hm⟩) Z0 _ rfl (Int.natCast_nonneg 0) trivial (bB h (fun v0 h hv0=>h) (fun q0 h=>h)))
def c43:Con:=⟨[.lent TVS,.any],fun args hp K=>args2 (fun a0 a1=>gZ TVS a0 fun xs=>kM 44 a1 (wO (fun b1_0=>uT TCS b1_0 fun k0=>(Sm (Ty.sl TVS) xs)/\(Sm TCS k0)/\K (dB (List.any xs (fun e=>!M.bD k0 e))) []))) args hp,.plain,false⟩
abbrev C43:Ctx:=cx [(44,c44),(63,c63)] 9 [] 0 false
def ann43:=an [[kp 3],[kp 16]] []
theorem vc43 (xs:(List LV)) (k0:LC) (K:KA):vcT C43 aC ann43 f43 [.brw TVS xs,.fn 44 [.ref (.data TCS k0)]] [] (.dat Ty.bool) K =
 ((Sm (Ty.sl TVS) xs)/\(Sm TCS k0)/\K (dB (decide (Z0<=(M.idx (t:=TVS) (fun e=>!M.bD k0 e) xs)))) []):=by kernel_rfl
theorem con43_ok:bL P 43 c43:=bX C43 func43 (kC con44_ok (kC con63_ok kN)) fun args hp K h0=>by
 obtain⟨a0,a1,rfl,rfl,h1⟩:=bp h0
 obtain⟨xs,rfl,h2⟩:=bT h1
 obtain⟨cs1,rfl,h3⟩:=cZ h2
 obtain⟨b1_0,rfl,h4⟩:=rX h3
 obtain⟨k0,rfl,h5⟩:=mZ h4
 obtain⟨h_xs,h_k0,hK⟩:=h5
 have h:ok (F.cK xs k0) (fun r=>K (dB r) []):=aB (F.gA xs k0 h_xs h_k0) hK
 refine⟨rfl,ann43,aC,(.dat Ty.bool),(aQ (by kernel_rfl)),?_⟩
 ·rw[vc43]
  exact⟨h_xs,⟨h_k0,h⟩⟩
def c23:Con:=⟨[.dat TCS,.dat (Ty.sl TVS)],fun args hp K=>g2 (pD TCS) (pD (Ty.sl TVS)) (fun columns rows=>(Sm TCS columns)/\(Sm (Ty.sl TVS) rows)/\K (dB (M.fW columns rows)) []) args hp,.plain,false⟩
abbrev C23:Ctx:=cx [(22,c22),(43,c43),(44,c44)] 13 [] 0 false
def ann23:=an [[.fixBox 2,kp 6],[kp 16]] []
theorem vc23 (columns:LC) (rows:(List LV)) (K:KA):vcT C23 aC ann23 f23 [.data TCS columns,.data (Ty.sl TVS) rows] [] (.dat Ty.bool) K =
 ((Sm TCS columns)/\cond ((M.aW columns)==true) ((Sm (Ty.sl TVS) rows)/\(Sm TCS columns)/\K (dB (!(List.any rows (fun e=>!M.bD columns e)))) []) (K (dB false) [])):=by kernel_rfl
theorem con23_ok:bL P 23 c23:=bX C23 func23 (kC con22_ok (kC con43_ok (kC con44_ok kN))) fun args hp K h0=>by
 obtain⟨columns,rows,rfl,rfl,h_columns,h_rows,hK⟩:=g2e h0
 have h:ok (F.lp columns rows) (fun r=>K (dB r) []):=aB (F.sB columns rows h_columns h_rows) hK
 refine⟨rfl,ann23,aC,(.dat Ty.bool),(aQ (by kernel_rfl)),?_⟩
 ·rw[vc23]
  exact⟨h_columns,(oC h (fun _ h=>⟨h_rows,⟨h_columns,h⟩⟩) fun _ h=>h)⟩
def c21:Con:=⟨[.dat aj],fun args hp K=>g1 (pD aj) (fun t=>(Sm aj t)/\K (dB (!M.cM t)) []) args hp,.plain,false⟩
abbrev C21:Ctx:=cx [(22,c22),(23,c23)] 21 [] 0 false
def ann21:=an [[.fixRow 1 aj,kp 2],[kp 4]] []
theorem vc21 (t:aj.D) (K:KA):vcT C21 aC ann21 f21 [.data aj t] [] (.dat Ty.bool) K =
 ((Sm TCS t.1)/\cond ((!(M.aW t.1))==false) (cond ((decide (Z6<(t.2.1.length:Int)))==false) ((Sm TCS t.1)/\(Sm (Ty.sl TVS) t.2.1)/\K (dB (!(M.fW t.1 t.2.1))) []) (K (dB true) [])) (K (dB true) [])):=by kernel_rfl
theorem con21_ok:bL P 21 c21:=bX C21 func21 (kC con22_ok (kC con23_ok kN)) fun args hp K h0=>by
 obtain⟨t,rfl,rfl,h_t,hK⟩:=g1e h0
 have h:ok (F.gT t) (fun r=>K (dB r) []):=aB (F.nc t h_t) hK
 refine⟨rfl,ann21,aC,(.dat Ty.bool),(aQ (by kernel_rfl)),?_⟩
 ·rw[vc21]
  exact⟨h_t.1,(oC h (fun _ h=>(oC h (fun _ h=>⟨h_t.1,⟨h_t.2.1,h⟩⟩) fun _ h=>h)) fun _ h=>h)⟩
def c40:Con:=⟨[.lent aj,.any],fun args hp K=>args2 (fun a0 a1=>gZ aj a0 fun xs=>kM 21 a1 (mC ((Sm TTb xs)/\K (dI (M.idx (t:=aj) (fun e=>!M.cM e) xs)) []))) args hp,.plain,false⟩
abbrev C40:Ctx:=cx [(21,c21)] 19 [] 0 false
def ann40:=an [[kp 3],[kp 387],[kp 899],[kp 419],[kp 65955],[kp 16],[kp 387],[kp 16]] [[kp 0]]
abbrev s40_0 (xs:LTb) (i0:Int) (v0:Unit):St:=⟨[(0,.brw aj xs),(1,.fn 21 []),(7,dI (xs.length:Int)),(8,dI i0)],[]⟩
abbrev LP40_0 (xs:LTb) (m:Nat) (st_:St) (K:KX):Prop:=True/\cA (s40_0 xs) Z0 (xs.length:Int) (F.bJ xs) (fun v0:Unit=>True) (bO (fun v0:Unit=>True->K (.exit 0) (⟨[],[]⟩:St)) (fun q0:Int=>K .ret (⟨[(4,dI q0)],[]⟩:St))) m st_
def L40 (xs:LTb):br:=lp1 0 (LP40_0 xs)
theorem vc40 (xs:LTb) (K:KA):vcT C40 (L40 xs) ann40 f40 [.brw aj xs,.fn 21 []] [] (.dat bf) K =
 (∃m_,True/\cA (s40_0 xs) Z0 (xs.length:Int) (F.bJ xs) (fun v0:Unit=>True) (bO (fun v0:Unit=>True->K (dI (-1:Int)) []) (fun q0:Int=>K (dI q0) [])) m_ (s40_0 xs Z0 ())):=by kernel_rfl
theorem lvc40_0 (xs:LTb)  (i0:Int) (v0:Unit) (m:Nat) (K:KX):lvT C40 (L40 xs) ann40 f40 0 0 (s40_0 xs i0 v0) m K =
 (cond (decide (i0<(xs.length:Int))) ((0<=i0)/\(i0<(xs.length:Int))/\(Sm aj (nT xs i0))/\cond (!M.cM (nT xs i0)) (K .ret (⟨[(4,dI i0)],[]⟩:St)) (nxT (LP40_0 xs) m K (s40_0 xs (wrap64 (i0+Z1)) ()))) (K (.exit 0) (⟨[],[]⟩:St))):=by kernel_rfl
theorem con40_ok:bL P 40 c40:=bX C40 func40 (kC con21_ok kN) fun args hp K h0=>by
 obtain⟨a0,a1,rfl,rfl,h1⟩:=bp h0
 obtain⟨xs,rfl,h2⟩:=bT h1
 obtain⟨cs1,rfl,h3⟩:=cZ h2
 obtain⟨rfl,h4⟩:=ez h3
 obtain⟨h_xs,hK⟩:=h4
 have h:ok (F.eW xs) (fun r=>K (dI r) []):=aB (F.gS xs h_xs) hK
 refine⟨rfl,ann40,(L40 xs),(.dat bf),(bF (i0:=0) (by kernel_rfl) ?_),?_⟩
 ·rintro _ _ K ⟨hc0,i0,v0,rfl,hl0,rfl,hv0,h⟩
  exact cast (lvc40_0 _ _ _ _ _).symm (bC h (fun ht0 h=>⟨hl0,⟨ht0,⟨(bW h_xs i0),(oC h (fun _ h=>h) fun _ h=>(bg (fun _ hm=>⟨hc0,hm⟩) _ rfl hl0 kU ht0 (cD h_xs) trivial h))⟩⟩⟩) fun h=>(h trivial))
 ·rw[vc40]
  exact(aZ (fun m hm=>⟨trivial,hm⟩) Z0 _ rfl (Int.natCast_nonneg 0) trivial (bB h (fun v0 h hv0=>h) (fun q0 h=>h)))
def c20:Con:=⟨[.lent aj,.any],fun args hp K=>args2 (fun a0 a1=>gZ aj a0 fun xs=>kM 21 a1 (mC ((Sm TTb xs)/\K (dB (List.any xs (fun e=>!M.cM e))) []))) args hp,.plain,false⟩
abbrev C20:Ctx:=cx [(21,c21),(40,c40)] 9 [] 0 false
def ann20:=an [[kp 3],[kp 16]] []
theorem vc20 (xs:LTb) (K:KA):vcT C20 aC ann20 f20 [.brw aj xs,.fn 21 []] [] (.dat Ty.bool) K =
 ((Sm TTb xs)/\K (dB (decide (Z0<=(M.idx (t:=aj) (fun e=>!M.cM e) xs)))) []):=by kernel_rfl
theorem con20_ok:bL P 20 c20:=bX C20 func20 (kC con21_ok (kC con40_ok kN)) fun args hp K h0=>by
 obtain⟨a0,a1,rfl,rfl,h1⟩:=bp h0
 obtain⟨xs,rfl,h2⟩:=bT h1
 obtain⟨cs1,rfl,h3⟩:=cZ h2
 obtain⟨rfl,h4⟩:=ez h3
 obtain⟨h_xs,hK⟩:=h4
 have h:ok (F.cB xs) (fun r=>K (dB r) []):=aB (F.fY xs h_xs) hK
 refine⟨rfl,ann20,aC,(.dat Ty.bool),(aQ (by kernel_rfl)),?_⟩
 ·rw[vc20]
  exact⟨h_xs,h⟩
def c8:Con:=⟨[.dat TTb],fun args hp K=>g1 (pD TTb) (fun tables=>(Sm TTb tables)/\K (dB (M.bt tables)) []) args hp,.plain,false⟩
abbrev C8:Ctx:=cx [(20,c20)] 11 [] 0 false
def ann8:=an [[kp 1],[kp 4]] []
theorem vc8 (tables:LTb) (K:KA):vcT C8 aC ann8 f8 [.data TTb tables] [] (.dat Ty.bool) K =
 (cond ((decide ((tables.length:Int)<=Z3))==true) ((Sm TTb tables)/\K (dB (!(List.any tables (fun e=>!M.cM e)))) []) (K (dB false) [])):=by kernel_rfl
theorem con8_ok:bL P 8 c8:=bX C8 func8 (kC con20_ok kN) fun args hp K h0=>by
 obtain⟨tables,rfl,rfl,h_tables,hK⟩:=g1e h0
 have h:ok (F.jw tables) (fun r=>K (dB r) []):=aB (F.oS tables h_tables) hK
 refine⟨rfl,ann8,aC,(.dat Ty.bool),(aQ (by kernel_rfl)),?_⟩
 ·rw[vc8]
  exact(oC h (fun _ h=>⟨h_tables,h⟩) fun _ h=>h)
abbrev C74:Ctx:=cx [] 9 [] 400000 true
def T74:Inl:=sF C74 (fun _=>[]) (cP f74) f74.results.toList
theorem inlOk74:ua P 74 T74:=xX C74 func74 kN
def c58:Con:=⟨[.dat TCS],fun args hp K=>g1 (pD TCS) (fun xs=>(Sm TCS xs)/\(LD xs fun r=>K (.clp 0 (r.length:Int)) [(0,.arr .sh ai r)])) args hp,.bor,false⟩
abbrev C58:Ctx:=cx [] 9 [(74,T74)] 0 true
def ann58:=an [[kp 1],[kp 33],[.clip 2,kp 4],[kp 4]] []
theorem vc58 (xs:LC) (K:KA):vcT C58 aC ann58 f58 [.data TCS xs] [] .raw K =
 (cond (decide ((xs.length:Int)=Z0)) (K (.clp 0 (([]:List ai.D).length:Int)) [(0,.arr .sh ai ([]:List ai.D))]) ((xs.length * 16<=lim)/\(0<=Z0)/\(Z0<=(xs.length:Int))/\((xs.length:Int)<=(xs.length:Int))/\((xs.length:Int)=(xs.length:Int))/\(Z0=0)/\K (.clp 0 ((xs.take (xs.length:Int).toNat).length:Int)) [(0,.arr .sh ai (xs.take (xs.length:Int).toNat))])):=by kernel_rfl
theorem con58_ok:bL P 58 c58:=bX C58 func58 (kI inlOk74 kN) fun args hp K h0=>by
 obtain⟨xs,rfl,rfl,h_xs,hK⟩:=g1e h0
 have h:ok (F.mK xs) (fun r=>K (.clp 0 (r.length:Int)) [(0,.arr .sh ai r)]):=aB (F.pU xs h_xs) (hK _ rfl)
 refine⟨rfl,ann58,aC,.raw,(aQ (by kernel_rfl)),?_⟩
 ·rw[vc58]
  exact(oC h (fun _ h=>h) fun _ h=>⟨(vO h_xs rfl),⟨(Int.natCast_nonneg 0),⟨(Int.natCast_nonneg _),⟨(Int.le_refl _),⟨rfl,⟨rfl,h⟩⟩⟩⟩⟩⟩)
abbrev C92:Ctx:=cx [] 9 [] 400000 true
def T92:Inl:=sF C92 (fun _=>[]) (cP f92) f92.results.toList
theorem inlOk92:ua P 92 T92:=xX C92 func92 kN
def c75:Con:=⟨[.dat TVS],fun args hp K=>g1 (pD TVS) (fun xs=>(Sm TVS xs)/\(LD xs fun r=>K (.clp 0 (r.length:Int)) [(0,.arr .sh ag r)])) args hp,.bor,false⟩
abbrev C75:Ctx:=cx [] 9 [(92,T92)] 0 true
def ann75:=an [[kp 1],[kp 33],[.clip 2,kp 4],[kp 4]] []
theorem vc75 (xs:LV) (K:KA):vcT C75 aC ann75 f75 [.data TVS xs] [] .raw K =
 (cond (decide ((xs.length:Int)=Z0)) (K (.clp 0 (([]:List ag.D).length:Int)) [(0,.arr .sh ag ([]:List ag.D))]) ((xs.length * 32<=lim)/\(0<=Z0)/\(Z0<=(xs.length:Int))/\((xs.length:Int)<=(xs.length:Int))/\((xs.length:Int)=(xs.length:Int))/\(Z0=0)/\K (.clp 0 ((xs.take (xs.length:Int).toNat).length:Int)) [(0,.arr .sh ag (xs.take (xs.length:Int).toNat))])):=by kernel_rfl
theorem con75_ok:bL P 75 c75:=bX C75 func75 (kI inlOk92 kN) fun args hp K h0=>by
 obtain⟨xs,rfl,rfl,h_xs,hK⟩:=g1e h0
 have h:ok (F.od xs) (fun r=>K (.clp 0 (r.length:Int)) [(0,.arr .sh ag r)]):=aB (F.qs xs h_xs) (hK _ rfl)
 refine⟨rfl,ann75,aC,.raw,(aQ (by kernel_rfl)),?_⟩
 ·rw[vc75]
  exact(oC h (fun _ h=>h) fun _ h=>⟨(vO h_xs rfl),⟨(Int.natCast_nonneg 0),⟨(Int.natCast_nonneg _),⟨(Int.le_refl _),⟨rfl,⟨rfl,h⟩⟩⟩⟩⟩⟩)
abbrev C76:Ctx:=cx [] 9 [] 400000 true
def T76:Inl:=sF C76 (fun _=>[]) (cP f76) f76.results.toList
theorem inlOk76:ua P 76 T76:=xX C76 func76 kN
def c59:Con:=⟨[.dat (Ty.sl TVS)],fun args hp K=>g1 (pD (Ty.sl TVS)) (fun rows=>(Sm (Ty.sl TVS) rows)/\(LD rows fun r=>K (.clp 0 (r.length:Int)) [(0,.arr .dp TVS r)])) args hp,.bor,false⟩
abbrev C59:Ctx:=cx [(75,c75)] 20 [(76,T76)] 0 true
def ann59:=an [[kp 1],[kp 9],[kp 456],[kp 968],[kp 488],[kp 456],[kp 456],[kp 4]] [[kp 8]]
abbrev s59_0 (rows:(List LV)) (i0:Int) (v0:(List LV)):St:=⟨[(3,.own 3 none),(6,.data (Ty.sl TVS) rows),(7,dI (rows.length:Int)),(8,dI i0)],[(3,.arr .dp TVS v0)]⟩
abbrev LP59_0 (rows:(List LV)) (m:Nat) (st_:St) (K:KX):Prop:=True/\ga (t:=TVS) (s59_0 rows) rows (F.eR rows) (fun v0:(List LV)=>True) (bO (fun v0:(List LV)=>True->K (.exit 0) (⟨[(3,.own 3 none)],[(3,.arr .dp TVS v0)]⟩:St)) (fun _=>False)) m st_
def L59 (rows:(List LV)):br:=lp1 0 (LP59_0 rows)
theorem vc59 (rows:(List LV)) (K:KA):vcT C59 (L59 rows) ann59 f59 [.data (Ty.sl TVS) rows] [] .raw K =
 (∃m_,True/\ga (t:=TVS) (s59_0 rows) rows (F.eR rows) (fun v0:(List LV)=>True) (bO (fun v0:(List LV)=>True->(0<=Z0)/\(Z0<=(v0.length:Int))/\((v0.length:Int)<=(v0.length:Int))/\((v0.length:Int)=(v0.length:Int))/\(Z0=0)/\K (.clp 0 ((v0.take (v0.length:Int).toNat).length:Int)) [(0,.arr .dp TVS (v0.take (v0.length:Int).toNat))]) (fun _=>False)) m_ (s59_0 rows Z0 [])):=by kernel_rfl
theorem lvc59_0 (rows:(List LV))  (i0:Int) (v0:(List LV)) (m:Nat) (K:KX):lvT C59 (L59 rows) ann59 f59 0 0 (s59_0 rows i0 v0) m K =
 (cond (decide (i0<(rows.length:Int))) ((0<=i0)/\(i0<(rows.length:Int))/\(Sm TVS (nth (t:=TVS) rows i0))/\(LD (nth (t:=TVS) rows i0) fun r1=>((v0.length+[(ax r1 (some (Z0,(r1.length:Int))))].length) * 24<=lim)/\(nxT (LP59_0 rows) m K (s59_0 rows (wrap64 (i0+Z1)) (v0++[(ax r1 (some (Z0,(r1.length:Int))))]))))) (K (.exit 0) (⟨[(3,.own 3 none)],[(3,.arr .dp TVS v0)]⟩:St))):=by kernel_rfl
theorem con59_ok:bL P 59 c59:=bX C59 func59 (kC con75_ok (kI inlOk76 kN)) fun args hp K h0=>by
 obtain⟨rows,rfl,rfl,h_rows,hK⟩:=g1e h0
 have h:ok (F.jr rows) (fun r=>K (.clp 0 (r.length:Int)) [(0,.arr .dp TVS r)]):=aB (F.pH rows h_rows) (hK _ rfl)
 refine⟨rfl,ann59,(L59 rows),.raw,(bF (i0:=0) (by kernel_rfl) ?_),?_⟩
 ·rintro _ _ K ⟨hc0,i0,v0,rfl,hl0,rfl,hv0,h⟩
  exact cast (lvc59_0 _ _ _ _ _).symm (eA (t:=TVS) hl0 h (fun ht0 h=>⟨hl0,⟨ht0,⟨(bW h_rows i0),(oL h fun _ _ h=>(oG h fun _ h=>(ee (t:=TVS) (fun _ hm=>⟨hc0,hm⟩) _ rfl hl0 ht0 (cD h_rows) trivial h)))⟩⟩⟩) fun h=>(h trivial))
 ·rw[vc59]
  exact(dz (t:=TVS) (fun m hm=>⟨trivial,hm⟩) _ rfl trivial (bB h (fun v0 h hv0=>⟨(Int.natCast_nonneg 0),⟨(Int.natCast_nonneg _),⟨(Int.le_refl _),⟨rfl,⟨rfl,h⟩⟩⟩⟩⟩) (fun _ h=>h.elim)))
abbrev C34:Ctx:=cx [(58,c58),(59,c59)] 10 [] 200000 true
def T34:Inl:=sF C34 (fun _=>[]) (cP f34) f34.results.toList
theorem inlOk34:ua P 34 T34:=xX C34 func34 (kC con58_ok (kC con59_ok kN))
abbrev C35:Ctx:=cx [] 9 [] 400000 true
def T35:Inl:=sF C35 (fun _=>[]) (cP f35) f35.results.toList
theorem inlOk35:ua P 35 T35:=xX C35 func35 kN
def c13:Con:=⟨[.dat TTb],fun args hp K=>g1 (pD TTb) (fun tables=>(Sm TTb tables)/\(LD tables fun r=>K (.clp 0 (r.length:Int)) [(0,.arr .dp aj r)])) args hp,.bor,false⟩
abbrev C13:Ctx:=cx [] 20 [(34,T34),(35,T35)] 0 true
def ann13:=an [[kp 1],[kp 9],[kp 456],[kp 968],[.fixRow 5 aj,kp 488],[kp 456],[kp 456],[kp 4]] [[kp 8]]
abbrev s13_0 (tables:LTb) (i0:Int) (v0:LTb):St:=⟨[(3,.own 3 none),(6,.data TTb tables),(7,dI (tables.length:Int)),(8,dI i0)],[(3,.arr .dp aj v0)]⟩
abbrev LP13_0 (tables:LTb) (m:Nat) (st_:St) (K:KX):Prop:=True/\ga (t:=aj) (s13_0 tables) tables (F.dF tables) (fun v0:LTb=>True) (bO (fun v0:LTb=>True->K (.exit 0) (⟨[(3,.own 3 none)],[(3,.arr .dp aj v0)]⟩:St)) (fun _=>False)) m st_
def L13 (tables:LTb):br:=lp1 0 (LP13_0 tables)
theorem vc13 (tables:LTb) (K:KA):vcT C13 (L13 tables) ann13 f13 [.data TTb tables] [] .raw K =
 (∃m_,True/\ga (t:=aj) (s13_0 tables) tables (F.dF tables) (fun v0:LTb=>True) (bO (fun v0:LTb=>True->(0<=Z0)/\(Z0<=(v0.length:Int))/\((v0.length:Int)<=(v0.length:Int))/\((v0.length:Int)=(v0.length:Int))/\(Z0=0)/\K (.clp 0 ((v0.take (v0.length:Int).toNat).length:Int)) [(0,.arr .dp aj (v0.take (v0.length:Int).toNat))]) (fun _=>False)) m_ (s13_0 tables Z0 [])):=by kernel_rfl
theorem lvc13_0 (tables:LTb)  (i0:Int) (v0:LTb) (m:Nat) (K:KX):lvT C13 (L13 tables) ann13 f13 0 0 (s13_0 tables i0 v0) m K =
 (cond (decide (i0<(tables.length:Int))) ((0<=i0)/\(i0<(tables.length:Int))/\(Sm TCS (nT tables i0).1)/\(LD (nT tables i0).1 fun r1=>(Sm (Ty.sl TVS) (nT tables i0).2.1)/\(LD (nT tables i0).2.1 fun r2=>((v0.length+[((ax r1 (some (Z0,(r1.length:Int)))),((ax r2 (some (Z0,(r2.length:Int)))),()))].length) * 48<=lim)/\(nxT (LP13_0 tables) m K (s13_0 tables (wrap64 (i0+Z1)) (v0++[((ax r1 (some (Z0,(r1.length:Int)))),((ax r2 (some (Z0,(r2.length:Int)))),()))])))))) (K (.exit 0) (⟨[(3,.own 3 none)],[(3,.arr .dp aj v0)]⟩:St))):=by kernel_rfl
theorem con13_ok:bL P 13 c13:=bX C13 func13 (kI inlOk34 (kI inlOk35 kN)) fun args hp K h0=>by
 obtain⟨tables,rfl,rfl,h_tables,hK⟩:=g1e h0
 have h:ok (F.gP tables) (fun r=>K (.clp 0 (r.length:Int)) [(0,.arr .dp aj r)]):=aB (F.mW tables h_tables) (hK _ rfl)
 refine⟨rfl,ann13,(L13 tables),.raw,(bF (i0:=0) (by kernel_rfl) ?_),?_⟩
 ·rintro _ _ K ⟨hc0,i0,v0,rfl,hl0,rfl,hv0,h⟩
  exact cast (lvc13_0 _ _ _ _ _).symm (eA (t:=aj) hl0 h (fun ht0 h=>⟨hl0,⟨ht0,⟨(bW h_tables i0).1,(oL h fun _ _ h=>⟨(bW h_tables i0).2.1,(oL h fun _ _ h=>(oG h fun _ h=>(ee (t:=aj) (fun _ hm=>⟨hc0,hm⟩) _ rfl hl0 ht0 (cD h_tables) trivial h)))⟩)⟩⟩⟩) fun h=>(h trivial))
 ·rw[vc13]
  exact(dz (t:=aj) (fun m hm=>⟨trivial,hm⟩) _ rfl trivial (bB h (fun v0 h hv0=>⟨(Int.natCast_nonneg 0),⟨(Int.natCast_nonneg _),⟨(Int.le_refl _),⟨rfl,⟨rfl,h⟩⟩⟩⟩⟩) (fun _ h=>h.elim)))
def c5:Con:=⟨[.dat TTb],fun args hp K=>g1 (pD TTb) (fun tables=>(Sm TTb tables)/\(LD (M.cv tables) fun r=>K (.data aE r) [])) args hp,.plain,false⟩
abbrev C5:Ctx:=cx [(8,c8),(13,c13)] 13 [] 0 false
def ann5:=an [[kp 5],[kp 37],[kp 4],[.weak 8,kp 4]] []
theorem vc5 (tables:LTb) (K:KA):vcT C5 aC ann5 f5 [.data TTb tables] [] (.dat aE) K =
 ((Sm TTb tables)/\cond (!(M.bt tables)) (K (.data aE ([],([],([],())))) []) (((Sm TTb tables)/\(LD tables fun r1=>((tables.length:Int)=(tables.length:Int))/\(0<=(tables.length:Int))/\((tables.length:Int) * 8<=(lim:Int))/\K (.data aE ((ax r1 (some (Z0,(r1.length:Int)))),((List.replicate (tables.length:Int).toNat Z0),([],())))) []))/\(((tables.length:Int)=(tables.length:Int))/\(0<=(tables.length:Int))/\((tables.length:Int) * 8<=(lim:Int))/\(Sm TTb tables)/\(LD tables fun r1=>K (.data aE ((ax r1 (some (Z0,(r1.length:Int)))),((List.replicate (tables.length:Int).toNat Z0),([],())))) [])))):=by kernel_rfl
theorem con5_ok:bL P 5 c5:=bX C5 func5 (kC con8_ok (kC con13_ok kN)) fun args hp K h0=>by
 obtain⟨tables,rfl,rfl,h_tables,hK⟩:=g1e h0
 have h:ok (F.jB tables) (fun r=>K (.data aE r) []):=aB (F.pW tables h_tables) (hK _ rfl)
 refine⟨rfl,ann5,aC,(.dat aE),(aQ (by kernel_rfl)),?_⟩
 ·rw[vc5]
  exact⟨h_tables,(oC h (fun _ h=>h) fun _ h=>(⟨⟨h_tables,(fun r1 er1=>⟨rfl,⟨(Int.natCast_nonneg _),⟨(mm h_tables rfl),(have h:=(cF h r1 er1);h)⟩⟩⟩)⟩,⟨rfl,⟨(Int.natCast_nonneg _),⟨(mm h_tables rfl),⟨h_tables,(fun r1 er1=>(have h:=(cF h r1 er1);h))⟩⟩⟩⟩⟩))⟩
def c37:Con:=⟨[.dat TVS,.dat TVS],fun args hp K=>g2 (pD TVS) (pD TVS) (fun a b=>(Sm TVS a)/\(Sm TVS b)/\(a=b)/\K (dB true) []) args hp,.plain,false⟩
abbrev C37:Ctx:=cx [] 26 [] 0 false
def ann37:=an [[kp 3],[kp 1027],[kp 16],[kp 35],[kp 16419],[kp 35],[kp 33554467],[kp 16],[kp 16]] [[kp 0]]
abbrev s37_0 (a:LV) (b:LV) (i0:Int) (v0:Unit):St:=⟨[(0,.data TVS a),(1,.data TVS b),(5,dI i0)],[]⟩
abbrev LP37_0 (a:LV) (b:LV) (m:Nat) (st_:St) (K:KX):Prop:=True/\cA (s37_0 a b) Z0 (a.length:Int) (F.fy a b) (fun v0:Unit=>True) (bO (fun v0:Unit=>True->K (.exit 0) (⟨[],[]⟩:St)) (fun q0:Unit=>K .ret (⟨[(4,dB false)],[]⟩:St))) m st_
def L37 (a:LV) (b:LV):br:=lp1 0 (LP37_0 a b)
theorem vc37 (a:LV) (b:LV) (K:KA):vcT C37 (L37 a b) ann37 f37 [.data TVS a,.data TVS b] [] (.dat Ty.bool) K =
 (cond (!decide ((a.length:Int)=(b.length:Int))) (K (dB false) []) (∃m_,True/\cA (s37_0 a b) Z0 (a.length:Int) (F.fy a b) (fun v0:Unit=>True) (bO (fun v0:Unit=>True->K (dB true) []) (fun q0:Unit=>K (dB false) [])) m_ (s37_0 a b Z0 ()))):=by kernel_rfl
theorem lvc37_0 (a:LV) (b:LV)  (i0:Int) (v0:Unit) (m:Nat) (K:KX):lvT C37 (L37 a b) ann37 f37 0 0 (s37_0 a b i0 v0) m K =
 (cond (decide (i0<(a.length:Int))) ((0<=i0)/\(i0<(a.length:Int))/\(0<=i0)/\(i0<(b.length:Int))/\cond (!(Ty.beq ag (nV a i0) (nV b i0))) (K .ret (⟨[(4,dB false)],[]⟩:St)) (nxT (LP37_0 a b) m K (s37_0 a b (wrap64 (i0+Z1)) ()))) (K (.exit 0) (⟨[],[]⟩:St))):=by kernel_rfl
theorem con37_ok:bL P 37 c37:=bX C37 func37 kN fun args hp K h0=>by
 obtain⟨a,b,rfl,rfl,h_a,h_b,p0,hK⟩:=g2e h0
 have h:ok (F.kq a b) (fun r=>K (dB r) []):=aB (F.qx a b h_a h_b p0) hK
 refine⟨rfl,ann37,(L37 a b),(.dat Ty.bool),(bF (i0:=0) (by kernel_rfl) ?_),?_⟩
 ·rintro _ _ K ⟨hc0,i0,v0,rfl,hl0,rfl,hv0,h⟩
  exact cast (lvc37_0 _ _ _ _ _ _).symm (bC h (fun ht0 h=>⟨hl0,⟨ht0,⟨hl0,(oG h fun _ h=>(oC h (fun _ h=>h) fun _ h=>(bg (fun _ hm=>⟨hc0,hm⟩) _ rfl hl0 kU ht0 (cD h_a) trivial h)))⟩⟩⟩) fun h=>(h trivial))
 ·rw[vc37]
  exact(oC h (fun _ h=>h) fun _ h=>(aZ (fun m hm=>⟨trivial,hm⟩) Z0 _ rfl (Int.natCast_nonneg 0) trivial (bB h (fun v0 h hv0=>h) (fun q0 h=>h))))
def c17:Con:=⟨[.dat (Ty.sl TVS),.dat (Ty.sl TVS)],fun args hp K=>g2 (pD (Ty.sl TVS)) (pD (Ty.sl TVS)) (fun a b=>(Sm (Ty.sl TVS) a)/\(Sm (Ty.sl TVS) b)/\(a=b)/\K (dB true) []) args hp,.plain,false⟩
abbrev C17:Ctx:=cx [(37,c37)] 27 [] 0 false
def ann17:=an [[kp 3],[kp 1027],[kp 16],[kp 35],[kp 16419],[kp 35],[kp 67108899],[kp 16],[kp 16]] [[kp 0]]
abbrev s17_0 (a:(List LV)) (b:(List LV)) (i0:Int) (v0:Unit):St:=⟨[(0,.data (Ty.sl TVS) a),(1,.data (Ty.sl TVS) b),(5,dI i0)],[]⟩
abbrev LP17_0 (a:(List LV)) (b:(List LV)) (m:Nat) (st_:St) (K:KX):Prop:=True/\cA (s17_0 a b) Z0 (a.length:Int) (F.eM a b) (fun v0:Unit=>True) (bO (fun v0:Unit=>True->K (.exit 0) (⟨[],[]⟩:St)) (fun q0:Unit=>K .ret (⟨[(4,dB false)],[]⟩:St))) m st_
def L17 (a:(List LV)) (b:(List LV)):br:=lp1 0 (LP17_0 a b)
theorem vc17 (a:(List LV)) (b:(List LV)) (K:KA):vcT C17 (L17 a b) ann17 f17 [.data (Ty.sl TVS) a,.data (Ty.sl TVS) b] [] (.dat Ty.bool) K =
 (cond (!decide ((a.length:Int)=(b.length:Int))) (K (dB false) []) (∃m_,True/\cA (s17_0 a b) Z0 (a.length:Int) (F.eM a b) (fun v0:Unit=>True) (bO (fun v0:Unit=>True->K (dB true) []) (fun q0:Unit=>K (dB false) [])) m_ (s17_0 a b Z0 ()))):=by kernel_rfl
theorem lvc17_0 (a:(List LV)) (b:(List LV))  (i0:Int) (v0:Unit) (m:Nat) (K:KX):lvT C17 (L17 a b) ann17 f17 0 0 (s17_0 a b i0 v0) m K =
 (cond (decide (i0<(a.length:Int))) ((0<=i0)/\(i0<(a.length:Int))/\(0<=i0)/\(i0<(b.length:Int))/\(Sm TVS (nth (t:=TVS) a i0))/\(Sm TVS (nth (t:=TVS) b i0))/\((nth (t:=TVS) a i0)=(nth (t:=TVS) b i0))/\cond (!true) (K .ret (⟨[(4,dB false)],[]⟩:St)) (nxT (LP17_0 a b) m K (s17_0 a b (wrap64 (i0+Z1)) ()))) (K (.exit 0) (⟨[],[]⟩:St))):=by kernel_rfl
theorem con17_ok:bL P 17 c17:=bX C17 func17 (kC con37_ok kN) fun args hp K h0=>by
 obtain⟨a,b,rfl,rfl,h_a,h_b,p0,hK⟩:=g2e h0
 have h:ok (F.js a b) (fun r=>K (dB r) []):=aB (F.oR a b h_a h_b p0) hK
 refine⟨rfl,ann17,(L17 a b),(.dat Ty.bool),(bF (i0:=0) (by kernel_rfl) ?_),?_⟩
 ·rintro _ _ K ⟨hc0,i0,v0,rfl,hl0,rfl,hv0,h⟩
  exact cast (lvc17_0 _ _ _ _ _ _).symm (bC h (fun ht0 h=>⟨hl0,⟨ht0,⟨hl0,(oG h fun _ h=>⟨(bW h_a i0),⟨(bW h_b i0),(oG h fun _ h=>(oC h (fun _ h=>h) fun _ h=>(bg (fun _ hm=>⟨hc0,hm⟩) _ rfl hl0 kU ht0 (cD h_a) trivial h)))⟩⟩)⟩⟩⟩) fun h=>(h trivial))
 ·rw[vc17]
  exact(oC h (fun _ h=>h) fun _ h=>(aZ (fun m hm=>⟨trivial,hm⟩) Z0 _ rfl (Int.natCast_nonneg 0) trivial (bB h (fun v0 h hv0=>h) (fun q0 h=>h))))
def c14:Con:=⟨[.dat TTb,.dat TTb],fun args hp K=>g2 (pD TTb) (pD TTb) (fun a b=>(Sm TTb a)/\(Sm TTb b)/\(a=b)/\K (dB true) []) args hp,.plain,false⟩
abbrev C14:Ctx:=cx [(17,c17)] 72 [] 0 false
def ann14:=an [[kp 3],[kp 2051],[kp 16],[kp 35],[kp 32803],[kp 35],[kp 17592186044451],[kp 16],[kp 99],[kp 4503599627370595],[kp 99],[.keep [0,1,5,6,71]],[kp 16],[kp 16]] [[kp 0],[],[kp 35]]
abbrev s14_0 (a:LTb) (b:LTb) (i0:Int) (v0:Unit):St:=⟨[(0,.data TTb a),(1,.data TTb b),(5,dI i0)],[]⟩
abbrev LP14_0 (a:LTb) (b:LTb) (m:Nat) (st_:St) (K:KX):Prop:=True/\cA (s14_0 a b) Z0 (a.length:Int) (F.dH a b) (fun v0:Unit=>True) (bO (fun v0:Unit=>True->K (.exit 0) (⟨[],[]⟩:St)) (fun q0:Unit=>K .ret (⟨[(4,dB false)],[]⟩:St))) m st_
abbrev s14_2 (a:LTb) (b:LTb) (c2_0:Int) (v2:Int):St:=⟨[(0,.data TTb a),(1,.data TTb b),(5,dI c2_0),(6,dI v2)],[]⟩
abbrev LP14_2 (a:LTb) (b:LTb) (m:Nat) (st_:St) (K:KX):Prop:=∃c2_0:Int,True/\gb (s14_2 a b c2_0) (F.bN a b c2_0) (fun v2:Int=>True) (bO (fun e2:Unit=>True->K (.exit 2) (⟨[(0,.data TTb a),(1,.data TTb b),(5,dI c2_0)],[]⟩:St)) (fun q2:Unit=>K .ret (⟨[(4,dB false)],[]⟩:St))) m st_
def L14 (a:LTb) (b:LTb):br:=lp2 0 (LP14_0 a b) 2 (LP14_2 a b)
theorem vc14 (a:LTb) (b:LTb) (K:KA):vcT C14 (L14 a b) ann14 f14 [.data TTb a,.data TTb b] [] (.dat Ty.bool) K =
 (cond (!decide ((a.length:Int)=(b.length:Int))) (K (dB false) []) (∃m_,True/\cA (s14_0 a b) Z0 (a.length:Int) (F.dH a b) (fun v0:Unit=>True) (bO (fun v0:Unit=>True->K (dB true) []) (fun q0:Unit=>K (dB false) [])) m_ (s14_0 a b Z0 ()))):=by kernel_rfl
theorem lvc14_0 (a:LTb) (b:LTb)  (i0:Int) (v0:Unit) (m:Nat) (K:KX):lvT C14 (L14 a b) ann14 f14 0 0 (s14_0 a b i0 v0) m K =
 (cond (decide (i0<(a.length:Int))) ((0<=i0)/\(i0<(a.length:Int))/\(0<=i0)/\(i0<(b.length:Int))/\cond ((!decide (((nT a i0).1.length:Int)=((nT b i0).1.length:Int)))==false) ((0<=i0)/\(i0<(a.length:Int))/\(0<=i0)/\(i0<(b.length:Int))/\(Sm (Ty.sl TVS) (nT a i0).2.1)/\(Sm (Ty.sl TVS) (nT b i0).2.1)/\((nT a i0).2.1=(nT b i0).2.1)/\cond (!true) (K .ret (⟨[(4,dB false)],[]⟩:St)) (∃m_,∃c2_0:Int,True/\gb (s14_2 a b c2_0) (F.bN a b c2_0) (fun v2:Int=>True) (bO (fun e2:Unit=>True->(nxT (LP14_0 a b) m K (s14_0 a b (wrap64 (c2_0+Z1)) ()))) (fun q2:Unit=>K .ret (⟨[(4,dB false)],[]⟩:St))) m_ (s14_2 a b i0 Z0))) (K .ret (⟨[(4,dB false)],[]⟩:St))) (K (.exit 0) (⟨[],[]⟩:St))):=by kernel_rfl
theorem lvc14_1 (a:LTb) (b:LTb) (c2_0:Int) (v2:Int) (m:Nat) (K:KX):lvT C14 (L14 a b) ann14 f14 1 2 (s14_2 a b c2_0 v2) m K =
 ((0<=c2_0)/\(c2_0<(a.length:Int))/\cond (decide (v2<((nT a c2_0).1.length:Int))) ((0<=c2_0)/\(c2_0<(a.length:Int))/\(0<=v2)/\(v2<((nT a c2_0).1.length:Int))/\(0<=c2_0)/\(c2_0<(b.length:Int))/\(0<=v2)/\(v2<((nT b c2_0).1.length:Int))/\cond (!(Ty.beq ai (nC (nT a c2_0).1 v2) (nC (nT b c2_0).1 v2))) (K .ret (⟨[(4,dB false)],[]⟩:St)) (nxT (LP14_2 a b) m K (s14_2 a b c2_0 (wrap64 (v2+Z1))))) (K (.exit 2) (⟨[(0,.data TTb a),(1,.data TTb b),(5,dI c2_0)],[]⟩:St))):=by kernel_rfl
theorem con14_ok:bL P 14 c14:=bX C14 func14 (kC con17_ok kN) fun args hp K h0=>by
 obtain⟨a,b,rfl,rfl,h_a,h_b,p0,hK⟩:=g2e h0
 have h:ok (F.gX a b) (fun r=>K (dB r) []):=aB (F.nt a b h_a h_b p0) hK
 refine⟨rfl,ann14,(L14 a b),(.dat Ty.bool),(tR (i0:=0) (i1:=2) (by kernel_rfl) ?_ ?_),?_⟩
 ·rintro _ _ K ⟨hc0,i0,v0,rfl,hl0,rfl,hv0,h⟩
  exact cast (lvc14_0 _ _ _ _ _ _).symm (bC h (fun ht0 h=>⟨hl0,⟨ht0,⟨hl0,(oG h fun g1 h=>(oC h (fun _ h=>⟨hl0,⟨ht0,⟨hl0,⟨g1,⟨(bW h_a i0).2.1,⟨(bW h_b i0).2.1,(oG h fun _ h=>(oC h (fun _ h=>h) fun _ h=>(cX (fun m hm=>⟨i0,trivial,hm⟩) _ rfl trivial (bB h (fun e2 h hv2=>(bg (fun _ hm=>⟨hc0,hm⟩) _ rfl hl0 kU ht0 (cD h_a) trivial h)) (fun q2 h=>h)))))⟩⟩⟩⟩⟩⟩) fun _ h=>h))⟩⟩⟩) fun h=>(h trivial))
 ·rintro _ _ K ⟨c2_0,hc2,v2,rfl,hv2,h⟩
  exact cast (lvc14_1 _ _ _ _ _ _).symm (ep h (fun m1 hm2 h=>(oG h fun g2 h=>(oG h fun g3 h=>(oC h (fun _ h=>⟨g2,⟨g3,(oG h fun g4 h=>(oG h fun _ h=>⟨g2,(oG h fun _ h=>⟨g4,(oG h fun _ h=>(oC h (fun _ h=>h) fun _ h=>(cI (fun _ hm=>⟨c2_0,hc2,hm⟩) hm2 _ rfl trivial h)))⟩)⟩))⟩⟩) fun _ h=>((dY h :) trivial))))))
 ·rw[vc14]
  exact(oC h (fun _ h=>h) fun _ h=>(aZ (fun m hm=>⟨trivial,hm⟩) Z0 _ rfl (Int.natCast_nonneg 0) trivial (bB h (fun v0 h hv0=>h) (fun q0 h=>h))))
def c15:Con:=⟨[.dat (Ty.sl bf),.dat (Ty.sl bf)],fun args hp K=>g2 (pD (Ty.sl bf)) (pD (Ty.sl bf)) (fun a b=>(Sm (Ty.sl bf) a)/\(Sm (Ty.sl bf) b)/\(a=b)/\K (dB true) []) args hp,.plain,false⟩
abbrev C15:Ctx:=cx [] 26 [] 0 false
def ann15:=an [[kp 3],[kp 1027],[kp 16],[kp 35],[kp 16419],[kp 35],[kp 33554467],[kp 16],[kp 16]] [[kp 0]]
abbrev s15_0 (a:LI) (b:LI) (i0:Int) (v0:Unit):St:=⟨[(0,.data (Ty.sl bf) a),(1,.data (Ty.sl bf) b),(5,dI i0)],[]⟩
abbrev LP15_0 (a:LI) (b:LI) (m:Nat) (st_:St) (K:KX):Prop:=True/\cA (s15_0 a b) Z0 (a.length:Int) (F.eV a b) (fun v0:Unit=>True) (bO (fun v0:Unit=>True->K (.exit 0) (⟨[],[]⟩:St)) (fun q0:Unit=>K .ret (⟨[(4,dB false)],[]⟩:St))) m st_
def L15 (a:LI) (b:LI):br:=lp1 0 (LP15_0 a b)
theorem vc15 (a:LI) (b:LI) (K:KA):vcT C15 (L15 a b) ann15 f15 [.data (Ty.sl bf) a,.data (Ty.sl bf) b] [] (.dat Ty.bool) K =
 (cond (!decide ((a.length:Int)=(b.length:Int))) (K (dB false) []) (∃m_,True/\cA (s15_0 a b) Z0 (a.length:Int) (F.eV a b) (fun v0:Unit=>True) (bO (fun v0:Unit=>True->K (dB true) []) (fun q0:Unit=>K (dB false) [])) m_ (s15_0 a b Z0 ()))):=by kernel_rfl
theorem lvc15_0 (a:LI) (b:LI)  (i0:Int) (v0:Unit) (m:Nat) (K:KX):lvT C15 (L15 a b) ann15 f15 0 0 (s15_0 a b i0 v0) m K =
 (cond (decide (i0<(a.length:Int))) ((0<=i0)/\(i0<(a.length:Int))/\(0<=i0)/\(i0<(b.length:Int))/\cond (!decide ((nI a i0)=(nI b i0))) (K .ret (⟨[(4,dB false)],[]⟩:St)) (nxT (LP15_0 a b) m K (s15_0 a b (wrap64 (i0+Z1)) ()))) (K (.exit 0) (⟨[],[]⟩:St))):=by kernel_rfl
theorem con15_ok:bL P 15 c15:=bX C15 func15 kN fun args hp K h0=>by
 obtain⟨a,b,rfl,rfl,h_a,h_b,p0,hK⟩:=g2e h0
 have h:ok (F.jx a b) (fun r=>K (dB r) []):=aB (F.oU a b h_a h_b p0) hK
 refine⟨rfl,ann15,(L15 a b),(.dat Ty.bool),(bF (i0:=0) (by kernel_rfl) ?_),?_⟩
 ·rintro _ _ K ⟨hc0,i0,v0,rfl,hl0,rfl,hv0,h⟩
  exact cast (lvc15_0 _ _ _ _ _ _).symm (bC h (fun ht0 h=>⟨hl0,⟨ht0,⟨hl0,(oG h fun _ h=>(oC h (fun _ h=>h) fun _ h=>(bg (fun _ hm=>⟨hc0,hm⟩) _ rfl hl0 kU ht0 (cD h_a) trivial h)))⟩⟩⟩) fun h=>(h trivial))
 ·rw[vc15]
  exact(oC h (fun _ h=>h) fun _ h=>(aZ (fun m hm=>⟨trivial,hm⟩) Z0 _ rfl (Int.natCast_nonneg 0) trivial (bB h (fun v0 h hv0=>h) (fun q0 h=>h))))
def c36:Con:=⟨[.dat TPS,.dat TPS],fun args hp K=>g2 (pD TPS) (pD TPS) (fun a b=>(Sm TPS a)/\(Sm TPS b)/\(a=b)/\K (dB true) []) args hp,.plain,false⟩
abbrev C36:Ctx:=cx [] 26 [] 0 false
def ann36:=an [[kp 3],[kp 1027],[kp 16],[kp 35],[kp 16419],[kp 35],[kp 33554467],[kp 16],[kp 16]] [[kp 0]]
abbrev s36_0 (a:LPt) (b:LPt) (i0:Int) (v0:Unit):St:=⟨[(0,.data TPS a),(1,.data TPS b),(5,dI i0)],[]⟩
abbrev LP36_0 (a:LPt) (b:LPt) (m:Nat) (st_:St) (K:KX):Prop:=True/\cA (s36_0 a b) Z0 (a.length:Int) (F.dQ a b) (fun v0:Unit=>True) (bO (fun v0:Unit=>True->K (.exit 0) (⟨[],[]⟩:St)) (fun q0:Unit=>K .ret (⟨[(4,dB false)],[]⟩:St))) m st_
def L36 (a:LPt) (b:LPt):br:=lp1 0 (LP36_0 a b)
theorem vc36 (a:LPt) (b:LPt) (K:KA):vcT C36 (L36 a b) ann36 f36 [.data TPS a,.data TPS b] [] (.dat Ty.bool) K =
 (cond (!decide ((a.length:Int)=(b.length:Int))) (K (dB false) []) (∃m_,True/\cA (s36_0 a b) Z0 (a.length:Int) (F.dQ a b) (fun v0:Unit=>True) (bO (fun v0:Unit=>True->K (dB true) []) (fun q0:Unit=>K (dB false) [])) m_ (s36_0 a b Z0 ()))):=by kernel_rfl
theorem lvc36_0 (a:LPt) (b:LPt)  (i0:Int) (v0:Unit) (m:Nat) (K:KX):lvT C36 (L36 a b) ann36 f36 0 0 (s36_0 a b i0 v0) m K =
 (cond (decide (i0<(a.length:Int))) ((0<=i0)/\(i0<(a.length:Int))/\(0<=i0)/\(i0<(b.length:Int))/\cond (!(Ty.beq dy (nP a i0) (nP b i0))) (K .ret (⟨[(4,dB false)],[]⟩:St)) (nxT (LP36_0 a b) m K (s36_0 a b (wrap64 (i0+Z1)) ()))) (K (.exit 0) (⟨[],[]⟩:St))):=by kernel_rfl
theorem con36_ok:bL P 36 c36:=bX C36 func36 kN fun args hp K h0=>by
 obtain⟨a,b,rfl,rfl,h_a,h_b,p0,hK⟩:=g2e h0
 have h:ok (F.iF a b) (fun r=>K (dB r) []):=aB (F.oF a b h_a h_b p0) hK
 refine⟨rfl,ann36,(L36 a b),(.dat Ty.bool),(bF (i0:=0) (by kernel_rfl) ?_),?_⟩
 ·rintro _ _ K ⟨hc0,i0,v0,rfl,hl0,rfl,hv0,h⟩
  exact cast (lvc36_0 _ _ _ _ _ _).symm (bC h (fun ht0 h=>⟨hl0,⟨ht0,⟨hl0,(oG h fun _ h=>(oC h (fun _ h=>h) fun _ h=>(bg (fun _ hm=>⟨hc0,hm⟩) _ rfl hl0 kU ht0 (cD h_a) trivial h)))⟩⟩⟩) fun h=>(h trivial))
 ·rw[vc36]
  exact(oC h (fun _ h=>h) fun _ h=>(aZ (fun m hm=>⟨trivial,hm⟩) Z0 _ rfl (Int.natCast_nonneg 0) trivial (bB h (fun v0 h hv0=>h) (fun q0 h=>h))))
def c16:Con:=⟨[.dat TSS,.dat TSS],fun args hp K=>g2 (pD TSS) (pD TSS) (fun a b=>(Sm TSS a)/\(Sm TSS b)/\(a=b)/\K (dB true) []) args hp,.plain,false⟩
abbrev C16:Ctx:=cx [(15,c15),(36,c36)] 95 [] 0 false
def ann16:=an [[kp 3],[kp 1027],[kp 16],[kp 35],[kp 16419],[kp 35],[.keep [0,1,5,94]],[kp 16],[kp 16]] [[kp 0]]
abbrev s16_0 (a:LS) (b:LS) (i0:Int) (v0:Unit):St:=⟨[(0,.data TSS a),(1,.data TSS b),(5,dI i0)],[]⟩
abbrev LP16_0 (a:LS) (b:LS) (m:Nat) (st_:St) (K:KX):Prop:=True/\cA (s16_0 a b) Z0 (a.length:Int) (F.dV a b) (fun v0:Unit=>True) (bO (fun v0:Unit=>True->K (.exit 0) (⟨[],[]⟩:St)) (fun q0:Unit=>K .ret (⟨[(4,dB false)],[]⟩:St))) m st_
def L16 (a:LS) (b:LS):br:=lp1 0 (LP16_0 a b)
theorem vc16 (a:LS) (b:LS) (K:KA):vcT C16 (L16 a b) ann16 f16 [.data TSS a,.data TSS b] [] (.dat Ty.bool) K =
 (cond (!decide ((a.length:Int)=(b.length:Int))) (K (dB false) []) (∃m_,True/\cA (s16_0 a b) Z0 (a.length:Int) (F.dV a b) (fun v0:Unit=>True) (bO (fun v0:Unit=>True->K (dB true) []) (fun q0:Unit=>K (dB false) [])) m_ (s16_0 a b Z0 ()))):=by kernel_rfl
theorem lvc16_0 (a:LS) (b:LS)  (i0:Int) (v0:Unit) (m:Nat) (K:KX):lvT C16 (L16 a b) ann16 f16 0 0 (s16_0 a b i0 v0) m K =
 (cond (decide (i0<(a.length:Int))) ((0<=i0)/\(i0<(a.length:Int))/\(0<=i0)/\(i0<(b.length:Int))/\cond ((!decide ((nS a i0).1=(nS b i0).1))==false) ((0<=i0)/\(i0<(a.length:Int))/\(0<=i0)/\(i0<(b.length:Int))/\cond ((!decide ((nS a i0).2.1=(nS b i0).2.1))==false) ((0<=i0)/\(i0<(a.length:Int))/\(0<=i0)/\(i0<(b.length:Int))/\cond ((!decide ((nS a i0).2.2.1=(nS b i0).2.2.1))==false) ((0<=i0)/\(i0<(a.length:Int))/\(0<=i0)/\(i0<(b.length:Int))/\cond ((!decide ((nS a i0).2.2.2.1=(nS b i0).2.2.2.1))==false) ((0<=i0)/\(i0<(a.length:Int))/\(0<=i0)/\(i0<(b.length:Int))/\(Sm TPS (nS a i0).2.2.2.2.1)/\(Sm TPS (nS b i0).2.2.2.2.1)/\((nS a i0).2.2.2.2.1=(nS b i0).2.2.2.2.1)/\cond ((!true)==false) ((0<=i0)/\(i0<(a.length:Int))/\(0<=i0)/\(i0<(b.length:Int))/\(Sm (Ty.sl bf) (nS a i0).2.2.2.2.2.1)/\(Sm (Ty.sl bf) (nS b i0).2.2.2.2.2.1)/\((nS a i0).2.2.2.2.2.1=(nS b i0).2.2.2.2.2.1)/\cond (!true) (K .ret (⟨[(4,dB false)],[]⟩:St)) (nxT (LP16_0 a b) m K (s16_0 a b (wrap64 (i0+Z1)) ()))) (K .ret (⟨[(4,dB false)],[]⟩:St))) (K .ret (⟨[(4,dB false)],[]⟩:St))) (K .ret (⟨[(4,dB false)],[]⟩:St))) (K .ret (⟨[(4,dB false)],[]⟩:St))) (K .ret (⟨[(4,dB false)],[]⟩:St))) (K (.exit 0) (⟨[],[]⟩:St))):=by kernel_rfl
theorem con16_ok:bL P 16 c16:=bX C16 func16 (kC con15_ok (kC con36_ok kN)) fun args hp K h0=>by
 obtain⟨a,b,rfl,rfl,h_a,h_b,p0,hK⟩:=g2e h0
 have h:ok (F.iI a b) (fun r=>K (dB r) []):=aB (F.ny a b h_a h_b p0) hK
 refine⟨rfl,ann16,(L16 a b),(.dat Ty.bool),(bF (i0:=0) (by kernel_rfl) ?_),?_⟩
 ·rintro _ _ K ⟨hc0,i0,v0,rfl,hl0,rfl,hv0,h⟩
  exact cast (lvc16_0 _ _ _ _ _ _).symm (bC h (fun ht0 h=>⟨hl0,⟨ht0,⟨hl0,(oG h fun g1 h=>(oC h (fun _ h=>⟨hl0,⟨ht0,⟨hl0,⟨g1,(oC h (fun _ h=>⟨hl0,⟨ht0,⟨hl0,⟨g1,(oC h (fun _ h=>⟨hl0,⟨ht0,⟨hl0,⟨g1,(oC h (fun _ h=>⟨hl0,⟨ht0,⟨hl0,⟨g1,⟨(bW h_a i0).2.2.2.2.1,⟨(bW h_b i0).2.2.2.2.1,(oG h fun _ h=>(oC h (fun b_32 h=>⟨hl0,⟨ht0,⟨hl0,⟨g1,⟨(bW h_a i0).2.2.2.2.2.1,⟨(bW h_b i0).2.2.2.2.2.1,(oG h fun _ h=>(zj (unf (bnf (bgt b_32))) (bg (fun _ hm=>⟨hc0,hm⟩) _ rfl hl0 kU ht0 (cD h_a) trivial h)))⟩⟩⟩⟩⟩⟩) fun _ h=>h))⟩⟩⟩⟩⟩⟩) fun _ h=>h)⟩⟩⟩⟩) fun _ h=>h)⟩⟩⟩⟩) fun _ h=>h)⟩⟩⟩⟩) fun _ h=>h))⟩⟩⟩) fun h=>(h trivial))
 ·rw[vc16]
  exact(oC h (fun _ h=>h) fun _ h=>(aZ (fun m hm=>⟨trivial,hm⟩) Z0 _ rfl (Int.natCast_nonneg 0) trivial (bB h (fun v0 h hv0=>h) (fun q0 h=>h))))
def c6:Con:=⟨[.dat aE,.dat aE],fun args hp K=>g2 (pD aE) (pD aE) (fun a b=>(Sm aE a)/\(Sm aE b)/\(a=b)/\(a.2.2.1=[])/\K (dB true) []) args hp,.plain,false⟩
abbrev C6:Ctx:=cx [(14,c14),(15,c15),(16,c16),(17,c17)] 82 [] 0 false
def ann6:=an [[.fixRow 2 aE,.fixRow 3 aE,kp 12],[kp 268435468],[kp 16],[kp 44],[kp 8589934636],[kp 44],[.keep [2,3,5,81]],[kp 16],[kp 16]] [[kp 0]]
abbrev s6_0 (a:aE.D) (b:aE.D) (i0:Int) (v0:Unit):St:=⟨[(2,.adr aE a),(3,.adr aE b),(5,dI i0)],[]⟩
abbrev LP6_0 (a:aE.D) (b:aE.D) (m:Nat) (st_:St) (K:KX):Prop:=True/\cA (s6_0 a b) Z0 (a.2.2.1.length:Int) (F.fJ a b) (fun v0:Unit=>True) (bO (fun v0:Unit=>True->K (.exit 0) (⟨[],[]⟩:St)) (fun q0:Unit=>K .ret (⟨[(4,dB false)],[]⟩:St))) m st_
def L6 (a:aE.D) (b:aE.D):br:=lp1 0 (LP6_0 a b)
theorem vc6 (a:aE.D) (b:aE.D) (K:KA):vcT C6 (L6 a b) ann6 f6 [.data aE a,.data aE b] [] (.dat Ty.bool) K =
 ((Sm TTb a.1)/\(Sm TTb b.1)/\(a.1=b.1)/\cond ((!true)==false) ((Sm (Ty.sl bf) a.2.1)/\(Sm (Ty.sl bf) b.2.1)/\(a.2.1=b.2.1)/\cond ((!true)==false) (cond (!decide ((a.2.2.1.length:Int)=(b.2.2.1.length:Int))) (K (dB false) []) (∃m_,True/\cA (s6_0 a b) Z0 (a.2.2.1.length:Int) (F.fJ a b) (fun v0:Unit=>True) (bO (fun v0:Unit=>True->K (dB true) []) (fun q0:Unit=>K (dB false) [])) m_ (s6_0 a b Z0 ()))) (K (dB false) [])) (K (dB false) [])):=by kernel_rfl
theorem lvc6_0 (a:aE.D) (b:aE.D)  (i0:Int) (v0:Unit) (m:Nat) (K:KX):lvT C6 (L6 a b) ann6 f6 0 0 (s6_0 a b i0 v0) m K =
 (cond (decide (i0<(a.2.2.1.length:Int))) ((0<=i0)/\(i0<(a.2.2.1.length:Int))/\(0<=i0)/\(i0<(b.2.2.1.length:Int))/\(Sm TSS (nth (t:=cn) a.2.2.1 i0).1)/\(Sm TSS (nth (t:=cn) b.2.2.1 i0).1)/\((nth (t:=cn) a.2.2.1 i0).1=(nth (t:=cn) b.2.2.1 i0).1)/\cond ((!true)==false) ((0<=i0)/\(i0<(a.2.2.1.length:Int))/\(0<=i0)/\(i0<(b.2.2.1.length:Int))/\(Sm (Ty.sl TVS) (nth (t:=cn) a.2.2.1 i0).2.1)/\(Sm (Ty.sl TVS) (nth (t:=cn) b.2.2.1 i0).2.1)/\((nth (t:=cn) a.2.2.1 i0).2.1=(nth (t:=cn) b.2.2.1 i0).2.1)/\cond ((!true)==false) ((0<=i0)/\(i0<(a.2.2.1.length:Int))/\(0<=i0)/\(i0<(b.2.2.1.length:Int))/\(Sm (Ty.sl bf) (nth (t:=cn) a.2.2.1 i0).2.2.1)/\(Sm (Ty.sl bf) (nth (t:=cn) b.2.2.1 i0).2.2.1)/\((nth (t:=cn) a.2.2.1 i0).2.2.1=(nth (t:=cn) b.2.2.1 i0).2.2.1)/\cond (!true) (K .ret (⟨[(4,dB false)],[]⟩:St)) (nxT (LP6_0 a b) m K (s6_0 a b (wrap64 (i0+Z1)) ()))) (K .ret (⟨[(4,dB false)],[]⟩:St))) (K .ret (⟨[(4,dB false)],[]⟩:St))) (K (.exit 0) (⟨[],[]⟩:St))):=by kernel_rfl
theorem con6_ok:bL P 6 c6:=bX C6 func6 (kC con14_ok (kC con15_ok (kC con16_ok (kC con17_ok kN)))) fun args hp K h0=>by
 obtain⟨a,b,rfl,rfl,h_a,h_b,p0,p1,hK⟩:=g2e h0
 have h:ok (F.iK a b) (fun r=>K (dB r) []):=aB (F.nQ a b h_a h_b p0 p1) hK
 refine⟨rfl,ann6,(L6 a b),(.dat Ty.bool),(bF (i0:=0) (by kernel_rfl) ?_),?_⟩
 ·rintro _ _ K ⟨hc0,i0,v0,rfl,hl0,rfl,hv0,h⟩
  exact cast (lvc6_0 _ _ _ _ _ _).symm (bC h (fun ht0 h=>⟨hl0,⟨ht0,⟨hl0,(oG h fun g1 h=>⟨(bW h_a.2.2.1 i0).1,⟨(bW h_b.2.2.1 i0).1,(oG h fun _ h=>(oC h (fun b_28 h=>⟨hl0,⟨ht0,⟨hl0,⟨g1,⟨(bW h_a.2.2.1 i0).2.1,⟨(bW h_b.2.2.1 i0).2.1,(oG h fun _ h=>(rO (ugt (unf (bnf (bgt b_28)))) ⟨hl0,⟨ht0,⟨hl0,⟨g1,⟨(bW h_a.2.2.1 i0).2.2.1,⟨(bW h_b.2.2.1 i0).2.2.1,(oG h fun _ h=>(zj (unf (bnf (bgt b_28))) (bg (fun _ hm=>⟨hc0,hm⟩) _ rfl hl0 kU ht0 (cD h_a.2.2.1) trivial h)))⟩⟩⟩⟩⟩⟩))⟩⟩⟩⟩⟩⟩) fun _ h=>h))⟩⟩)⟩⟩⟩) fun h=>(h trivial))
 ·rw[vc6]
  exact⟨h_a.1,⟨h_b.1,(oG h fun _ h=>(oC h (fun b_2 h=>⟨h_a.2.1,⟨h_b.2.1,(oG h fun _ h=>(rO (ugt (unf (bnf (bgt b_2)))) (oC h (fun _ h=>h) fun _ h=>(aZ (fun m hm=>⟨trivial,hm⟩) Z0 _ rfl (Int.natCast_nonneg 0) trivial (bB h (fun v0 h hv0=>h) (fun q0 h=>h))))))⟩⟩) fun _ h=>h))⟩⟩
def c78:Con:=⟨[.dat bf,.dat bf,.dat bf],fun args hp K=>g3 (pD bf) (pD bf) (pD bf) (fun n low high=>K (dB (M.inR n low high)) []) args hp,.plain,false⟩
abbrev C78:Ctx:=cx [] 15 [] 0 false
def ann78:=an [[kp 7],[kp 64]] []
theorem vc78 (n:Int) (low:Int) (high:Int) (K:KA):vcT C78 aC ann78 f78 [dI n,dI low,dI high] [] (.dat Ty.bool) K =
 (cond ((decide (low<=n))==true) (K (dB (decide (n<=high))) []) (K (dB false) [])):=by kernel_rfl
theorem con78_ok:bL P 78 c78:=bX C78 func78 kN fun args hp K h0=>by
 obtain⟨n,low,high,rfl,rfl,hK⟩:=g3e h0
 have h:ok (F.oV n low high) (fun r=>K (dB r) []):=aB (F.uf n low high) hK
 refine⟨rfl,ann78,aC,(.dat Ty.bool),(aQ (by kernel_rfl)),?_⟩
 ·rw[vc78]
  exact(oC h (fun _ h=>h) fun _ h=>h)
def c61:Con:=⟨[.dat TCS],fun args hp K=>g1 (pD TCS) (fun columns=>(Sm TCS columns)/\K (dB (M.aW columns)) []) args hp,.plain,false⟩
abbrev C61:Ctx:=cx [(78,c78)] 20 [] 0 false
def ann61:=an [[kp 1],[kp 9],[kp 137],[kp 9],[kp 65545],[kp 4],[kp 4]] [[kp 1]]
abbrev s61_0 (columns:LC) (i0:Int) (v0:Unit):St:=⟨[(0,.data TCS columns),(3,dI i0)],[]⟩
abbrev LP61_0 (columns:LC) (m:Nat) (st_:St) (K:KX):Prop:=True/\ga (t:=ai) (s61_0 columns) columns (F.dR columns) (fun v0:Unit=>True) (bO (fun v0:Unit=>True->K (.exit 0) (⟨[(0,.data TCS columns)],[]⟩:St)) (fun q0:Unit=>K .ret (⟨[(2,dB false)],[]⟩:St))) m st_
def L61 (columns:LC):br:=lp1 0 (LP61_0 columns)
theorem vc61 (columns:LC) (K:KA):vcT C61 (L61 columns) ann61 f61 [.data TCS columns] [] (.dat Ty.bool) K =
 (∃m_,True/\ga (t:=ai) (s61_0 columns) columns (F.dR columns) (fun v0:Unit=>True) (bO (fun v0:Unit=>True->K (dB (decide ((columns.length:Int)<=Z4))) []) (fun q0:Unit=>K (dB false) [])) m_ (s61_0 columns Z0 ())):=by kernel_rfl
theorem lvc61_0 (columns:LC)  (i0:Int) (v0:Unit) (m:Nat) (K:KX):lvT C61 (L61 columns) ann61 f61 0 0 (s61_0 columns i0 v0) m K =
 (cond (decide (i0<(columns.length:Int))) ((0<=i0)/\(i0<(columns.length:Int))/\cond (!(M.inR (nC columns i0).1 Z1 Z3)) (K .ret (⟨[(2,dB false)],[]⟩:St)) (nxT (LP61_0 columns) m K (s61_0 columns (wrap64 (i0+Z1)) ()))) (K (.exit 0) (⟨[(0,.data TCS columns)],[]⟩:St))):=by kernel_rfl
theorem con61_ok:bL P 61 c61:=bX C61 func61 (kC con78_ok kN) fun args hp K h0=>by
 obtain⟨columns,rfl,rfl,h_columns,hK⟩:=g1e h0
 have h:ok (F.iN columns) (fun r=>K (dB r) []):=aB (F.oO columns h_columns) hK
 refine⟨rfl,ann61,(L61 columns),(.dat Ty.bool),(bF (i0:=0) (by kernel_rfl) ?_),?_⟩
 ·rintro _ _ K ⟨hc0,i0,v0,rfl,hl0,rfl,hv0,h⟩
  exact cast (lvc61_0 _ _ _ _ _).symm (eA (t:=ai) hl0 h (fun ht0 h=>⟨hl0,⟨ht0,(oC h (fun _ h=>h) fun _ h=>(ee (t:=ai) (fun _ hm=>⟨hc0,hm⟩) _ rfl hl0 ht0 (cD h_columns) trivial h))⟩⟩) fun h=>(h trivial))
 ·rw[vc61]
  exact(dz (t:=ai) (fun m hm=>⟨trivial,hm⟩) _ rfl trivial (bB h (fun v0 h hv0=>h) (fun q0 h=>h)))
def c105:Con:=⟨[.dat Ty.str],fun args hp K=>g1 (pD Ty.str) (fun s=>(Sm Ty.str s)/\K (dB (M.text s)) []) args hp,.plain,false⟩
abbrev C105:Ctx:=cx [] 23 [] 0 false
def ann105:=an [[kp 1],[kp 9],[kp 137],[kp 9],[kp 524297],[kp 4],[kp 4]] [[kp 1]]
abbrev s105_0 (s:ByteArray) (i0:Int) (v0:Unit):St:=⟨[(0,.data Ty.str s),(3,dI i0)],[]⟩
abbrev LP105_0 (s:ByteArray) (m:Nat) (st_:St) (K:KX):Prop:=True/\cA (s105_0 s) Z0 (s.size:Int) (F.fR s) (fun v0:Unit=>True) (bO (fun v0:Unit=>True->K (.exit 0) (⟨[(0,.data Ty.str s)],[]⟩:St)) (fun q0:Unit=>K .ret (⟨[(2,dB false)],[]⟩:St))) m st_
def L105 (s:ByteArray):br:=lp1 0 (LP105_0 s)
theorem vc105 (s:ByteArray) (K:KA):vcT C105 (L105 s) ann105 f105 [.data Ty.str s] [] (.dat Ty.bool) K =
 (∃m_,True/\cA (s105_0 s) Z0 (s.size:Int) (F.fR s) (fun v0:Unit=>True) (bO (fun v0:Unit=>True->K (dB (decide ((s.size:Int)<=Z6))) []) (fun q0:Unit=>K (dB false) [])) m_ (s105_0 s Z0 ())):=by kernel_rfl
theorem lvc105_0 (s:ByteArray)  (i0:Int) (v0:Unit) (m:Nat) (K:KX):lvT C105 (L105 s) ann105 f105 0 0 (s105_0 s i0 v0) m K =
 (cond (decide (i0<(s.size:Int))) ((0<=i0)/\(i0<(s.size:Int))/\cond ((decide (((s.get! i0.toNat).toNat:Int)<(97:Int)))==false) ((0<=i0)/\(i0<(s.size:Int))/\cond (decide ((122:Int)<((s.get! i0.toNat).toNat:Int))) (K .ret (⟨[(2,dB false)],[]⟩:St)) (nxT (LP105_0 s) m K (s105_0 s (wrap64 (i0+Z1)) ()))) (K .ret (⟨[(2,dB false)],[]⟩:St))) (K (.exit 0) (⟨[(0,.data Ty.str s)],[]⟩:St))):=by kernel_rfl
theorem con105_ok:bL P 105 c105:=bX C105 func105 kN fun args hp K h0=>by
 obtain⟨s,rfl,rfl,h_s,hK⟩:=g1e h0
 have h:ok (F.lO s) (fun r=>K (dB r) []):=aB (F.rV s h_s) hK
 refine⟨rfl,ann105,(L105 s),(.dat Ty.bool),(bF (i0:=0) (by kernel_rfl) ?_),?_⟩
 ·rintro _ _ K ⟨hc0,i0,v0,rfl,hl0,rfl,hv0,h⟩
  exact cast (lvc105_0 _ _ _ _ _).symm (bC h (fun ht0 h=>⟨hl0,⟨ht0,(oC h (fun _ h=>⟨hl0,⟨ht0,(oC h (fun _ h=>h) fun _ h=>(bg (fun _ hm=>⟨hc0,hm⟩) _ rfl hl0 kU ht0 (zR h_s) trivial h))⟩⟩) fun _ h=>h)⟩⟩) fun h=>(h trivial))
 ·rw[vc105]
  exact(aZ (fun m hm=>⟨trivial,hm⟩) Z0 _ rfl (Int.natCast_nonneg 0) trivial (bB h (fun v0 h hv0=>h) (fun q0 h=>h)))
def c93:Con:=⟨[.dat ag],fun args hp K=>g1 (pD ag) (fun v=>(Sm ag v)/\K (dB (M.aK v)) []) args hp,.plain,false⟩
abbrev C93:Ctx:=cx [(78,c78),(105,c105)] 45 [] 0 false
def ann93:=an [[.fixRow 1 ag,kp 2],[kp 18],[kp 50],[kp 4],[kp 32786],[kp 4],[kp 33554450],[kp 4],[.keep [1,35]],[kp 4],[kp 4]] []
theorem vc93 (v:ag.D) (K:KA):vcT C93 aC ann93 f93 [.data ag v] [] (.dat Ty.bool) K =
 (cond (decide (v.1=Z0)) (cond ((decide (v.2.1=Z0))==true) (K (dB (decide (v.2.2.1=(⟨#[]⟩:ByteArray)))) []) (K (dB false) [])) (cond (decide (v.1=Z1)) (cond ((M.inR v.2.1 (-9999:Int) (9999:Int))==true) (K (dB (decide (v.2.2.1=(⟨#[]⟩:ByteArray)))) []) (K (dB false) [])) (cond (decide (v.1=Z2)) (cond ((decide (v.2.1=Z0))==true) ((Sm Ty.str v.2.2.1)/\K (dB (M.text v.2.2.1)) []) (K (dB false) [])) (cond (decide (v.1=Z3)) (cond ((M.inR v.2.1 Z0 Z1)==true) (K (dB (decide (v.2.2.1=(⟨#[]⟩:ByteArray)))) []) (K (dB false) [])) (K (dB false) []))))):=by kernel_rfl
theorem con93_ok:bL P 93 c93:=bX C93 func93 (kC con78_ok (kC con105_ok kN)) fun args hp K h0=>by
 obtain⟨v,rfl,rfl,h_v,hK⟩:=g1e h0
 have h:ok (F.kr v) (fun r=>K (dB r) []):=aB (F.qz v h_v) hK
 refine⟨rfl,ann93,aC,(.dat Ty.bool),(aQ (by kernel_rfl)),?_⟩
 ·rw[vc93]
  exact(oC h (fun _ h=>(oC h (fun _ h=>h) fun _ h=>h)) fun _ h=>(oC h (fun _ h=>(oC h (fun _ h=>h) fun _ h=>h)) fun _ h=>(oC h (fun _ h=>(oC h (fun _ h=>⟨h_v.2.2.1,h⟩) fun _ h=>h)) fun _ h=>(oC h (fun _ h=>(oC h (fun _ h=>h) fun _ h=>h)) fun _ h=>h))))
def c77:Con:=⟨[.dat TVS],fun args hp K=>g1 (pD TVS) (fun row=>(Sm TVS row)/\K (dB (M.jL row)) []) args hp,.plain,false⟩
abbrev C77:Ctx:=cx [(93,c93)] 19 [] 0 false
def ann77:=an [[kp 1],[kp 9],[kp 137],[kp 9],[kp 32777],[kp 4],[kp 4]] [[kp 1]]
abbrev s77_0 (row:LV) (i0:Int) (v0:Unit):St:=⟨[(0,.data TVS row),(3,dI i0)],[]⟩
abbrev LP77_0 (row:LV) (m:Nat) (st_:St) (K:KX):Prop:=True/\ga (t:=ag) (s77_0 row) row (F.gw row) (fun v0:Unit=>True) (bO (fun v0:Unit=>True->K (.exit 0) (⟨[(0,.data TVS row)],[]⟩:St)) (fun q0:Unit=>K .ret (⟨[(2,dB false)],[]⟩:St))) m st_
def L77 (row:LV):br:=lp1 0 (LP77_0 row)
theorem vc77 (row:LV) (K:KA):vcT C77 (L77 row) ann77 f77 [.data TVS row] [] (.dat Ty.bool) K =
 (∃m_,True/\ga (t:=ag) (s77_0 row) row (F.gw row) (fun v0:Unit=>True) (bO (fun v0:Unit=>True->K (dB (decide ((row.length:Int)<=Z4))) []) (fun q0:Unit=>K (dB false) [])) m_ (s77_0 row Z0 ())):=by kernel_rfl
theorem lvc77_0 (row:LV)  (i0:Int) (v0:Unit) (m:Nat) (K:KX):lvT C77 (L77 row) ann77 f77 0 0 (s77_0 row i0 v0) m K =
 (cond (decide (i0<(row.length:Int))) ((0<=i0)/\(i0<(row.length:Int))/\(Sm ag (nV row i0))/\cond (!(M.aK (nV row i0))) (K .ret (⟨[(2,dB false)],[]⟩:St)) (nxT (LP77_0 row) m K (s77_0 row (wrap64 (i0+Z1)) ()))) (K (.exit 0) (⟨[(0,.data TVS row)],[]⟩:St))):=by kernel_rfl
theorem con77_ok:bL P 77 c77:=bX C77 func77 (kC con93_ok kN) fun args hp K h0=>by
 obtain⟨row,rfl,rfl,h_row,hK⟩:=g1e h0
 have h:ok (F.nv row) (fun r=>K (dB r) []):=aB (F.sP row h_row) hK
 refine⟨rfl,ann77,(L77 row),(.dat Ty.bool),(bF (i0:=0) (by kernel_rfl) ?_),?_⟩
 ·rintro _ _ K ⟨hc0,i0,v0,rfl,hl0,rfl,hv0,h⟩
  exact cast (lvc77_0 _ _ _ _ _).symm (eA (t:=ag) hl0 h (fun ht0 h=>⟨hl0,⟨ht0,⟨(bW h_row i0),(oC h (fun _ h=>h) fun _ h=>(ee (t:=ag) (fun _ hm=>⟨hc0,hm⟩) _ rfl hl0 ht0 (cD h_row) trivial h))⟩⟩⟩) fun h=>(h trivial))
 ·rw[vc77]
  exact(dz (t:=ag) (fun m hm=>⟨trivial,hm⟩) _ rfl trivial (bB h (fun v0 h hv0=>h) (fun q0 h=>h)))
def c60:Con:=⟨[.dat TCS,.dat TVS],fun args hp K=>g2 (pD TCS) (pD TVS) (fun columns row=>(Sm TCS columns)/\(Sm TVS row)/\K (dB (M.bD columns row)) []) args hp,.plain,false⟩
abbrev C60:Ctx:=cx [(61,c61),(77,c77)] 54 [] 0 false
def ann60:=an [[kp 3],[kp 1048579],[kp 16],[kp 35],[kp 16777251],[kp 35],[kp 9007199254741027],[kp 16],[kp 16]] [[kp 0]]
abbrev s60_0 (columns:LC) (row:LV) (i0:Int) (v0:Unit):St:=⟨[(0,.data TCS columns),(1,.data TVS row),(5,dI i0)],[]⟩
abbrev LP60_0 (columns:LC) (row:LV) (m:Nat) (st_:St) (K:KX):Prop:=True/\cA (s60_0 columns row) Z0 (row.length:Int) (F.fq columns row) (fun v0:Unit=>True) (bO (fun v0:Unit=>True->K (.exit 0) (⟨[],[]⟩:St)) (fun q0:Unit=>K .ret (⟨[(4,dB false)],[]⟩:St))) m st_
def L60 (columns:LC) (row:LV):br:=lp1 0 (LP60_0 columns row)
theorem vc60 (columns:LC) (row:LV) (K:KA):vcT C60 (L60 columns row) ann60 f60 [.data TCS columns,.data TVS row] [] (.dat Ty.bool) K =
 ((Sm TCS columns)/\cond ((!(M.aW columns))==false) ((Sm TVS row)/\cond ((!(M.jL row))==false) (cond (!decide ((row.length:Int)=(columns.length:Int))) (K (dB false) []) (∃m_,True/\cA (s60_0 columns row) Z0 (row.length:Int) (F.fq columns row) (fun v0:Unit=>True) (bO (fun v0:Unit=>True->K (dB true) []) (fun q0:Unit=>K (dB false) [])) m_ (s60_0 columns row Z0 ()))) (K (dB false) [])) (K (dB false) [])):=by kernel_rfl
theorem lvc60_0 (columns:LC) (row:LV)  (i0:Int) (v0:Unit) (m:Nat) (K:KX):lvT C60 (L60 columns row) ann60 f60 0 0 (s60_0 columns row i0 v0) m K =
 (cond (decide (i0<(row.length:Int))) ((0<=i0)/\(i0<(row.length:Int))/\(0<=i0)/\(i0<(columns.length:Int))/\cond ((!decide ((nV row i0).1=(nC columns i0).1))==true) ((0<=i0)/\(i0<(row.length:Int))/\cond ((!decide ((nV row i0).1=Z0))==false) ((0<=i0)/\(i0<(columns.length:Int))/\cond (!(nC columns i0).2.1) (K .ret (⟨[(4,dB false)],[]⟩:St)) (nxT (LP60_0 columns row) m K (s60_0 columns row (wrap64 (i0+Z1)) ()))) (K .ret (⟨[(4,dB false)],[]⟩:St))) (nxT (LP60_0 columns row) m K (s60_0 columns row (wrap64 (i0+Z1)) ()))) (K (.exit 0) (⟨[],[]⟩:St))):=by kernel_rfl
theorem con60_ok:bL P 60 c60:=bX C60 func60 (kC con61_ok (kC con77_ok kN)) fun args hp K h0=>by
 obtain⟨columns,row,rfl,rfl,h_columns,h_row,hK⟩:=g2e h0
 have h:ok (F.jV columns row) (fun r=>K (dB r) []):=aB (F.qq columns row h_columns h_row) hK
 refine⟨rfl,ann60,(L60 columns row),(.dat Ty.bool),(bF (i0:=0) (by kernel_rfl) ?_),?_⟩
 ·rintro _ _ K ⟨hc0,i0,v0,rfl,hl0,rfl,hv0,h⟩
  exact cast (lvc60_0 _ _ _ _ _ _).symm (bC h (fun ht0 h=>⟨hl0,⟨ht0,⟨hl0,(oG h fun g1 h=>(oC h (fun _ h=>⟨hl0,⟨ht0,(oC h (fun _ h=>⟨hl0,⟨g1,(oC h (fun _ h=>h) fun _ h=>(bg (fun _ hm=>⟨hc0,hm⟩) _ rfl hl0 kU ht0 (cD h_row) trivial h))⟩⟩) fun _ h=>h)⟩⟩) fun _ h=>(bg (fun _ hm=>⟨hc0,hm⟩) _ rfl hl0 kU ht0 (cD h_row) trivial h)))⟩⟩⟩) fun h=>(h trivial))
 ·rw[vc60]
  exact⟨h_columns,(oC h (fun _ h=>⟨h_row,(oC h (fun _ h=>(oC h (fun _ h=>h) fun _ h=>(aZ (fun m hm=>⟨trivial,hm⟩) Z0 _ rfl (Int.natCast_nonneg 0) trivial (bB h (fun v0 h hv0=>h) (fun q0 h=>h))))) fun _ h=>h)⟩) fun _ h=>h)⟩
def c38:Con:=⟨[.dat TCS,.dat (Ty.sl TVS)],fun args hp K=>g2 (pD TCS) (pD (Ty.sl TVS)) (fun columns rows=>(Sm TCS columns)/\(Sm (Ty.sl TVS) rows)/\K (dB (M.fW columns rows)) []) args hp,.plain,false⟩
abbrev C38:Ctx:=cx [(60,c60),(61,c61)] 21 [] 0 false
def ann38:=an [[kp 3],[kp 35],[kp 547],[kp 35],[kp 262179],[kp 16],[kp 16]] [[kp 1]]
abbrev s38_0 (columns:LC) (rows:(List LV)) (i0:Int) (v0:Unit):St:=⟨[(0,.data TCS columns),(1,.data (Ty.sl TVS) rows),(5,dI i0)],[]⟩
abbrev LP38_0 (columns:LC) (rows:(List LV)) (m:Nat) (st_:St) (K:KX):Prop:=True/\ga (t:=TVS) (s38_0 columns rows) rows (F.fL columns rows) (fun v0:Unit=>True) (bO (fun v0:Unit=>True->K (.exit 0) (⟨[(0,.data TCS columns)],[]⟩:St)) (fun q0:Unit=>K .ret (⟨[(4,dB false)],[]⟩:St))) m st_
def L38 (columns:LC) (rows:(List LV)):br:=lp1 0 (LP38_0 columns rows)
theorem vc38 (columns:LC) (rows:(List LV)) (K:KA):vcT C38 (L38 columns rows) ann38 f38 [.data TCS columns,.data (Ty.sl TVS) rows] [] (.dat Ty.bool) K =
 (∃m_,True/\ga (t:=TVS) (s38_0 columns rows) rows (F.fL columns rows) (fun v0:Unit=>True) (bO (fun v0:Unit=>True->(Sm TCS columns)/\K (dB (M.aW columns)) []) (fun q0:Unit=>K (dB false) [])) m_ (s38_0 columns rows Z0 ())):=by kernel_rfl
theorem lvc38_0 (columns:LC) (rows:(List LV))  (i0:Int) (v0:Unit) (m:Nat) (K:KX):lvT C38 (L38 columns rows) ann38 f38 0 0 (s38_0 columns rows i0 v0) m K =
 (cond (decide (i0<(rows.length:Int))) ((0<=i0)/\(i0<(rows.length:Int))/\(Sm TCS columns)/\(Sm TVS (nth (t:=TVS) rows i0))/\cond (!(M.bD columns (nth (t:=TVS) rows i0))) (K .ret (⟨[(4,dB false)],[]⟩:St)) (nxT (LP38_0 columns rows) m K (s38_0 columns rows (wrap64 (i0+Z1)) ()))) (K (.exit 0) (⟨[(0,.data TCS columns)],[]⟩:St))):=by kernel_rfl
theorem con38_ok:bL P 38 c38:=bX C38 func38 (kC con60_ok (kC con61_ok kN)) fun args hp K h0=>by
 obtain⟨columns,rows,rfl,rfl,h_columns,h_rows,hK⟩:=g2e h0
 have h:ok (F.lq columns rows) (fun r=>K (dB r) []):=aB (F.rG columns rows h_columns h_rows) hK
 refine⟨rfl,ann38,(L38 columns rows),(.dat Ty.bool),(bF (i0:=0) (by kernel_rfl) ?_),?_⟩
 ·rintro _ _ K ⟨hc0,i0,v0,rfl,hl0,rfl,hv0,h⟩
  exact cast (lvc38_0 _ _ _ _ _ _).symm (eA (t:=TVS) hl0 h (fun ht0 h=>⟨hl0,⟨ht0,⟨h_columns,⟨(bW h_rows i0),(oC h (fun _ h=>h) fun _ h=>(ee (t:=TVS) (fun _ hm=>⟨hc0,hm⟩) _ rfl hl0 ht0 (cD h_rows) trivial h))⟩⟩⟩⟩) fun h=>(h trivial))
 ·rw[vc38]
  exact(dz (t:=TVS) (fun m hm=>⟨trivial,hm⟩) _ rfl trivial (bB h (fun v0 h hv0=>⟨h_columns,h⟩) (fun q0 h=>h)))
def c18:Con:=⟨[.dat TTb],fun args hp K=>g1 (pD TTb) (fun tables=>(Sm TTb tables)/\K (dB (M.bt tables)) []) args hp,.plain,false⟩
abbrev C18:Ctx:=cx [(38,c38)] 34 [] 0 false
def ann18:=an [[kp 1],[kp 9],[kp 137],[kp 9],[kp 1073741833],[kp 4],[kp 4]] [[kp 1]]
abbrev s18_0 (tables:LTb) (i0:Int) (v0:Unit):St:=⟨[(0,.data TTb tables),(3,dI i0)],[]⟩
abbrev LP18_0 (tables:LTb) (m:Nat) (st_:St) (K:KX):Prop:=True/\ga (t:=aj) (s18_0 tables) tables (F.eN tables) (fun v0:Unit=>True) (bO (fun v0:Unit=>True->K (.exit 0) (⟨[(0,.data TTb tables)],[]⟩:St)) (fun q0:Unit=>K .ret (⟨[(2,dB false)],[]⟩:St))) m st_
def L18 (tables:LTb):br:=lp1 0 (LP18_0 tables)
theorem vc18 (tables:LTb) (K:KA):vcT C18 (L18 tables) ann18 f18 [.data TTb tables] [] (.dat Ty.bool) K =
 (∃m_,True/\ga (t:=aj) (s18_0 tables) tables (F.eN tables) (fun v0:Unit=>True) (bO (fun v0:Unit=>True->K (dB (decide ((tables.length:Int)<=Z3))) []) (fun q0:Unit=>K (dB false) [])) m_ (s18_0 tables Z0 ())):=by kernel_rfl
theorem lvc18_0 (tables:LTb)  (i0:Int) (v0:Unit) (m:Nat) (K:KX):lvT C18 (L18 tables) ann18 f18 0 0 (s18_0 tables i0 v0) m K =
 (cond (decide (i0<(tables.length:Int))) ((0<=i0)/\(i0<(tables.length:Int))/\cond ((decide (Z6<((nT tables i0).2.1.length:Int)))==false) ((0<=i0)/\(i0<(tables.length:Int))/\(0<=i0)/\(i0<(tables.length:Int))/\(Sm TCS (nT tables i0).1)/\(Sm (Ty.sl TVS) (nT tables i0).2.1)/\cond (!(M.fW (nT tables i0).1 (nT tables i0).2.1)) (K .ret (⟨[(2,dB false)],[]⟩:St)) (nxT (LP18_0 tables) m K (s18_0 tables (wrap64 (i0+Z1)) ()))) (K .ret (⟨[(2,dB false)],[]⟩:St))) (K (.exit 0) (⟨[(0,.data TTb tables)],[]⟩:St))):=by kernel_rfl
theorem con18_ok:bL P 18 c18:=bX C18 func18 (kC con38_ok kN) fun args hp K h0=>by
 obtain⟨tables,rfl,rfl,h_tables,hK⟩:=g1e h0
 have h:ok (F.jt tables) (fun r=>K (dB r) []):=aB (F.pJ tables h_tables) hK
 refine⟨rfl,ann18,(L18 tables),(.dat Ty.bool),(bF (i0:=0) (by kernel_rfl) ?_),?_⟩
 ·rintro _ _ K ⟨hc0,i0,v0,rfl,hl0,rfl,hv0,h⟩
  exact cast (lvc18_0 _ _ _ _ _).symm (eA (t:=aj) hl0 h (fun ht0 h=>⟨hl0,⟨ht0,(oC h (fun _ h=>⟨hl0,⟨ht0,⟨hl0,⟨ht0,⟨(bW h_tables i0).1,⟨(bW h_tables i0).2.1,(oC h (fun _ h=>h) fun _ h=>(ee (t:=aj) (fun _ hm=>⟨hc0,hm⟩) _ rfl hl0 ht0 (cD h_tables) trivial h))⟩⟩⟩⟩⟩⟩) fun _ h=>h)⟩⟩) fun h=>(h trivial))
 ·rw[vc18]
  exact(dz (t:=aj) (fun m hm=>⟨trivial,hm⟩) _ rfl trivial (bB h (fun v0 h hv0=>h) (fun q0 h=>h)))
def c19:Con:=⟨[.dat TTb],fun args hp K=>g1 (pD TTb) (fun tables=>(Sm TTb tables)/\(LD tables fun r=>K (.own 0 none) [(0,.arr .dp aj r)])) args hp,.bor,false⟩
abbrev C19:Ctx:=cx [(39,c39)] 51 [] 0 true
def ann19:=an [[kp 1],[kp 9],[kp 25],[kp 2073],[kp 25],[kp 57],[.mineC .dp 5 1 800081 TVS,kp 121],[kp 536871033],[kp 121],[kp 121],[kp 25],[kp 4]] [[kp 8],[],[kp 57]]
abbrev s19_0 (tables:LTb) (i0:Int) (v0:LTb):St:=⟨[(0,.data TTb tables),(3,.own 7 none),(4,dI i0)],[(7,.arr .dp aj v0)]⟩
abbrev LP19_0 (tables:LTb) (m:Nat) (st_:St) (K:KX):Prop:=True/\cA (s19_0 tables) Z0 (tables.length:Int) (F.dX tables) (fun v0:LTb=>True) (bO (fun v0:LTb=>True->K (.exit 0) (⟨[(3,.own 7 none)],[(7,.arr .dp aj v0)]⟩:St)) (fun _=>False)) m st_
abbrev s19_2 (tables:LTb) (c2_0:Int) (c2_1:LTb) (c2_2:LC) (v2:Int×(List LV)):St:=⟨[(0,.data TTb tables),(3,.own 7 none),(4,dI c2_0),(5,.ptr 5 0),(6,dI v2.1)],[(7,.arr .dp aj c2_1),(5,.box [.own 14 none,.own 800081 none]),(14,.arr .sh ai c2_2),(800081,.arr .dp TVS v2.2)]⟩
abbrev LP19_2 (tables:LTb) (m:Nat) (st_:St) (K:KX):Prop:=∃c2_0:Int,∃c2_1:LTb,∃c2_2:LC,True/\gb (s19_2 tables c2_0 c2_1 c2_2) (F.cQ tables c2_0 c2_1 c2_2) (fun v2:Int×(List LV)=>True) (fun e2:(List LV)=>True->K (.exit 2) (⟨[(0,.data TTb tables),(3,.own 7 none),(4,dI c2_0),(5,.ptr 5 0)],[(7,.arr .dp aj c2_1),(5,.box [.own 14 none,.own 800081 none]),(14,.arr .sh ai c2_2),(800081,.arr .dp TVS e2)]⟩:St)) m st_
def L19 (tables:LTb):br:=lp2 0 (LP19_0 tables) 2 (LP19_2 tables)
theorem vc19 (tables:LTb) (K:KA):vcT C19 (L19 tables) ann19 f19 [.data TTb tables] [] .raw K =
 (∃m_,True/\cA (s19_0 tables) Z0 (tables.length:Int) (F.dX tables) (fun v0:LTb=>True) (bO (fun v0:LTb=>True->K (.own 0 none) [(0,.arr .dp aj v0)]) (fun _=>False)) m_ (s19_0 tables Z0 [])):=by kernel_rfl
theorem lvc19_0 (tables:LTb)  (i0:Int) (v0:LTb) (m:Nat) (K:KX):lvT C19 (L19 tables) ann19 f19 0 0 (s19_0 tables i0 v0) m K =
 (cond (decide (i0<(tables.length:Int))) ((0<=i0)/\(i0<(tables.length:Int))/\((([]:List ai.D).length+(nT tables i0).1.length) * 16<=lim)/\(∃m_,∃c2_0:Int,∃c2_1:LTb,∃c2_2:LC,True/\gb (s19_2 tables c2_0 c2_1 c2_2) (F.cQ tables c2_0 c2_1 c2_2) (fun v2:Int×(List LV)=>True) (fun e2:(List LV)=>True->((c2_1.length+[(c2_2,(e2,()))].length) * 48<=lim)/\(nxT (LP19_0 tables) m K (s19_0 tables (wrap64 (c2_0+Z1)) (c2_1++[(c2_2,(e2,()))])))) m_ (s19_2 tables i0 v0 ([]++(nT tables i0).1) (Z0,[])))) (K (.exit 0) (⟨[(3,.own 7 none)],[(7,.arr .dp aj v0)]⟩:St))):=by kernel_rfl
theorem lvc19_1 (tables:LTb) (c2_0:Int) (c2_1:LTb) (c2_2:LC) (v2:Int×(List LV)) (m:Nat) (K:KX):lvT C19 (L19 tables) ann19 f19 1 2 (s19_2 tables c2_0 c2_1 c2_2 v2) m K =
 ((0<=c2_0)/\(c2_0<(tables.length:Int))/\cond (decide (v2.1<((nT tables c2_0).2.1.length:Int))) ((0<=c2_0)/\(c2_0<(tables.length:Int))/\(0<=v2.1)/\(v2.1<((nT tables c2_0).2.1.length:Int))/\(Sm TVS (nth (t:=TVS) (nT tables c2_0).2.1 v2.1))/\(LD (nth (t:=TVS) (nT tables c2_0).2.1 v2.1) fun r1=>((v2.2.length+[r1].length) * 24<=lim)/\(nxT (LP19_2 tables) m K (s19_2 tables c2_0 c2_1 c2_2 (wrap64 (v2.1+Z1),(v2.2++[r1])))))) (K (.exit 2) (⟨[(0,.data TTb tables),(3,.own 7 none),(4,dI c2_0),(5,.ptr 5 0)],[(7,.arr .dp aj c2_1),(5,.box [.own 14 none,.own 800081 none]),(14,.arr .sh ai c2_2),(800081,.arr .dp TVS v2.2)]⟩:St))):=by kernel_rfl
theorem con19_ok:bL P 19 c19:=bX C19 func19 (kC con39_ok kN) fun args hp K h0=>by
 obtain⟨tables,rfl,rfl,h_tables,hK⟩:=g1e h0
 have h:ok (F.iO tables) (fun r=>K (.own 0 none) [(0,.arr .dp aj r)]):=aB (F.nD tables h_tables) (hK _ rfl)
 refine⟨rfl,ann19,(L19 tables),.raw,(tR (i0:=0) (i1:=2) (by kernel_rfl) ?_ ?_),?_⟩
 ·rintro _ _ K ⟨hc0,i0,v0,rfl,hl0,rfl,hv0,h⟩
  exact cast (lvc19_0 _ _ _ _ _).symm (bC h (fun ht0 h=>⟨hl0,⟨ht0,⟨(xp (lK ai) (bW h_tables i0).1 rfl),(cX (fun m hm=>⟨i0,v0,([]++(nT tables i0).1),trivial,hm⟩) _ rfl trivial (jk h (fun e2 h hv2=>(oG h fun _ h=>(bg (fun _ hm=>⟨hc0,hm⟩) _ rfl hl0 kU ht0 (cD h_tables) trivial h)))))⟩⟩⟩) fun h=>(h trivial))
 ·rintro _ _ K ⟨c2_0,c2_1,c2_2,hc2,v2,rfl,hv2,h⟩
  exact cast (lvc19_1 _ _ _ _ _ _ _).symm (ep h (fun m1 hm2 h=>(oG h fun g1 h=>(oG h fun g2 h=>(oC h (fun _ h=>⟨g1,⟨g2,(oG h fun _ h=>(oG h fun _ h=>⟨(bW (bW h_tables c2_0).2.1 v2.1),(oL h fun _ _ h=>(oG h fun _ h=>(cI (fun _ hm=>⟨c2_0,c2_1,c2_2,hc2,hm⟩) hm2 _ rfl trivial h)))⟩))⟩⟩) fun _ h=>((dY h :) trivial))))))
 ·rw[vc19]
  exact(aZ (fun m hm=>⟨trivial,hm⟩) Z0 _ rfl (Int.natCast_nonneg 0) trivial (bB h (fun v0 h hv0=>h) (fun _ h=>h.elim)))
def c7:Con:=⟨[.dat TTb],fun args hp K=>g1 (pD TTb) (fun tables=>(Sm TTb tables)/\(LD (M.cv tables) fun r=>K (.data aE r) [])) args hp,.plain,false⟩
abbrev C7:Ctx:=cx [(18,c18),(19,c19)] 14 [] 0 false
def ann7:=an [[kp 5],[kp 37],[kp 4],[.weak 8,kp 4]] []
abbrev S7_0 (tables:LTb) (K:KA):Prop:=(Sm TTb tables)/\(LD tables fun r1=>K (.data aE (r1,((List.replicate (tables.length:Int).toNat Z0),([],())))) [])
theorem vc7 (tables:LTb) (K:KA):vcT C7 aC ann7 f7 [.data TTb tables] [] (.dat aE) K =
 ((Sm TTb tables)/\cond (!(M.bt tables)) (K (.data aE ([],([],([],())))) []) (((Sm TTb tables)/\(LD tables fun r1=>Q0 (((tables.length:Int)=(tables.length:Int))/\(0<=(tables.length:Int))/\((tables.length:Int) * 8<=(lim:Int))/\K (.data aE (r1,((List.replicate (tables.length:Int).toNat Z0),([],())))) [])))/\(((tables.length:Int)=(tables.length:Int))/\(0<=(tables.length:Int))/\((tables.length:Int) * 8<=(lim:Int))/\Q0 (S7_0 tables K))/\(((Sm TTb tables)/\(LD tables fun r1=>((tables.length:Int)=(tables.length:Int))/\(0<=(tables.length:Int))/\((tables.length:Int) * 8<=(lim:Int))/\K (.data aE (r1,((List.replicate (tables.length:Int).toNat Z0),([],())))) []))/\(((tables.length:Int)=(tables.length:Int))/\(0<=(tables.length:Int))/\((tables.length:Int) * 8<=(lim:Int))/\(S7_0 tables K))))):=by kernel_rfl
theorem con7_ok:bL P 7 c7:=bX C7 func7 (kC con18_ok (kC con19_ok kN)) fun args hp K h0=>by
 obtain⟨tables,rfl,rfl,h_tables,hK⟩:=g1e h0
 have h:ok (F.ju tables) (fun r=>K (.data aE r) []):=aB (F.pe tables h_tables) (hK _ rfl)
 refine⟨rfl,ann7,aC,(.dat aE),(aQ (by kernel_rfl)),?_⟩
 ·rw[vc7]
  exact⟨h_tables,(oC h (fun _ h=>h) fun _ h=>(⟨⟨h_tables,(fun r1 er1=>(q0 (⟨rfl,⟨(Int.natCast_nonneg _),⟨(mm h_tables rfl),(have h:=(cF h r1 er1);h)⟩⟩⟩)))⟩,⟨rfl,⟨(Int.natCast_nonneg _),⟨(mm h_tables rfl),(q0 (⟨h_tables,(fun r1 er1=>(have h:=(cF h r1 er1);h))⟩))⟩⟩⟩,⟨⟨h_tables,(fun r1 er1=>⟨rfl,⟨(Int.natCast_nonneg _),⟨(mm h_tables rfl),(have h:=(cF h r1 er1);h)⟩⟩⟩)⟩,⟨rfl,⟨(Int.natCast_nonneg _),⟨(mm h_tables rfl),⟨h_tables,(fun r1 er1=>(have h:=(cF h r1 er1);h))⟩⟩⟩⟩⟩⟩))⟩
def c25:Con:=⟨[.dat bf],fun args hp K=>g1 (pD bf) (fun m=>K (dB (!M.inR m 0 1000)) []) args hp,.plain,false⟩
abbrev C25:Ctx:=cx [(26,c26)] 6 [] 0 false
def ann25:=an [[kp 1],[kp 4]] []
theorem vc25 (m:Int) (K:KA):vcT C25 aC ann25 f25 [dI m] [] (.dat Ty.bool) K =
 (K (dB (!(M.inR m Z0 (1000:Int)))) []):=by kernel_rfl
theorem con25_ok:bL P 25 c25:=bX C25 func25 (kC con26_ok kN) fun args hp K h0=>by
 obtain⟨m,rfl,rfl,hK⟩:=g1e h0
 have h:ok (F.lU m) (fun r=>K (dB r) []):=aB (F.nO m) hK
 refine⟨rfl,ann25,aC,(.dat Ty.bool),(aQ (by kernel_rfl)),?_⟩
 ·rw[vc25]
  exact h
def c46:Con:=⟨[.lent bf,.any],fun args hp K=>args2 (fun a0 a1=>gZ bf a0 fun xs=>kM 25 a1 (mC ((Sm (Ty.sl bf) xs)/\K (dI (M.idx (t:=bf) (fun e=>!M.inR e 0 1000) xs)) []))) args hp,.plain,false⟩
abbrev C46:Ctx:=cx [(25,c25)] 19 [] 0 false
def ann46:=an [[kp 3],[kp 387],[kp 899],[kp 419],[kp 65955],[kp 16],[kp 387],[kp 16]] [[kp 0]]
abbrev s46_0 (xs:LI) (i0:Int) (v0:Unit):St:=⟨[(0,.brw bf xs),(1,.fn 25 []),(7,dI (xs.length:Int)),(8,dI i0)],[]⟩
abbrev LP46_0 (xs:LI) (m:Nat) (st_:St) (K:KX):Prop:=True/\cA (s46_0 xs) Z0 (xs.length:Int) (F.bQ xs) (fun v0:Unit=>True) (bO (fun v0:Unit=>True->K (.exit 0) (⟨[],[]⟩:St)) (fun q0:Int=>K .ret (⟨[(4,dI q0)],[]⟩:St))) m st_
def L46 (xs:LI):br:=lp1 0 (LP46_0 xs)
theorem vc46 (xs:LI) (K:KA):vcT C46 (L46 xs) ann46 f46 [.brw bf xs,.fn 25 []] [] (.dat bf) K =
 (∃m_,True/\cA (s46_0 xs) Z0 (xs.length:Int) (F.bQ xs) (fun v0:Unit=>True) (bO (fun v0:Unit=>True->K (dI (-1:Int)) []) (fun q0:Int=>K (dI q0) [])) m_ (s46_0 xs Z0 ())):=by kernel_rfl
theorem lvc46_0 (xs:LI)  (i0:Int) (v0:Unit) (m:Nat) (K:KX):lvT C46 (L46 xs) ann46 f46 0 0 (s46_0 xs i0 v0) m K =
 (cond (decide (i0<(xs.length:Int))) ((0<=i0)/\(i0<(xs.length:Int))/\cond (!M.inR (nI xs i0) 0 1000) (K .ret (⟨[(4,dI i0)],[]⟩:St)) (nxT (LP46_0 xs) m K (s46_0 xs (wrap64 (i0+Z1)) ()))) (K (.exit 0) (⟨[],[]⟩:St))):=by kernel_rfl
theorem con46_ok:bL P 46 c46:=bX C46 func46 (kC con25_ok kN) fun args hp K h0=>by
 obtain⟨a0,a1,rfl,rfl,h1⟩:=bp h0
 obtain⟨xs,rfl,h2⟩:=bT h1
 obtain⟨cs1,rfl,h3⟩:=cZ h2
 obtain⟨rfl,h4⟩:=ez h3
 obtain⟨h_xs,hK⟩:=h4
 have h:ok (F.ff xs) (fun r=>K (dI r) []):=aB (F.ia xs h_xs) hK
 refine⟨rfl,ann46,(L46 xs),(.dat bf),(bF (i0:=0) (by kernel_rfl) ?_),?_⟩
 ·rintro _ _ K ⟨hc0,i0,v0,rfl,hl0,rfl,hv0,h⟩
  exact cast (lvc46_0 _ _ _ _ _).symm (bC h (fun ht0 h=>⟨hl0,⟨ht0,(oC h (fun _ h=>h) fun _ h=>(bg (fun _ hm=>⟨hc0,hm⟩) _ rfl hl0 kU ht0 (cD h_xs) trivial h))⟩⟩) fun h=>(h trivial))
 ·rw[vc46]
  exact(aZ (fun m hm=>⟨trivial,hm⟩) Z0 _ rfl (Int.natCast_nonneg 0) trivial (bB h (fun v0 h hv0=>h) (fun q0 h=>h)))
def c24:Con:=⟨[.lent bf,.any],fun args hp K=>args2 (fun a0 a1=>gZ bf a0 fun xs=>kM 25 a1 (mC ((Sm (Ty.sl bf) xs)/\K (dB (List.any xs (fun e=>!M.inR e 0 1000))) []))) args hp,.plain,false⟩
abbrev C24:Ctx:=cx [(25,c25),(46,c46)] 9 [] 0 false
def ann24:=an [[kp 3],[kp 16]] []
theorem vc24 (xs:LI) (K:KA):vcT C24 aC ann24 f24 [.brw bf xs,.fn 25 []] [] (.dat Ty.bool) K =
 ((Sm (Ty.sl bf) xs)/\K (dB (decide (Z0<=(M.idx (t:=bf) (fun e=>!M.inR e 0 1000) xs)))) []):=by kernel_rfl
theorem con24_ok:bL P 24 c24:=bX C24 func24 (kC con25_ok (kC con46_ok kN)) fun args hp K h0=>by
 obtain⟨a0,a1,rfl,rfl,h1⟩:=bp h0
 obtain⟨xs,rfl,h2⟩:=bT h1
 obtain⟨cs1,rfl,h3⟩:=cZ h2
 obtain⟨rfl,h4⟩:=ez h3
 obtain⟨h_xs,hK⟩:=h4
 have h:ok (F.cG xs) (fun r=>K (dB r) []):=aB (F.gk xs h_xs) hK
 refine⟨rfl,ann24,aC,(.dat Ty.bool),(aQ (by kernel_rfl)),?_⟩
 ·rw[vc24]
  exact⟨h_xs,h⟩
def c9:Con:=⟨[.dat aE],fun args hp K=>g1 (pD aE) (fun s=>(Sm aE s)/\(s.2.2.1=[])/\K (dB (M.kH s)) []) args hp,.plain,false⟩
abbrev C9:Ctx:=cx [(8,c8),(24,c24)] 53 [] 0 false
def ann9:=an [[.fixRow 1 aE,kp 2],[kp 268435458],[kp 4],[kp 6442450944],[.keep [33]],[],[],[],[],[kp 4]] [[kp 0]]
abbrev s9_0 (s:aE.D) (v0:Unit):St:=⟨[(31,dI (s.2.2.1.length:Int)),(32,dI Z0)],[]⟩
abbrev LP9_0 (s:aE.D) (m:Nat) (st_:St) (K:KX):Prop:=True/\gb (s9_0 s) (F.fu s) (fun v0:Unit=>True) (fun e0:Unit=>True->K (.exit 0) (⟨[],[]⟩:St)) m st_
def L9 (s:aE.D):br:=lp1 0 (LP9_0 s)
theorem vc9 (s:aE.D) (K:KA):vcT C9 (L9 s) ann9 (qC [(33,true)] f9) [.data aE s] [] (.dat Ty.bool) K =
 ((Sm TTb s.1)/\cond ((!(M.bt s.1))==false) (cond ((!decide ((s.2.1.length:Int)=(s.1.length:Int)))==false) (cond ((decide (Z3<(s.2.2.1.length:Int)))==false) ((Sm (Ty.sl bf) s.2.1)/\cond (List.any s.2.1 (fun e=>!M.inR e 0 1000)) (K (dB false) []) (∃m_,True/\gb (s9_0 s) (F.fu s) (fun v0:Unit=>True) (fun e0:Unit=>True->K (dB true) []) m_ (s9_0 s ()))) (K (dB false) [])) (K (dB false) [])) (K (dB false) [])):=by kernel_rfl
theorem lvc9_0 (s:aE.D)  (v0:Unit) (m:Nat) (K:KX):lvT C9 (L9 s) ann9 (qC [(33,true)] f9) 0 0 (s9_0 s v0) m K =
 (cond (decide (Z0<(s.2.2.1.length:Int))) False (K (.exit 0) (⟨[],[]⟩:St))):=by kernel_rfl
theorem con9_ok:bL P 9 c9:=Aj [(33,true)] C9 func9 (kC con8_ok (kC con24_ok kN)) fun args hp K h0=>by
 obtain⟨s,rfl,rfl,h_s,p0,hK⟩:=g1e h0
 have h:ok (F.jY s) (fun r=>K (dB r) []):=aB (F.qD s h_s p0) hK
 refine⟨rfl,ann9,(L9 s),(.dat Ty.bool),(bF (i0:=0) (by kernel_rfl) ?_),?_⟩
 ·rintro _ _ K ⟨hc0,v0,rfl,hv0,h⟩
  exact cast (lvc9_0 _ _ _ _).symm (ep h (fun m1 hm0 h=>(oC h (fun _ h=>h) fun _ h=>((dY h :) trivial))))
 ·rw[vc9]
  exact⟨h_s.1,(oC h (fun _ h=>(oC h (fun _ h=>(oC h (fun _ h=>⟨h_s.2.1,(oC h (fun _ h=>h) fun _ h=>(cX (fun m hm=>⟨trivial,hm⟩) _ rfl trivial (jk h (fun e0 h hv0=>h))))⟩) fun _ h=>h)) fun _ h=>h)) fun _ h=>h)⟩
def c29:Con:=⟨[.dat ag],fun args hp K=>g1 (pD ag) (fun v=>(Sm ag v)/\K (dB (M.aK v)) []) args hp,.plain,false⟩
abbrev C29:Ctx:=cx [(56,c56)] 5 [] 0 false
def ann29:=an [[.fixRow 1 ag,kp 2],[kp 4]] []
theorem vc29 (v:ag.D) (K:KA):vcT C29 aC ann29 f29 [.data ag v] [] (.dat Ty.bool) K =
 ((Sm ag v)/\K (dB (M.aK v)) []):=by kernel_rfl
theorem con29_ok:bL P 29 c29:=bX C29 func29 (kC con56_ok kN) fun args hp K h0=>by
 obtain⟨v,rfl,rfl,h_v,hK⟩:=g1e h0
 have h:ok (F.oh v) (fun r=>K (dB r) []):=aB (F.qv v h_v) hK
 refine⟨rfl,ann29,aC,(.dat Ty.bool),(aQ (by kernel_rfl)),?_⟩
 ·rw[vc29]
  exact⟨h_v,h⟩
def c10:Con:=⟨[],fun args hp K=>zp (K (dB true) []) args hp,.plain,false⟩
abbrev C10:Ctx:=cx [(29,c29)] 8 [] 0 false
def ann10:=an [[kp 0],[kp 1]] []
theorem vc10  (K:KA):vcT C10 aC ann10 f10 [] [] (.dat Ty.bool) K =
 ((Sm ag (Z1,(Z3,((⟨#[]⟩:ByteArray),()))))/\cond ((M.aK (Z1,(Z3,((⟨#[]⟩:ByteArray),()))))==true) ((Sm ag ((9:Int),(Z0,((⟨#[]⟩:ByteArray),()))))/\K (dB (!(M.aK ((9:Int),(Z0,((⟨#[]⟩:ByteArray),())))))) []) (K (dB false) [])):=by kernel_rfl
theorem con10_ok:bL P 10 c10:=bX C10 func10 (kC con29_ok kN) fun args hp K h0=>by
 obtain⟨rfl,rfl,h1⟩:=vK h0
 have hK:=h1
 have h:ok (F.mX) (fun r=>K (dB r) []):=aB (F.sS) hK
 refine⟨rfl,ann10,aC,(.dat Ty.bool),(aQ (by kernel_rfl)),?_⟩
 ·rw[vc10]
  exact⟨(show Sm ag _ from⟨trivial,(show Sm (Ty.pair bf (Ty.pair Ty.str Ty.unit)) _ from⟨trivial,(show Sm (Ty.pair Ty.str Ty.unit) _ from⟨(Nat.le_of_ble_eq_true rfl),trivial⟩)⟩)⟩),(oC h (fun _ h=>⟨(show Sm ag _ from⟨trivial,(show Sm (Ty.pair bf (Ty.pair Ty.str Ty.unit)) _ from⟨trivial,(show Sm (Ty.pair Ty.str Ty.unit) _ from⟨(Nat.le_of_ble_eq_true rfl),trivial⟩)⟩)⟩),h⟩) fun _ h=>h)⟩
def c3:Con:=⟨[.dat TBy],fun args hp K=>g1 (pD TBy) (fun code=>(Ln TBy code)/\(M.ak code)/\K (dB true) []) args hp,.plain,false⟩
abbrev C3:Ctx:=cx [(4,c4),(5,c5),(6,c6),(7,c7),(8,c8),(9,c9),(10,c10)] 34 [] 0 false
def ann3:=an [[kp 1],[kp 129],[kp 4],[kp 8],[.fixRow 4 aE,kp 24],[kp 4]] []
theorem vc3 (code:LI) (K:KA):vcT C3 aC ann3 f3 [.data TBy code] [] (.dat Ty.bool) K =
 (cond (decide ((1048576:Int)<(code.length:Int))) (K (dB true) []) ((Sm TBy code)/\(M.ak code)/\(LD (M.cT code) fun r1=>(Sm TTb r1)/\(LD (M.cv r1) fun r2=>(Sm TTb r1)/\(LD (M.cv r1) fun r3=>(Sm aE r2)/\(Sm aE r3)/\(r2=r3)/\(r2.2.2.1=[])/\cond (true==true) ((Sm TTb r1)/\cond ((!(M.bt r1))==false) ((Sm aE r2)/\(r2.2.2.1=[])/\cond ((M.kH r2)==true) (cond ((decide ((r2.2.2.1.length:Int)=Z0))==true) (K (dB true) []) (K (dB false) [])) (K (dB false) [])) (K (dB true) [])) (K (dB false) [])))))):=by kernel_rfl
theorem con3_ok:bL P 3 c3:=bX C3 func3 (kC con4_ok (kC con5_ok (kC con6_ok (kC con7_ok (kC con8_ok (kC con9_ok (kC con10_ok kN))))))) fun args hp K h0=>by
 obtain⟨code,rfl,rfl,h_code,p0,hK⟩:=g1e h0
 have h:ok (F.gM code) (fun r=>K (dB r) []):=aB (F.nr code h_code p0) hK
 refine⟨rfl,ann3,aC,(.dat Ty.bool),(aQ (by kernel_rfl)),?_⟩
 ·rw[vc3]
  exact(oC h (fun _ h=>h) fun _ h=>(oG h fun _ h=>⟨p0,(oL h fun _ _ h=>(oG h fun g1 h=>(oL h fun _ _ h=>⟨g1,(oL h fun _ _ h=>(oG h fun g2 h=>(oG h fun _ h=>(oG h fun _ h=>(oG h fun g3 h=>(oC h (fun _ h=>⟨g1,(oC h (fun _ h=>⟨g2,⟨g3,(oC h (fun _ h=>(oC h (fun _ h=>h) fun _ h=>h)) fun _ h=>h)⟩⟩) fun _ h=>h)⟩) fun _ h=>h))))))⟩)))⟩))
end Go.AE
