/- Contracts. -/
import Derived.Test.YtmkgiaecgkicoaaGreatAeSeat
import Derived.Test.YtmkgiaecgkicoaaGreatAeEq
import Derived.Test.YtmkgiaecgkicoaaGreatAeDel
import Derived.Test.YtmkgiaecgkicoaaGreatAeC0
namespace Go.AE
open Go Go.RowKit Go.Proofs.Tryz
set_option maxRecDepth 100000
set_option maxHeartbeats 2000000
set_option linter.unusedVariables false
def c55:Con:=⟨[.dat TTb,.dat (Ty.sl TBond)],fun args hp K=>g2 (pD TTb) (pD (Ty.sl TBond)) (fun tables bonds=>(Sm TTb tables)/\(Sm (Ty.sl TBond) bonds)/\(∀e∈bonds,(M.aA tables&&M.aX tables e)=true)/\K (dB (!List.any bonds (fun e=>decide (0<=M.broken tables e)))) []) args hp,.bor,false⟩
abbrev C55:Ctx:=cx [(118,c118),(119,c119)] 9 [] 0 false
def ann55:=an [[.fixBox 2,kp 6],[kp 16]] []
theorem vc55 (tables:LTb) (bonds:(List TBond.D)) (K:KA):vcT C55 aq ann55 f55 [.data TTb tables,.data (Ty.sl TBond) bonds] [] (.dat Ty.bool) K =
 (((Sm (Ty.sl TBond) bonds)/\(Sm TTb tables)/\(∀e∈bonds,(M.aA tables&&M.aX tables e)=true)/\K (dB (!(List.any bonds (fun e=>decide (0<=M.broken tables e))))) [])\/False):=by kernel_rfl
theorem con55_ok:aN P 55 c55:=aP C55 func55 (kC con118_ok (kC con119_ok kN)) fun args hp K h0=>by
 obtain⟨tables,bonds,rfl,rfl,h_tables,h_bonds,p0,hK⟩:=g2e h0
 have h:ok (F.Bv tables bonds) (fun r=>K (dB r) []):=ak (F.BI tables bonds h_tables h_bonds p0) hK
 refine⟨rfl,ann55,aq,(.dat Ty.bool),(az (by kernel_rfl)),?_⟩
 ·rw[vc55]
  exact(Or.inl (⟨h_bonds,⟨h_tables,⟨p0,h⟩⟩⟩))
def c77:Con:=⟨[.dat TTb,.dat (Ty.sl TBond)],fun args hp K=>g2 (pD TTb) (pD (Ty.sl TBond)) (fun tables bonds=>(Sm TTb tables)/\(Sm (Ty.sl TBond) bonds)/\K (dB (M.aA tables&&List.all bonds (M.aX tables))) []) args hp,.plain,false⟩
abbrev C77:Ctx:=cx [(28,c28),(118,c118),(140,c140)] 13 [] 0 false
def ann77:=an [[.fixBox 2,kp 6],[kp 16]] []
theorem vc77 (tables:LTb) (bonds:(List TBond.D)) (K:KA):vcT C77 aq ann77 f77 [.data TTb tables,.data (Ty.sl TBond) bonds] [] (.dat Ty.bool) K =
 ((Sm TTb tables)/\cond ((M.aA tables)==true) (False\/((Sm (Ty.sl TBond) bonds)/\(Sm TTb tables)/\K (dB (!(List.any bonds (fun e=>!M.aX tables e)))) [])) (K (dB false) [])):=by kernel_rfl
theorem con77_ok:aN P 77 c77:=aP C77 func77 (kC con28_ok (kC con118_ok (kC con140_ok kN))) fun args hp K h0=>by
 obtain⟨tables,bonds,rfl,rfl,h_tables,h_bonds,hK⟩:=g2e h0
 have h:ok (F.pX tables bonds) (fun r=>K (dB r) []):=ak (F.yf tables bonds h_tables h_bonds) hK
 refine⟨rfl,ann77,aq,(.dat Ty.bool),(az (by kernel_rfl)),?_⟩
 ·rw[vc77]
  exact⟨h_tables,(oC h (fun _ h=>(Or.inr (⟨h_bonds,⟨h_tables,h⟩⟩))) fun _ h=>h)⟩
def c29:Con:=⟨[.dat TTb,.dat (Ty.sl TBond)],fun args hp K=>g2 (pD TTb) (pD (Ty.sl TBond)) (fun tables bonds=>(Sm TTb tables)/\(Sm (Ty.sl TBond) bonds)/\K (dB (M.bA tables bonds)) []) args hp,.bor,false⟩
abbrev C29:Ctx:=cx [(55,c55),(77,c77)] 23 [] 0 false
def ann29:=an [[kp 3],[kp 16]] []
theorem vc29 (tables:LTb) (bonds:(List TBond.D)) (K:KA):vcT C29 aq ann29 f29 [.data TTb tables,.data (Ty.sl TBond) bonds] [] (.dat Ty.bool) K =
 (cond ((decide ((bonds.length:Int)=Z0))==false) (cond ((decide ((bonds.length:Int)<=Z4))==true) ((Sm TTb tables)/\(Sm (Ty.sl TBond) bonds)/\cond ((M.aA tables&&List.all bonds (M.aX tables))==true) ((Sm TTb tables)/\(Sm (Ty.sl TBond) bonds)/\(∀e∈bonds,(M.aA tables&&M.aX tables e)=true)/\K (dB (!List.any bonds (fun e=>decide (0<=M.broken tables e)))) []) (K (dB false) [])) (K (dB false) [])) (K (dB true) [])):=by kernel_rfl
theorem con29_ok:aN P 29 c29:=aP C29 func29 (kC con55_ok (kC con77_ok kN)) fun args hp K h0=>by
 obtain⟨tables,bonds,rfl,rfl,h_tables,h_bonds,hK⟩:=g2e h0
 have h:ok (F.mF tables bonds) (fun r=>K (dB r) []):=ak (F.uz tables bonds h_tables h_bonds) hK
 refine⟨rfl,ann29,aq,(.dat Ty.bool),(az (by kernel_rfl)),?_⟩
 ·rw[vc29]
  exact(oC h (fun _ h=>(oC h (fun _ h=>⟨h_tables,⟨h_bonds,(oC h (fun _ h=>⟨h_tables,⟨h_bonds,(oG h fun _ h=>h)⟩⟩) fun _ h=>h)⟩⟩) fun _ h=>h)) fun _ h=>h)
def c16:Con:=⟨[.dat TTb,.dat (Ty.sl TBond),.dat (Ty.sl TChange)],fun args hp K=>g3 (pD TTb) (pD (Ty.sl TBond)) (pD (Ty.sl TChange)) (fun tables bonds changes=>(Sm TTb tables)/\(Sm (Ty.sl TBond) bonds)/\(Sm (Ty.sl TChange) changes)/\(LD (M.cE tables bonds changes) fun r=>K (.tup [.own 0 none,dB r.2]) [(0,.arr .dp TTable r.1)])) args hp,.bor,false⟩
abbrev C16:Ctx:=cx [(27,c27),(28,c28),(29,c29),(54,c54),(55,c55)] 50 [] 0 true
def ann16:=an [[kp 7],[kp 67108871],[kp 192],[kp 262],[kp 3758096642],[kp 8053063938],[.fixRow 10 TChange,kp 3758097666],[kp 3758102786],[kp 70372502276354],[kp 3758096642],[.ren 8 28,kp 3758096642],[kp 192]] [[kp 256]]
abbrev s16_0 (tables:LTb) (bonds:(List TBond.D)) (changes:(List TChange.D)) (i0:Int) (v0:LTb):St:=⟨[(1,.data (Ty.sl TBond) bonds),(8,.own 28 none),(29,.data (Ty.sl TChange) changes),(30,dI (changes.length:Int)),(31,dI i0)],[(28,.arr .dp TTable v0)]⟩
abbrev LP16_0 (tables:LTb) (bonds:(List TBond.D)) (changes:(List TChange.D)) (m:Nat) (st_:St) (K:KX):Prop:=True/\bI (t:=TChange) (s16_0 tables bonds changes) changes (F.dP tables bonds changes) (fun v0:LTb=>True) (aR (fun v0:LTb=>True->K (.exit 0) (⟨[(8,.own 28 none)],[(28,.arr .dp TTable v0)]⟩:St)) (fun _=>False)) m st_
def L16 (tables:LTb) (bonds:(List TBond.D)) (changes:(List TChange.D)):aW:=lp1 0 (LP16_0 tables bonds changes)
theorem vc16 (tables:LTb) (bonds:(List TBond.D)) (changes:(List TChange.D)) (K:KA):vcT C16 (L16 tables bonds changes) ann16 f16 [.data TTb tables,.data (Ty.sl TBond) bonds,.data (Ty.sl TChange) changes] [] .raw K =
 ((Sm TTb tables)/\cond ((!(M.aA tables))==false) ((Sm TTb tables)/\(Sm (Ty.sl TBond) bonds)/\cond ((!(M.bA tables bonds))==false) (cond (decide ((8:Int)<(changes.length:Int))) (K (.tup [.own 0 none,dB false]) [(0,.arr .dp TTable [])]) ((Sm TTb tables)/\(LD tables fun r1=>(∃m_,True/\bI (t:=TChange) (s16_0 tables bonds changes) changes (F.dP tables bonds changes) (fun v0:LTb=>True) (aR (fun v0:LTb=>True->K (.tup [.own 0 none,dB true]) [(0,.arr .dp TTable v0)]) (fun _=>False)) m_ (s16_0 tables bonds changes Z0 r1))))) (K (.tup [.own 0 none,dB false]) [(0,.arr .dp TTable [])])) (K (.tup [.own 0 none,dB false]) [(0,.arr .dp TTable [])])):=by kernel_rfl
theorem lvc16_0 (tables:LTb) (bonds:(List TBond.D)) (changes:(List TChange.D))  (i0:Int) (v0:LTb) (m:Nat) (K:KX):lvT C16 (L16 tables bonds changes) ann16 f16 0 0 (s16_0 tables bonds changes i0 v0) m K =
 (cond (decide (i0<(changes.length:Int))) ((0<=i0)/\(i0<(changes.length:Int))/\(Sm TTb v0)/\(Sm TChange (nth (t:=TChange) changes i0))/\(LD (cond (M.bf v0 (nth (t:=TChange) changes i0)) (M.bu v0 (nth (t:=TChange) changes i0)) [],M.bf v0 (nth (t:=TChange) changes i0)) fun r2=>cond (r2.2==true) ((Sm TTb r2.1)/\(Sm (Ty.sl TBond) bonds)/\(∀e∈bonds,(M.aA r2.1&&M.aX r2.1 e)=true)/\cond (!List.any bonds (fun e=>decide (0<=M.broken r2.1 e))) (nxT (LP16_0 tables bonds changes) m K (s16_0 tables bonds changes (wrap64 (i0+Z1)) r2.1)) (nxT (LP16_0 tables bonds changes) m K (s16_0 tables bonds changes (wrap64 (i0+Z1)) v0))) (nxT (LP16_0 tables bonds changes) m K (s16_0 tables bonds changes (wrap64 (i0+Z1)) v0)))) (K (.exit 0) (⟨[(8,.own 28 none)],[(28,.arr .dp TTable v0)]⟩:St))):=by kernel_rfl
theorem con16_ok:aN P 16 c16:=aP C16 func16 (kC con27_ok (kC con28_ok (kC con29_ok (kC con54_ok (kC con55_ok kN))))) fun args hp K h0=>by
 obtain⟨tables,bonds,changes,rfl,rfl,h_tables,h_bonds,h_changes,hK⟩:=g3e h0
 have h:ok (F.kO tables bonds changes) (fun r=>K (.tup [.own 0 none,dB r.2]) [(0,.arr .dp TTable r.1)]):=ak (F.th tables bonds changes h_tables h_bonds h_changes) (hK _ rfl)
 refine⟨rfl,ann16,(L16 tables bonds changes),.raw,(aI (i0:=0) (by kernel_rfl) ?_),?_⟩
 ·rintro _ _ K ⟨hc0,i0,v0,rfl,hl0,rfl,hv0,h⟩
  exact cast (lvc16_0 _ _ _ _ _ _ _).symm (br (t:=TChange) hl0 h (fun ht0 h=>⟨hl0,⟨ht0,(oG h fun _ h=>⟨(ay h_changes i0),(oL h fun _ _ h=>(oC h (fun _ h=>(oG h fun _ h=>⟨h_bonds,(oG h fun _ h=>(oC h (fun _ h=>(aT (t:=TChange) (fun _ hm=>⟨hc0,hm⟩) _ rfl hl0 ht0 (aM h_changes) trivial h)) fun _ h=>(aT (t:=TChange) (fun _ hm=>⟨hc0,hm⟩) _ rfl hl0 ht0 (aM h_changes) trivial h)))⟩)) fun _ h=>(aT (t:=TChange) (fun _ hm=>⟨hc0,hm⟩) _ rfl hl0 ht0 (aM h_changes) trivial h)))⟩)⟩⟩) fun h=>(h trivial))
 ·rw[vc16]
  exact⟨h_tables,(oC h (fun _ h=>⟨h_tables,⟨h_bonds,(oC h (fun _ h=>(oC h (fun _ h=>h) fun _ h=>⟨h_tables,(oL h fun _ _ h=>(aZ (t:=TChange) (fun m hm=>⟨trivial,hm⟩) _ rfl trivial (aF h (fun v0 h hv0=>h) (fun _ h=>h.elim))))⟩)) fun _ h=>h)⟩⟩) fun _ h=>h)⟩
def c182:Con:=⟨[.dat ai,.dat ai],fun args hp K=>g2 (pD ai) (pD ai) (fun x y=>(x=y)/\K (dB true) []) args hp,.plain,false⟩
abbrev C182:Ctx:=cx [] 15 [] 0 false
def ann182:=an [[.fixRow 2 ai,.fixRow 3 ai,kp 12],[kp 524],[kp 16],[kp 16384],[kp 16],[kp 16]] []
theorem vc182 (x:ai.D) (y:ai.D) (K:KA):vcT C182 aq ann182 f182 [.data ai x,.data ai y] [] (.dat Ty.bool) K =
 (cond (!decide (x.1=y.1)) (K (dB false) []) (cond (!(Ty.beq Ty.bool x.2.1 y.2.1)) (K (dB false) []) (K (dB true) []))):=by kernel_rfl
theorem con182_ok:aN P 182 c182:=aP C182 func182 kN fun args hp K h0=>by
 obtain⟨x,y,rfl,rfl,p0,hK⟩:=g2e h0
 have h:ok (F.oz x y) (fun r=>K (dB r) []):=ak (F.wJ x y p0) hK
 refine⟨rfl,ann182,aq,(.dat Ty.bool),(az (by kernel_rfl)),?_⟩
 ·rw[vc182]
  exact(oC h (fun _ h=>h) fun _ h=>(oC h (fun _ h=>h) fun _ h=>h))
def c120:Con:=⟨[.dat TCS,.dat TCS],fun args hp K=>g2 (pD TCS) (pD TCS) (fun x y=>(Sm TCS x)/\(Sm TCS y)/\(x=y)/\K (dB true) []) args hp,.bor,false⟩
abbrev C120:Ctx:=cx [(182,c182)] 27 [] 0 false
def ann120:=an [[kp 3],[kp 1027],[kp 16],[kp 35],[kp 16419],[kp 35],[kp 67108899],[kp 16],[kp 16]] [[kp 0]]
abbrev s120_0 (x:LC) (y:LC) (i0:Int) (v0:Unit):St:=⟨[(0,.data TCS x),(1,.data TCS y),(5,dI i0)],[]⟩
abbrev LP120_0 (x:LC) (y:LC) (m:Nat) (st_:St) (K:KX):Prop:=True/\aY (s120_0 x y) Z0 (x.length:Int) (F.fW x y) (fun v0:Unit=>True) (aR (fun v0:Unit=>True->K (.exit 0) (⟨[],[]⟩:St)) (fun q0:Unit=>K .ret (⟨[(4,dB false)],[]⟩:St))) m st_
def L120 (x:LC) (y:LC):aW:=lp1 0 (LP120_0 x y)
theorem vc120 (x:LC) (y:LC) (K:KA):vcT C120 (L120 x y) ann120 f120 [.data TCS x,.data TCS y] [] (.dat Ty.bool) K =
 (cond (!decide ((x.length:Int)=(y.length:Int))) (K (dB false) []) (∃m_,True/\aY (s120_0 x y) Z0 (x.length:Int) (F.fW x y) (fun v0:Unit=>True) (aR (fun v0:Unit=>True->K (dB true) []) (fun q0:Unit=>K (dB false) [])) m_ (s120_0 x y Z0 ()))):=by kernel_rfl
theorem lvc120_0 (x:LC) (y:LC)  (i0:Int) (v0:Unit) (m:Nat) (K:KX):lvT C120 (L120 x y) ann120 f120 0 0 (s120_0 x y i0 v0) m K =
 (cond (decide (i0<(x.length:Int))) ((0<=i0)/\(i0<(x.length:Int))/\(0<=i0)/\(i0<(y.length:Int))/\((nC x i0)=(nC y i0))/\cond (!true) (K .ret (⟨[(4,dB false)],[]⟩:St)) (nxT (LP120_0 x y) m K (s120_0 x y (wrap64 (i0+Z1)) ()))) (K (.exit 0) (⟨[],[]⟩:St))):=by kernel_rfl
theorem con120_ok:aN P 120 c120:=aP C120 func120 (kC con182_ok kN) fun args hp K h0=>by
 obtain⟨x,y,rfl,rfl,h_x,h_y,p0,hK⟩:=g2e h0
 have h:ok (F.mN x y) (fun r=>K (dB r) []):=ak (F.uA x y h_x h_y p0) hK
 refine⟨rfl,ann120,(L120 x y),(.dat Ty.bool),(aI (i0:=0) (by kernel_rfl) ?_),?_⟩
 ·rintro _ _ K ⟨hc0,i0,v0,rfl,hl0,rfl,hv0,h⟩
  exact cast (lvc120_0 _ _ _ _ _ _).symm (aL h (fun ht0 h=>⟨hl0,⟨ht0,⟨hl0,(oG h fun _ h=>(oG h fun _ h=>(oC h (fun _ h=>h) fun _ h=>(aE (fun _ hm=>⟨hc0,hm⟩) _ rfl hl0 dG ht0 (aM h_x) trivial h))))⟩⟩⟩) fun h=>(h trivial))
 ·rw[vc120]
  exact(oC h (fun _ h=>h) fun _ h=>(aD (fun m hm=>⟨trivial,hm⟩) Z0 _ rfl (Int.natCast_nonneg 0) trivial (aF h (fun v0 h hv0=>h) (fun q0 h=>h))))
def c157:Con:=⟨[.dat aa,.dat aa],fun args hp K=>g2 (pD aa) (pD aa) (fun x y=>(Sm aa x)/\(Sm aa y)/\(x=y)/\K (dB true) []) args hp,.plain,false⟩
abbrev C157:Ctx:=cx [] 20 [] 0 false
def ann157:=an [[.fixRow 2 aa,.fixRow 3 aa,kp 12],[kp 524],[kp 16],[kp 16396],[kp 16],[kp 524288],[kp 16],[kp 16]] []
theorem vc157 (x:aa.D) (y:aa.D) (K:KA):vcT C157 aq ann157 f157 [.data aa x,.data aa y] [] (.dat Ty.bool) K =
 (cond (!decide (x.1=y.1)) (K (dB false) []) (cond (!decide (x.2.1=y.2.1)) (K (dB false) []) (cond (!decide (x.2.2.1=y.2.2.1)) (K (dB false) []) (K (dB true) [])))):=by kernel_rfl
theorem con157_ok:aN P 157 c157:=aP C157 func157 kN fun args hp K h0=>by
 obtain⟨x,y,rfl,rfl,h_x,h_y,p0,hK⟩:=g2e h0
 have h:ok (F.oW x y) (fun r=>K (dB r) []):=ak (F.yu x y h_x h_y p0) hK
 refine⟨rfl,ann157,aq,(.dat Ty.bool),(az (by kernel_rfl)),?_⟩
 ·rw[vc157]
  exact(oC h (fun _ h=>h) fun _ h=>(oC h (fun _ h=>h) fun _ h=>(oC h (fun _ h=>h) fun _ h=>h)))
def c89:Con:=⟨[.dat TVS,.dat TVS],fun args hp K=>g2 (pD TVS) (pD TVS) (fun x y=>(Sm TVS x)/\(Sm TVS y)/\(x=y)/\K (dB true) []) args hp,.bor,false⟩
abbrev C89:Ctx:=cx [(157,c157)] 27 [] 0 false
def ann89:=an [[kp 3],[kp 1027],[kp 16],[kp 35],[kp 16419],[kp 35],[kp 67108899],[kp 16],[kp 16]] [[kp 0]]
abbrev s89_0 (x:LV) (y:LV) (i0:Int) (v0:Unit):St:=⟨[(0,.data TVS x),(1,.data TVS y),(5,dI i0)],[]⟩
abbrev LP89_0 (x:LV) (y:LV) (m:Nat) (st_:St) (K:KX):Prop:=True/\aY (s89_0 x y) Z0 (x.length:Int) (F.gN x y) (fun v0:Unit=>True) (aR (fun v0:Unit=>True->K (.exit 0) (⟨[],[]⟩:St)) (fun q0:Unit=>K .ret (⟨[(4,dB false)],[]⟩:St))) m st_
def L89 (x:LV) (y:LV):aW:=lp1 0 (LP89_0 x y)
theorem vc89 (x:LV) (y:LV) (K:KA):vcT C89 (L89 x y) ann89 f89 [.data TVS x,.data TVS y] [] (.dat Ty.bool) K =
 (cond (!decide ((x.length:Int)=(y.length:Int))) (K (dB false) []) (∃m_,True/\aY (s89_0 x y) Z0 (x.length:Int) (F.gN x y) (fun v0:Unit=>True) (aR (fun v0:Unit=>True->K (dB true) []) (fun q0:Unit=>K (dB false) [])) m_ (s89_0 x y Z0 ()))):=by kernel_rfl
theorem lvc89_0 (x:LV) (y:LV)  (i0:Int) (v0:Unit) (m:Nat) (K:KX):lvT C89 (L89 x y) ann89 f89 0 0 (s89_0 x y i0 v0) m K =
 (cond (decide (i0<(x.length:Int))) ((0<=i0)/\(i0<(x.length:Int))/\(0<=i0)/\(i0<(y.length:Int))/\(Sm aa (nV x i0))/\(Sm aa (nV y i0))/\((nV x i0)=(nV y i0))/\cond (!true) (K .ret (⟨[(4,dB false)],[]⟩:St)) (nxT (LP89_0 x y) m K (s89_0 x y (wrap64 (i0+Z1)) ()))) (K (.exit 0) (⟨[],[]⟩:St))):=by kernel_rfl
theorem con89_ok:aN P 89 c89:=aP C89 func89 (kC con157_ok kN) fun args hp K h0=>by
 obtain⟨x,y,rfl,rfl,h_x,h_y,p0,hK⟩:=g2e h0
 have h:ok (F.oe x y) (fun r=>K (dB r) []):=ak (F.wO x y h_x h_y p0) hK
 refine⟨rfl,ann89,(L89 x y),(.dat Ty.bool),(aI (i0:=0) (by kernel_rfl) ?_),?_⟩
 ·rintro _ _ K ⟨hc0,i0,v0,rfl,hl0,rfl,hv0,h⟩
  exact cast (lvc89_0 _ _ _ _ _ _).symm (aL h (fun ht0 h=>⟨hl0,⟨ht0,⟨hl0,(oG h fun _ h=>⟨(ay h_x i0),⟨(ay h_y i0),(oG h fun _ h=>(oC h (fun _ h=>h) fun _ h=>(aE (fun _ hm=>⟨hc0,hm⟩) _ rfl hl0 dG ht0 (aM h_x) trivial h)))⟩⟩)⟩⟩⟩) fun h=>(h trivial))
 ·rw[vc89]
  exact(oC h (fun _ h=>h) fun _ h=>(aD (fun m hm=>⟨trivial,hm⟩) Z0 _ rfl (Int.natCast_nonneg 0) trivial (aF h (fun v0 h hv0=>h) (fun q0 h=>h))))
def c121:Con:=⟨[.dat (Ty.sl TVS),.dat (Ty.sl TVS)],fun args hp K=>g2 (pD (Ty.sl TVS)) (pD (Ty.sl TVS)) (fun x y=>(Sm (Ty.sl TVS) x)/\(Sm (Ty.sl TVS) y)/\(x=y)/\K (dB true) []) args hp,.bor,false⟩
abbrev C121:Ctx:=cx [(89,c89)] 27 [] 0 false
def ann121:=an [[kp 3],[kp 1027],[kp 16],[kp 35],[kp 16419],[kp 35],[kp 67108899],[kp 16],[kp 16]] [[kp 0]]
abbrev s121_0 (x:(List LV)) (y:(List LV)) (i0:Int) (v0:Unit):St:=⟨[(0,.data (Ty.sl TVS) x),(1,.data (Ty.sl TVS) y),(5,dI i0)],[]⟩
abbrev LP121_0 (x:(List LV)) (y:(List LV)) (m:Nat) (st_:St) (K:KX):Prop:=True/\aY (s121_0 x y) Z0 (x.length:Int) (F.gf x y) (fun v0:Unit=>True) (aR (fun v0:Unit=>True->K (.exit 0) (⟨[],[]⟩:St)) (fun q0:Unit=>K .ret (⟨[(4,dB false)],[]⟩:St))) m st_
def L121 (x:(List LV)) (y:(List LV)):aW:=lp1 0 (LP121_0 x y)
theorem vc121 (x:(List LV)) (y:(List LV)) (K:KA):vcT C121 (L121 x y) ann121 f121 [.data (Ty.sl TVS) x,.data (Ty.sl TVS) y] [] (.dat Ty.bool) K =
 (cond (!decide ((x.length:Int)=(y.length:Int))) (K (dB false) []) (∃m_,True/\aY (s121_0 x y) Z0 (x.length:Int) (F.gf x y) (fun v0:Unit=>True) (aR (fun v0:Unit=>True->K (dB true) []) (fun q0:Unit=>K (dB false) [])) m_ (s121_0 x y Z0 ()))):=by kernel_rfl
theorem lvc121_0 (x:(List LV)) (y:(List LV))  (i0:Int) (v0:Unit) (m:Nat) (K:KX):lvT C121 (L121 x y) ann121 f121 0 0 (s121_0 x y i0 v0) m K =
 (cond (decide (i0<(x.length:Int))) ((0<=i0)/\(i0<(x.length:Int))/\(0<=i0)/\(i0<(y.length:Int))/\(Sm TVS (nth (t:=TVS) x i0))/\(Sm TVS (nth (t:=TVS) y i0))/\((nth (t:=TVS) x i0)=(nth (t:=TVS) y i0))/\cond (!true) (K .ret (⟨[(4,dB false)],[]⟩:St)) (nxT (LP121_0 x y) m K (s121_0 x y (wrap64 (i0+Z1)) ()))) (K (.exit 0) (⟨[],[]⟩:St))):=by kernel_rfl
theorem con121_ok:aN P 121 c121:=aP C121 func121 (kC con89_ok kN) fun args hp K h0=>by
 obtain⟨x,y,rfl,rfl,h_x,h_y,p0,hK⟩:=g2e h0
 have h:ok (F.lZ x y) (fun r=>K (dB r) []):=ak (F.uw x y h_x h_y p0) hK
 refine⟨rfl,ann121,(L121 x y),(.dat Ty.bool),(aI (i0:=0) (by kernel_rfl) ?_),?_⟩
 ·rintro _ _ K ⟨hc0,i0,v0,rfl,hl0,rfl,hv0,h⟩
  exact cast (lvc121_0 _ _ _ _ _ _).symm (aL h (fun ht0 h=>⟨hl0,⟨ht0,⟨hl0,(oG h fun _ h=>⟨(ay h_x i0),⟨(ay h_y i0),(oG h fun _ h=>(oC h (fun _ h=>h) fun _ h=>(aE (fun _ hm=>⟨hc0,hm⟩) _ rfl hl0 dG ht0 (aM h_x) trivial h)))⟩⟩)⟩⟩⟩) fun h=>(h trivial))
 ·rw[vc121]
  exact(oC h (fun _ h=>h) fun _ h=>(aD (fun m hm=>⟨trivial,hm⟩) Z0 _ rfl (Int.natCast_nonneg 0) trivial (aF h (fun v0 h hv0=>h) (fun q0 h=>h))))
def c56:Con:=⟨[.dat TTable,.dat TTable],fun args hp K=>g2 (pD TTable) (pD TTable) (fun x y=>(Sm TTable x)/\(Sm TTable y)/\(x=y)/\K (dB true) []) args hp,.plain,false⟩
abbrev C56:Ctx:=cx [(120,c120),(121,c121)] 17 [] 0 false
def ann56:=an [[.fixRow 2 TTable,.fixRow 3 TTable,kp 12],[kp 1036],[kp 16],[kp 65536],[kp 16],[kp 16]] []
theorem vc56 (x:TTable.D) (y:TTable.D) (K:KA):vcT C56 aq ann56 f56 [.data TTable x,.data TTable y] [] (.dat Ty.bool) K =
 ((Sm TCS x.1)/\(Sm TCS y.1)/\(x.1=y.1)/\cond (!true) (K (dB false) []) ((Sm (Ty.sl TVS) x.2.1)/\(Sm (Ty.sl TVS) y.2.1)/\(x.2.1=y.2.1)/\cond (!true) (K (dB false) []) (K (dB true) []))):=by kernel_rfl
theorem con56_ok:aN P 56 c56:=aP C56 func56 (kC con120_ok (kC con121_ok kN)) fun args hp K h0=>by
 obtain⟨x,y,rfl,rfl,h_x,h_y,p0,hK⟩:=g2e h0
 have h:ok (F.pn x y) (fun r=>K (dB r) []):=ak (F.ym x y h_x h_y p0) hK
 refine⟨rfl,ann56,aq,(.dat Ty.bool),(az (by kernel_rfl)),?_⟩
 ·rw[vc56]
  exact⟨h_x.1,⟨h_y.1,(oG h fun _ h=>(oC h (fun _ h=>h) fun b_2 h=>⟨h_x.2.1,⟨h_y.2.1,(oG h fun _ h=>(dz (unf (bnf b_2)) h))⟩⟩))⟩⟩
def c17:Con:=⟨[.dat TTb,.dat TTb],fun args hp K=>g2 (pD TTb) (pD TTb) (fun x y=>(Sm TTb x)/\(Sm TTb y)/\(x=y)/\K (dB true) []) args hp,.bor,false⟩
abbrev C17:Ctx:=cx [(56,c56)] 27 [] 0 false
def ann17:=an [[kp 3],[kp 1027],[kp 16],[kp 35],[kp 16419],[kp 35],[kp 67108899],[kp 16],[kp 16]] [[kp 0]]
abbrev s17_0 (x:LTb) (y:LTb) (i0:Int) (v0:Unit):St:=⟨[(0,.data TTb x),(1,.data TTb y),(5,dI i0)],[]⟩
abbrev LP17_0 (x:LTb) (y:LTb) (m:Nat) (st_:St) (K:KX):Prop:=True/\aY (s17_0 x y) Z0 (x.length:Int) (F.gP x y) (fun v0:Unit=>True) (aR (fun v0:Unit=>True->K (.exit 0) (⟨[],[]⟩:St)) (fun q0:Unit=>K .ret (⟨[(4,dB false)],[]⟩:St))) m st_
def L17 (x:LTb) (y:LTb):aW:=lp1 0 (LP17_0 x y)
theorem vc17 (x:LTb) (y:LTb) (K:KA):vcT C17 (L17 x y) ann17 f17 [.data TTb x,.data TTb y] [] (.dat Ty.bool) K =
 (cond (!decide ((x.length:Int)=(y.length:Int))) (K (dB false) []) (∃m_,True/\aY (s17_0 x y) Z0 (x.length:Int) (F.gP x y) (fun v0:Unit=>True) (aR (fun v0:Unit=>True->K (dB true) []) (fun q0:Unit=>K (dB false) [])) m_ (s17_0 x y Z0 ()))):=by kernel_rfl
theorem lvc17_0 (x:LTb) (y:LTb)  (i0:Int) (v0:Unit) (m:Nat) (K:KX):lvT C17 (L17 x y) ann17 f17 0 0 (s17_0 x y i0 v0) m K =
 (cond (decide (i0<(x.length:Int))) ((0<=i0)/\(i0<(x.length:Int))/\(0<=i0)/\(i0<(y.length:Int))/\(Sm TTable (nT x i0))/\(Sm TTable (nT y i0))/\((nT x i0)=(nT y i0))/\cond (!true) (K .ret (⟨[(4,dB false)],[]⟩:St)) (nxT (LP17_0 x y) m K (s17_0 x y (wrap64 (i0+Z1)) ()))) (K (.exit 0) (⟨[],[]⟩:St))):=by kernel_rfl
theorem con17_ok:aN P 17 c17:=aP C17 func17 (kC con56_ok kN) fun args hp K h0=>by
 obtain⟨x,y,rfl,rfl,h_x,h_y,p0,hK⟩:=g2e h0
 have h:ok (F.nN x y) (fun r=>K (dB r) []):=ak (F.wE x y h_x h_y p0) hK
 refine⟨rfl,ann17,(L17 x y),(.dat Ty.bool),(aI (i0:=0) (by kernel_rfl) ?_),?_⟩
 ·rintro _ _ K ⟨hc0,i0,v0,rfl,hl0,rfl,hv0,h⟩
  exact cast (lvc17_0 _ _ _ _ _ _).symm (aL h (fun ht0 h=>⟨hl0,⟨ht0,⟨hl0,(oG h fun _ h=>⟨(ay h_x i0),⟨(ay h_y i0),(oG h fun _ h=>(oC h (fun _ h=>h) fun _ h=>(aE (fun _ hm=>⟨hc0,hm⟩) _ rfl hl0 dG ht0 (aM h_x) trivial h)))⟩⟩)⟩⟩⟩) fun h=>(h trivial))
 ·rw[vc17]
  exact(oC h (fun _ h=>h) fun _ h=>(aD (fun m hm=>⟨trivial,hm⟩) Z0 _ rfl (Int.natCast_nonneg 0) trivial (aF h (fun v0 h hv0=>h) (fun q0 h=>h))))
def c122:Con:=⟨[.dat (Ty.sl au),.dat (Ty.sl au)],fun args hp K=>g2 (pD (Ty.sl au)) (pD (Ty.sl au)) (fun x y=>(Sm (Ty.sl au) x)/\(Sm (Ty.sl au) y)/\(x=y)/\K (dB true) []) args hp,.bor,false⟩
abbrev C122:Ctx:=cx [] 26 [] 0 false
def ann122:=an [[kp 3],[kp 1027],[kp 16],[kp 35],[kp 16419],[kp 35],[kp 33554467],[kp 16],[kp 16]] [[kp 0]]
abbrev s122_0 (x:LI) (y:LI) (i0:Int) (v0:Unit):St:=⟨[(0,.data (Ty.sl au) x),(1,.data (Ty.sl au) y),(5,dI i0)],[]⟩
abbrev LP122_0 (x:LI) (y:LI) (m:Nat) (st_:St) (K:KX):Prop:=True/\aY (s122_0 x y) Z0 (x.length:Int) (F.jd x y) (fun v0:Unit=>True) (aR (fun v0:Unit=>True->K (.exit 0) (⟨[],[]⟩:St)) (fun q0:Unit=>K .ret (⟨[(4,dB false)],[]⟩:St))) m st_
def L122 (x:LI) (y:LI):aW:=lp1 0 (LP122_0 x y)
theorem vc122 (x:LI) (y:LI) (K:KA):vcT C122 (L122 x y) ann122 f122 [.data (Ty.sl au) x,.data (Ty.sl au) y] [] (.dat Ty.bool) K =
 (cond (!decide ((x.length:Int)=(y.length:Int))) (K (dB false) []) (∃m_,True/\aY (s122_0 x y) Z0 (x.length:Int) (F.jd x y) (fun v0:Unit=>True) (aR (fun v0:Unit=>True->K (dB true) []) (fun q0:Unit=>K (dB false) [])) m_ (s122_0 x y Z0 ()))):=by kernel_rfl
theorem lvc122_0 (x:LI) (y:LI)  (i0:Int) (v0:Unit) (m:Nat) (K:KX):lvT C122 (L122 x y) ann122 f122 0 0 (s122_0 x y i0 v0) m K =
 (cond (decide (i0<(x.length:Int))) ((0<=i0)/\(i0<(x.length:Int))/\(0<=i0)/\(i0<(y.length:Int))/\cond (!decide ((nI x i0)=(nI y i0))) (K .ret (⟨[(4,dB false)],[]⟩:St)) (nxT (LP122_0 x y) m K (s122_0 x y (wrap64 (i0+Z1)) ()))) (K (.exit 0) (⟨[],[]⟩:St))):=by kernel_rfl
theorem con122_ok:aN P 122 c122:=aP C122 func122 kN fun args hp K h0=>by
 obtain⟨x,y,rfl,rfl,h_x,h_y,p0,hK⟩:=g2e h0
 have h:ok (F.qD x y) (fun r=>K (dB r) []):=ak (F.zk x y h_x h_y p0) hK
 refine⟨rfl,ann122,(L122 x y),(.dat Ty.bool),(aI (i0:=0) (by kernel_rfl) ?_),?_⟩
 ·rintro _ _ K ⟨hc0,i0,v0,rfl,hl0,rfl,hv0,h⟩
  exact cast (lvc122_0 _ _ _ _ _ _).symm (aL h (fun ht0 h=>⟨hl0,⟨ht0,⟨hl0,(oG h fun _ h=>(oC h (fun _ h=>h) fun _ h=>(aE (fun _ hm=>⟨hc0,hm⟩) _ rfl hl0 dG ht0 (aM h_x) trivial h)))⟩⟩⟩) fun h=>(h trivial))
 ·rw[vc122]
  exact(oC h (fun _ h=>h) fun _ h=>(aD (fun m hm=>⟨trivial,hm⟩) Z0 _ rfl (Int.natCast_nonneg 0) trivial (aF h (fun v0 h hv0=>h) (fun q0 h=>h))))
def c183:Con:=⟨[.dat ax,.dat ax],fun args hp K=>g2 (pD ax) (pD ax) (fun x y=>(Sm ax x)/\(Sm ax y)/\(x=y)/\K (dB true) []) args hp,.plain,false⟩
abbrev C183:Ctx:=cx [(157,c157)] 21 [] 0 false
def ann183:=an [[.fixRow 2 ax,.fixRow 3 ax,kp 12],[kp 524],[kp 16],[kp 16396],[kp 16],[kp 1048576],[kp 16],[kp 16]] []
theorem vc183 (x:ax.D) (y:ax.D) (K:KA):vcT C183 aq ann183 f183 [.data ax x,.data ax y] [] (.dat Ty.bool) K =
 (cond (!decide (x.1=y.1)) (K (dB false) []) (cond (!decide (x.2.1=y.2.1)) (K (dB false) []) ((Sm aa x.2.2.1)/\(Sm aa y.2.2.1)/\(x.2.2.1=y.2.2.1)/\cond (!true) (K (dB false) []) (K (dB true) [])))):=by kernel_rfl
theorem con183_ok:aN P 183 c183:=aP C183 func183 (kC con157_ok kN) fun args hp K h0=>by
 obtain⟨x,y,rfl,rfl,h_x,h_y,p0,hK⟩:=g2e h0
 have h:ok (F.qC x y) (fun r=>K (dB r) []):=ak (F.zF x y h_x h_y p0) hK
 refine⟨rfl,ann183,aq,(.dat Ty.bool),(az (by kernel_rfl)),?_⟩
 ·rw[vc183]
  exact(oC h (fun _ h=>h) fun _ h=>(oC h (fun _ h=>h) fun _ h=>⟨h_x.2.2.1,⟨h_y.2.2.1,(oG h fun _ h=>(oC h (fun _ h=>h) fun _ h=>h))⟩⟩))
def c123:Con:=⟨[.dat TPS,.dat TPS],fun args hp K=>g2 (pD TPS) (pD TPS) (fun x y=>(Sm TPS x)/\(Sm TPS y)/\(x=y)/\K (dB true) []) args hp,.bor,false⟩
abbrev C123:Ctx:=cx [(183,c183)] 27 [] 0 false
def ann123:=an [[kp 3],[kp 1027],[kp 16],[kp 35],[kp 16419],[kp 35],[kp 67108899],[kp 16],[kp 16]] [[kp 0]]
abbrev s123_0 (x:LPt) (y:LPt) (i0:Int) (v0:Unit):St:=⟨[(0,.data TPS x),(1,.data TPS y),(5,dI i0)],[]⟩
abbrev LP123_0 (x:LPt) (y:LPt) (m:Nat) (st_:St) (K:KX):Prop:=True/\aY (s123_0 x y) Z0 (x.length:Int) (F.iF x y) (fun v0:Unit=>True) (aR (fun v0:Unit=>True->K (.exit 0) (⟨[],[]⟩:St)) (fun q0:Unit=>K .ret (⟨[(4,dB false)],[]⟩:St))) m st_
def L123 (x:LPt) (y:LPt):aW:=lp1 0 (LP123_0 x y)
theorem vc123 (x:LPt) (y:LPt) (K:KA):vcT C123 (L123 x y) ann123 f123 [.data TPS x,.data TPS y] [] (.dat Ty.bool) K =
 (cond (!decide ((x.length:Int)=(y.length:Int))) (K (dB false) []) (∃m_,True/\aY (s123_0 x y) Z0 (x.length:Int) (F.iF x y) (fun v0:Unit=>True) (aR (fun v0:Unit=>True->K (dB true) []) (fun q0:Unit=>K (dB false) [])) m_ (s123_0 x y Z0 ()))):=by kernel_rfl
theorem lvc123_0 (x:LPt) (y:LPt)  (i0:Int) (v0:Unit) (m:Nat) (K:KX):lvT C123 (L123 x y) ann123 f123 0 0 (s123_0 x y i0 v0) m K =
 (cond (decide (i0<(x.length:Int))) ((0<=i0)/\(i0<(x.length:Int))/\(0<=i0)/\(i0<(y.length:Int))/\(Sm ax (nP x i0))/\(Sm ax (nP y i0))/\((nP x i0)=(nP y i0))/\cond (!true) (K .ret (⟨[(4,dB false)],[]⟩:St)) (nxT (LP123_0 x y) m K (s123_0 x y (wrap64 (i0+Z1)) ()))) (K (.exit 0) (⟨[],[]⟩:St))):=by kernel_rfl
theorem con123_ok:aN P 123 c123:=aP C123 func123 (kC con183_ok kN) fun args hp K h0=>by
 obtain⟨x,y,rfl,rfl,h_x,h_y,p0,hK⟩:=g2e h0
 have h:ok (F.pF x y) (fun r=>K (dB r) []):=ak (F.yo x y h_x h_y p0) hK
 refine⟨rfl,ann123,(L123 x y),(.dat Ty.bool),(aI (i0:=0) (by kernel_rfl) ?_),?_⟩
 ·rintro _ _ K ⟨hc0,i0,v0,rfl,hl0,rfl,hv0,h⟩
  exact cast (lvc123_0 _ _ _ _ _ _).symm (aL h (fun ht0 h=>⟨hl0,⟨ht0,⟨hl0,(oG h fun _ h=>⟨(ay h_x i0),⟨(ay h_y i0),(oG h fun _ h=>(oC h (fun _ h=>h) fun _ h=>(aE (fun _ hm=>⟨hc0,hm⟩) _ rfl hl0 dG ht0 (aM h_x) trivial h)))⟩⟩)⟩⟩⟩) fun h=>(h trivial))
 ·rw[vc123]
  exact(oC h (fun _ h=>h) fun _ h=>(aD (fun m hm=>⟨trivial,hm⟩) Z0 _ rfl (Int.natCast_nonneg 0) trivial (aF h (fun v0 h hv0=>h) (fun q0 h=>h))))
def c57:Con:=⟨[.dat TBond,.dat TBond],fun args hp K=>g2 (pD TBond) (pD TBond) (fun x y=>(Sm TBond x)/\(Sm TBond y)/\(x=y)/\K (dB true) []) args hp,.plain,false⟩
abbrev C57:Ctx:=cx [(122,c122),(123,c123)] 43 [] 0 false
def ann57:=an [[.fixRow 2 TBond,.fixRow 3 TBond,kp 12],[kp 524],[kp 16],[kp 16396],[kp 16],[kp 1048588],[kp 16],[kp 33554444],[kp 16],[kp 2147483660],[kp 16],[kp 68719476748],[kp 16],[.keep [42]],[kp 16],[kp 16]] []
theorem vc57 (x:TBond.D) (y:TBond.D) (K:KA):vcT C57 aq ann57 f57 [.data TBond x,.data TBond y] [] (.dat Ty.bool) K =
 (cond (!decide (x.1=y.1)) (K (dB false) []) (cond (!decide (x.2.1=y.2.1)) (K (dB false) []) ((Sm (Ty.sl au) x.2.2.1)/\(Sm (Ty.sl au) y.2.2.1)/\(x.2.2.1=y.2.2.1)/\cond (!true) (K (dB false) []) (cond (!decide (x.2.2.2.1=y.2.2.2.1)) (K (dB false) []) ((Sm (Ty.sl au) x.2.2.2.2.1)/\(Sm (Ty.sl au) y.2.2.2.2.1)/\(x.2.2.2.2.1=y.2.2.2.2.1)/\cond (!true) (K (dB false) []) (cond (!(Ty.beq Ty.bool x.2.2.2.2.2.1 y.2.2.2.2.2.1)) (K (dB false) []) ((Sm TPS x.2.2.2.2.2.2.1)/\(Sm TPS y.2.2.2.2.2.2.1)/\(x.2.2.2.2.2.2.1=y.2.2.2.2.2.2.1)/\cond (!true) (K (dB false) []) (K (dB true) [])))))))):=by kernel_rfl
theorem con57_ok:aN P 57 c57:=aP C57 func57 (kC con122_ok (kC con123_ok kN)) fun args hp K h0=>by
 obtain⟨x,y,rfl,rfl,h_x,h_y,p0,hK⟩:=g2e h0
 have h:ok (F.ri x y) (fun r=>K (dB r) []):=ak (F.zz x y h_x h_y p0) hK
 refine⟨rfl,ann57,aq,(.dat Ty.bool),(az (by kernel_rfl)),?_⟩
 ·rw[vc57]
  exact(oC h (fun _ h=>h) fun _ h=>(oC h (fun _ h=>h) fun _ h=>⟨h_x.2.2.1,⟨h_y.2.2.1,(oG h fun _ h=>(oC h (fun _ h=>h) fun b_4 h=>(oC h (fun _ h=>h) fun _ h=>⟨h_x.2.2.2.2.1,⟨h_y.2.2.2.2.1,(oG h fun _ h=>(dz (unf (bnf b_4)) (oC h (fun _ h=>h) fun _ h=>⟨h_x.2.2.2.2.2.2.1,⟨h_y.2.2.2.2.2.2.1,(oG h fun _ h=>(dz (unf (bnf b_4)) h))⟩⟩)))⟩⟩)))⟩⟩))
def c18:Con:=⟨[.dat (Ty.sl TBond),.dat (Ty.sl TBond)],fun args hp K=>g2 (pD (Ty.sl TBond)) (pD (Ty.sl TBond)) (fun x y=>(Sm (Ty.sl TBond) x)/\(Sm (Ty.sl TBond) y)/\(x=y)/\K (dB true) []) args hp,.bor,false⟩
abbrev C18:Ctx:=cx [(57,c57)] 27 [] 0 false
def ann18:=an [[kp 3],[kp 1027],[kp 16],[kp 35],[kp 16419],[kp 35],[kp 67108899],[kp 16],[kp 16]] [[kp 0]]
abbrev s18_0 (x:(List TBond.D)) (y:(List TBond.D)) (i0:Int) (v0:Unit):St:=⟨[(0,.data (Ty.sl TBond) x),(1,.data (Ty.sl TBond) y),(5,dI i0)],[]⟩
abbrev LP18_0 (x:(List TBond.D)) (y:(List TBond.D)) (m:Nat) (st_:St) (K:KX):Prop:=True/\aY (s18_0 x y) Z0 (x.length:Int) (F.iI x y) (fun v0:Unit=>True) (aR (fun v0:Unit=>True->K (.exit 0) (⟨[],[]⟩:St)) (fun q0:Unit=>K .ret (⟨[(4,dB false)],[]⟩:St))) m st_
def L18 (x:(List TBond.D)) (y:(List TBond.D)):aW:=lp1 0 (LP18_0 x y)
theorem vc18 (x:(List TBond.D)) (y:(List TBond.D)) (K:KA):vcT C18 (L18 x y) ann18 f18 [.data (Ty.sl TBond) x,.data (Ty.sl TBond) y] [] (.dat Ty.bool) K =
 (cond (!decide ((x.length:Int)=(y.length:Int))) (K (dB false) []) (∃m_,True/\aY (s18_0 x y) Z0 (x.length:Int) (F.iI x y) (fun v0:Unit=>True) (aR (fun v0:Unit=>True->K (dB true) []) (fun q0:Unit=>K (dB false) [])) m_ (s18_0 x y Z0 ()))):=by kernel_rfl
theorem lvc18_0 (x:(List TBond.D)) (y:(List TBond.D))  (i0:Int) (v0:Unit) (m:Nat) (K:KX):lvT C18 (L18 x y) ann18 f18 0 0 (s18_0 x y i0 v0) m K =
 (cond (decide (i0<(x.length:Int))) ((0<=i0)/\(i0<(x.length:Int))/\(0<=i0)/\(i0<(y.length:Int))/\(Sm TBond (nth (t:=TBond) x i0))/\(Sm TBond (nth (t:=TBond) y i0))/\((nth (t:=TBond) x i0)=(nth (t:=TBond) y i0))/\cond (!true) (K .ret (⟨[(4,dB false)],[]⟩:St)) (nxT (LP18_0 x y) m K (s18_0 x y (wrap64 (i0+Z1)) ()))) (K (.exit 0) (⟨[],[]⟩:St))):=by kernel_rfl
theorem con18_ok:aN P 18 c18:=aP C18 func18 (kC con57_ok kN) fun args hp K h0=>by
 obtain⟨x,y,rfl,rfl,h_x,h_y,p0,hK⟩:=g2e h0
 have h:ok (F.pG x y) (fun r=>K (dB r) []):=ak (F.ye x y h_x h_y p0) hK
 refine⟨rfl,ann18,(L18 x y),(.dat Ty.bool),(aI (i0:=0) (by kernel_rfl) ?_),?_⟩
 ·rintro _ _ K ⟨hc0,i0,v0,rfl,hl0,rfl,hv0,h⟩
  exact cast (lvc18_0 _ _ _ _ _ _).symm (aL h (fun ht0 h=>⟨hl0,⟨ht0,⟨hl0,(oG h fun _ h=>⟨(ay h_x i0),⟨(ay h_y i0),(oG h fun _ h=>(oC h (fun _ h=>h) fun _ h=>(aE (fun _ hm=>⟨hc0,hm⟩) _ rfl hl0 dG ht0 (aM h_x) trivial h)))⟩⟩)⟩⟩⟩) fun h=>(h trivial))
 ·rw[vc18]
  exact(oC h (fun _ h=>h) fun _ h=>(aD (fun m hm=>⟨trivial,hm⟩) Z0 _ rfl (Int.natCast_nonneg 0) trivial (aF h (fun v0 h hv0=>h) (fun q0 h=>h))))
def c38:Con:=⟨[.dat TChange,.dat TChange],fun args hp K=>g2 (pD TChange) (pD TChange) (fun x y=>(Sm TChange x)/\(Sm TChange y)/\(x=y)/\K (dB true) []) args hp,.bor,false⟩
abbrev C38:Ctx:=cx [(89,c89)] 21 [] 0 false
def ann38:=an [[.fixRow 2 TChange,.fixRow 3 TChange,kp 12],[kp 524],[kp 16],[kp 32780],[kp 16],[kp 1048576],[kp 16],[kp 16]] []
theorem vc38 (x:TChange.D) (y:TChange.D) (K:KA):vcT C38 aq ann38 f38 [.data TChange x,.data TChange y] [] (.dat Ty.bool) K =
 (cond (!decide (x.1=y.1)) (K (dB false) []) ((Sm TVS x.2.1)/\(Sm TVS y.2.1)/\(x.2.1=y.2.1)/\cond (!true) (K (dB false) []) (cond (!(Ty.beq Ty.bool x.2.2.1 y.2.2.1)) (K (dB false) []) (K (dB true) [])))):=by kernel_rfl
theorem con38_ok:aN P 38 c38:=aP C38 func38 (kC con89_ok kN) fun args hp K h0=>by
 obtain⟨x,y,rfl,rfl,h_x,h_y,p0,hK⟩:=g2e h0
 have h:ok (F.nJ x y) (fun r=>K (dB r) []):=ak (F.vS x y h_x h_y p0) hK
 refine⟨rfl,ann38,aq,(.dat Ty.bool),(az (by kernel_rfl)),?_⟩
 ·rw[vc38]
  exact(oC h (fun _ h=>h) fun _ h=>⟨h_x.2.1,⟨h_y.2.1,(oG h fun _ h=>(oC h (fun _ h=>h) fun _ h=>(oC h (fun _ h=>h) fun _ h=>h)))⟩⟩)
def c19:Con:=⟨[.dat (Ty.sl TChange),.dat (Ty.sl TChange)],fun args hp K=>g2 (pD (Ty.sl TChange)) (pD (Ty.sl TChange)) (fun x y=>(Sm (Ty.sl TChange) x)/\(Sm (Ty.sl TChange) y)/\(x=y)/\K (dB true) []) args hp,.bor,false⟩
abbrev C19:Ctx:=cx [(38,c38)] 27 [] 0 false
def ann19:=an [[kp 3],[kp 1027],[kp 16],[kp 35],[kp 16419],[kp 35],[kp 67108899],[kp 16],[kp 16]] [[kp 0]]
abbrev s19_0 (x:(List TChange.D)) (y:(List TChange.D)) (i0:Int) (v0:Unit):St:=⟨[(0,.data (Ty.sl TChange) x),(1,.data (Ty.sl TChange) y),(5,dI i0)],[]⟩
abbrev LP19_0 (x:(List TChange.D)) (y:(List TChange.D)) (m:Nat) (st_:St) (K:KX):Prop:=True/\aY (s19_0 x y) Z0 (x.length:Int) (F.fX x y) (fun v0:Unit=>True) (aR (fun v0:Unit=>True->K (.exit 0) (⟨[],[]⟩:St)) (fun q0:Unit=>K .ret (⟨[(4,dB false)],[]⟩:St))) m st_
def L19 (x:(List TChange.D)) (y:(List TChange.D)):aW:=lp1 0 (LP19_0 x y)
theorem vc19 (x:(List TChange.D)) (y:(List TChange.D)) (K:KA):vcT C19 (L19 x y) ann19 f19 [.data (Ty.sl TChange) x,.data (Ty.sl TChange) y] [] (.dat Ty.bool) K =
 (cond (!decide ((x.length:Int)=(y.length:Int))) (K (dB false) []) (∃m_,True/\aY (s19_0 x y) Z0 (x.length:Int) (F.fX x y) (fun v0:Unit=>True) (aR (fun v0:Unit=>True->K (dB true) []) (fun q0:Unit=>K (dB false) [])) m_ (s19_0 x y Z0 ()))):=by kernel_rfl
theorem lvc19_0 (x:(List TChange.D)) (y:(List TChange.D))  (i0:Int) (v0:Unit) (m:Nat) (K:KX):lvT C19 (L19 x y) ann19 f19 0 0 (s19_0 x y i0 v0) m K =
 (cond (decide (i0<(x.length:Int))) ((0<=i0)/\(i0<(x.length:Int))/\(0<=i0)/\(i0<(y.length:Int))/\(Sm TChange (nth (t:=TChange) x i0))/\(Sm TChange (nth (t:=TChange) y i0))/\((nth (t:=TChange) x i0)=(nth (t:=TChange) y i0))/\cond (!true) (K .ret (⟨[(4,dB false)],[]⟩:St)) (nxT (LP19_0 x y) m K (s19_0 x y (wrap64 (i0+Z1)) ()))) (K (.exit 0) (⟨[],[]⟩:St))):=by kernel_rfl
theorem con19_ok:aN P 19 c19:=aP C19 func19 (kC con38_ok kN) fun args hp K h0=>by
 obtain⟨x,y,rfl,rfl,h_x,h_y,p0,hK⟩:=g2e h0
 have h:ok (F.mj x y) (fun r=>K (dB r) []):=ak (F.uU x y h_x h_y p0) hK
 refine⟨rfl,ann19,(L19 x y),(.dat Ty.bool),(aI (i0:=0) (by kernel_rfl) ?_),?_⟩
 ·rintro _ _ K ⟨hc0,i0,v0,rfl,hl0,rfl,hv0,h⟩
  exact cast (lvc19_0 _ _ _ _ _ _).symm (aL h (fun ht0 h=>⟨hl0,⟨ht0,⟨hl0,(oG h fun _ h=>⟨(ay h_x i0),⟨(ay h_y i0),(oG h fun _ h=>(oC h (fun _ h=>h) fun _ h=>(aE (fun _ hm=>⟨hc0,hm⟩) _ rfl hl0 dG ht0 (aM h_x) trivial h)))⟩⟩)⟩⟩⟩) fun h=>(h trivial))
 ·rw[vc19]
  exact(oC h (fun _ h=>h) fun _ h=>(aD (fun m hm=>⟨trivial,hm⟩) Z0 _ rfl (Int.natCast_nonneg 0) trivial (aF h (fun v0 h hv0=>h) (fun q0 h=>h))))
def c58:Con:=⟨[.dat au],fun args hp K=>hpN 1000000 .sh ai (fun x=>args2 (fun a0 a1=>sO 1000000 (x.length:Int) a0 (iY au a1 fun k=>(Ln TCS x)/\(0<=k)/\(k+(M.count TCS x:Int)<=M.big)/\(LD (M.mark TCS x k,k+(M.count TCS x:Int)) fun r=>K (dI r.2) [(1000000,.arr .sh ai r.1)]))) args []) hp,.io,false⟩
abbrev C58:Ctx:=cx [] 29 [] 0 false
def ann58:=an [[kp 3],[kp 35],[kp 547],[kp 35],[kp 35],[kp 35],[kp 35],[kp 35],[kp 16]] [[kp 2]]
abbrev s58_0 (x:LC) (k:Int) (i0:Int) (v0:Int×LC):St:=⟨[(0,.clp 1000000 (x.length:Int)),(1,dI v0.1),(5,dI i0)],[(1000000,.arr .sh ai v0.2)]⟩
abbrev LP58_0 (x:LC) (k:Int) (m:Nat) (st_:St) (K:KX):Prop:=True/\aY (s58_0 x k) Z0 (x.length:Int) (F.eR x k) (fun v0:Int×LC=>True) (aR (fun v0:Int×LC=>True->K (.exit 0) (⟨[(1,dI v0.1)],[(1000000,.arr .sh ai v0.2)]⟩:St)) (fun _=>False)) m st_
def L58 (x:LC) (k:Int):aW:=lp1 0 (LP58_0 x k)
theorem vc58 (x:LC) (k:Int) (K:KA):vcT C58 (L58 x k) ann58 f58 [.clp 1000000 (x.length:Int),dI k] [(1000000,.arr .sh ai x)] .raw K =
 (∃m_,True/\aY (s58_0 x k) Z0 (x.length:Int) (F.eR x k) (fun v0:Int×LC=>True) (aR (fun v0:Int×LC=>True->K (dI v0.1) [(1000000,.arr .sh ai v0.2)]) (fun _=>False)) m_ (s58_0 x k Z0 (k,x))):=by kernel_rfl
theorem lvc58_0 (x:LC) (k:Int)  (i0:Int) (v0:Int×LC) (m:Nat) (K:KX):lvT C58 (L58 x k) ann58 f58 0 0 (s58_0 x k i0 v0) m K =
 (cond (decide (i0<(x.length:Int))) ((0<=i0)/\(i0<(x.length:Int))/\(Z3≠0)/\(0<=i0)/\(i0<(x.length:Int))/\(let y1:LC:=((v0.2.set i0.toNat (v0.1,(nC v0.2 i0).2)).set i0.toNat ((nC (v0.2.set i0.toNat (v0.1,(nC v0.2 i0).2)) i0).1,((decide (((wrap64 (v0.1+Z1)).tmod Z3)=Z0)),())));(nxT (LP58_0 x k) m K (s58_0 x k (wrap64 (i0+Z1)) (wrap64 (wrap64 (v0.1+Z1)+Z1),y1))))) (K (.exit 0) (⟨[(1,dI v0.1)],[(1000000,.arr .sh ai v0.2)]⟩:St))):=by kernel_rfl
theorem con58_ok:aN P 58 c58:=aP C58 func58 kN fun args hp K h0=>by
 unfold c58 at h0
 dsimp only at h0
 obtain⟨x,rfl,h00⟩:=ij (n:=1000000) (d:=.sh) (t:=ai) h0
 obtain⟨a0,a1,rfl,_,h1⟩:=bt h00
 obtain⟨rfl,h2⟩:=gH h1
 obtain⟨k,rfl,h3⟩:=bV h2
 obtain⟨h_x,p0,p1,hK⟩:=h3
 have h:ok (F.jE x k) (fun r=>K (dI r.2) [(1000000,.arr .sh ai r.1)]):=ak (F.sw x k h_x p0 p1) (hK _ rfl)
 refine⟨rfl,ann58,(L58 x k),.raw,(aI (i0:=0) (by kernel_rfl) ?_),?_⟩
 ·rintro _ _ K ⟨hc0,i0,v0,rfl,hl0,rfl,hv0,h⟩
  exact cast (lvc58_0 _ _ _ _ _ _).symm (aL h (fun ht0 h=>⟨hl0,⟨ht0,⟨(by decide),⟨hl0,⟨ht0,(have h:=fI h _ rfl;(aE (fun _ hm=>⟨hc0,hm⟩) _ rfl hl0 dG ht0 (aM h_x) trivial h))⟩⟩⟩⟩⟩) fun h=>(h trivial))
 ·rw[vc58]
  exact(aD (fun m hm=>⟨trivial,hm⟩) Z0 _ rfl (Int.natCast_nonneg 0) trivial (aF h (fun v0 h hv0=>h) (fun _ h=>h.elim)))
def c124:Con:=⟨[.dat au],fun args hp K=>g1 (pD au) (fun k=>(k<=M.big)/\(LD (M.ep k) fun r=>K (.data Ty.str r) [])) args hp,.plain,false⟩
abbrev C124:Ctx:=cx [] 20 [] 0 false
def ann124:=an [[kp 1],[kp 33],[kp 4],[kp 9],[kp 137],[kp 9],[kp 9],[kp 4]] [[kp 8]]
abbrev s124_0 (k:Int) (v0:Int×ByteArray):St:=⟨[(0,dI v0.1),(3,.data Ty.str v0.2)],[]⟩
abbrev LP124_0 (k:Int) (m:Nat) (st_:St) (K:KX):Prop:=True/\qt (s124_0 k) (F.gS k) (fun v0:Int×ByteArray=>True) (fun e0:ByteArray=>True->K (.exit 0) (⟨[(3,.data Ty.str e0)],[]⟩:St)) m st_
def L124 (k:Int):aW:=lp1 0 (LP124_0 k)
theorem vc124 (k:Int) (K:KA):vcT C124 (L124 k) ann124 f124 [dI k] [] (.dat Ty.str) K =
 (cond (decide (k<=Z0)) (K (.data Ty.str (⟨#[109,48]⟩:ByteArray)) []) (∃m_,True/\qt (s124_0 k) (F.gS k) (fun v0:Int×ByteArray=>True) (fun e0:ByteArray=>True->((⟨#[109]⟩:ByteArray).size+e0.size<=9223372036854775807)/\K (.data Ty.str ((⟨#[109]⟩:ByteArray)++e0)) []) m_ (s124_0 k (k,(⟨#[]⟩:ByteArray))))):=by kernel_rfl
theorem lvc124_0 (k:Int)  (v0:Int×ByteArray) (m:Nat) (K:KX):lvT C124 (L124 k) ann124 f124 0 0 (s124_0 k v0) m K =
 (cond (decide (Z0<v0.1)) (((10:Int)≠0)/\((strOf [((wrap64 ((48:Int)+(v0.1.tmod (10:Int)))) % 256)]).size+v0.2.size<=9223372036854775807)/\((10:Int)≠0)/\(nxT (LP124_0 k) m K (s124_0 k (wrap64 (v0.1.tdiv (10:Int)),((strOf [((wrap64 ((48:Int)+(v0.1.tmod (10:Int)))) % 256)])++v0.2))))) (K (.exit 0) (⟨[(3,.data Ty.str v0.2)],[]⟩:St))):=by kernel_rfl
theorem con124_ok:aN P 124 c124:=aP C124 func124 kN fun args hp K h0=>by
 obtain⟨k,rfl,rfl,p0,hK⟩:=g1e h0
 have h:ok (F.nR k) (fun r=>K (.data Ty.str r) []):=ak (F.wG k p0) (hK _ rfl)
 refine⟨rfl,ann124,(L124 k),(.dat Ty.str),(aI (i0:=0) (by kernel_rfl) ?_),?_⟩
 ·rintro _ _ K ⟨hc0,v0,rfl,hv0,h⟩
  exact cast (lvc124_0 _ _ _ _).symm (me h (fun m1 hm0 h=>(oC h (fun _ h=>⟨(by decide),(oG h fun _ h=>⟨(by decide),(mw (fun _ hm=>⟨hc0,hm⟩) hm0 _ rfl trivial h)⟩)⟩) fun _ h=>((qH h :) trivial))))
 ·rw[vc124]
  exact(oC h (fun _ h=>h) fun _ h=>(kG (fun m hm=>⟨trivial,hm⟩) _ rfl trivial (yH h (fun e0 h hv0=>(oG h fun _ h=>h)))))
def c62:Con:=⟨[.dat au],fun args hp K=>hpN 1000000 .sh aa (fun x=>args2 (fun a0 a1=>sO 1000000 (x.length:Int) a0 (iY au a1 fun k=>(Ln TVS x)/\(0<=k)/\(k+(M.count TVS x:Int)<=M.big)/\(LD (M.mark TVS x k,k+(M.count TVS x:Int)) fun r=>K (dI r.2) [(1000000,.arr .sh aa r.1)]))) args []) hp,.io,false⟩
abbrev C62:Ctx:=cx [(124,c124)] 35 [] 0 false
def ann62:=an [[kp 3],[kp 35],[kp 547],[kp 35],[kp 35],[kp 35],[kp 35],[kp 35],[kp 35],[kp 35],[kp 16]] [[kp 2]]
abbrev s62_0 (x:LV) (k:Int) (i0:Int) (v0:Int×LV):St:=⟨[(0,.clp 1000000 (x.length:Int)),(1,dI v0.1),(5,dI i0)],[(1000000,.arr .sh aa v0.2)]⟩
abbrev LP62_0 (x:LV) (k:Int) (m:Nat) (st_:St) (K:KX):Prop:=True/\aY (s62_0 x k) Z0 (x.length:Int) (F.fF x k) (fun v0:Int×LV=>True) (aR (fun v0:Int×LV=>True->K (.exit 0) (⟨[(1,dI v0.1)],[(1000000,.arr .sh aa v0.2)]⟩:St)) (fun _=>False)) m st_
def L62 (x:LV) (k:Int):aW:=lp1 0 (LP62_0 x k)
theorem vc62 (x:LV) (k:Int) (K:KA):vcT C62 (L62 x k) ann62 f62 [.clp 1000000 (x.length:Int),dI k] [(1000000,.arr .sh aa x)] .raw K =
 (∃m_,True/\aY (s62_0 x k) Z0 (x.length:Int) (F.fF x k) (fun v0:Int×LV=>True) (aR (fun v0:Int×LV=>True->K (dI v0.1) [(1000000,.arr .sh aa v0.2)]) (fun _=>False)) m_ (s62_0 x k Z0 (k,x))):=by kernel_rfl
theorem lvc62_0 (x:LV) (k:Int)  (i0:Int) (v0:Int×LV) (m:Nat) (K:KX):lvT C62 (L62 x k) ann62 f62 0 0 (s62_0 x k i0 v0) m K =
 (cond (decide (i0<(x.length:Int))) ((0<=i0)/\(i0<(x.length:Int))/\(0<=i0)/\(i0<(x.length:Int))/\(let y1:LV:=((v0.2.set i0.toNat (v0.1,(nV v0.2 i0).2)).set i0.toNat ((nV (v0.2.set i0.toNat (v0.1,(nV v0.2 i0).2)) i0).1,(wrap64 (v0.1+Z1),(nV (v0.2.set i0.toNat (v0.1,(nV v0.2 i0).2)) i0).2.2)));((wrap64 (wrap64 (v0.1+Z1)+Z1))<=M.big)/\(LD (M.ep (wrap64 (wrap64 (v0.1+Z1)+Z1))) fun r1=>(0<=i0)/\(i0<(x.length:Int))/\(let y2:LV:=(y1.set i0.toNat ((nV y1 i0).1,((nV y1 i0).2.1,(r1,()))));(nxT (LP62_0 x k) m K (s62_0 x k (wrap64 (i0+Z1)) (wrap64 (wrap64 (wrap64 (v0.1+Z1)+Z1)+Z1),y2))))))) (K (.exit 0) (⟨[(1,dI v0.1)],[(1000000,.arr .sh aa v0.2)]⟩:St))):=by kernel_rfl
theorem con62_ok:aN P 62 c62:=aP C62 func62 (kC con124_ok kN) fun args hp K h0=>by
 unfold c62 at h0
 dsimp only at h0
 obtain⟨x,rfl,h00⟩:=ij (n:=1000000) (d:=.sh) (t:=aa) h0
 obtain⟨a0,a1,rfl,_,h1⟩:=bt h00
 obtain⟨rfl,h2⟩:=gH h1
 obtain⟨k,rfl,h3⟩:=bV h2
 obtain⟨h_x,p0,p1,hK⟩:=h3
 have h:ok (F.lz x k) (fun r=>K (dI r.2) [(1000000,.arr .sh aa r.1)]):=ak (F.tN x k h_x p0 p1) (hK _ rfl)
 refine⟨rfl,ann62,(L62 x k),.raw,(aI (i0:=0) (by kernel_rfl) ?_),?_⟩
 ·rintro _ _ K ⟨hc0,i0,v0,rfl,hl0,rfl,hv0,h⟩
  exact cast (lvc62_0 _ _ _ _ _ _).symm (aL h (fun ht0 h=>⟨hl0,⟨ht0,⟨hl0,⟨ht0,(have h:=fI h _ rfl;(oG h fun _ h=>(oL h fun _ _ h=>⟨hl0,⟨ht0,(have h:=fI h _ rfl;(aE (fun _ hm=>⟨hc0,hm⟩) _ rfl hl0 dG ht0 (aM h_x) trivial h))⟩⟩)))⟩⟩⟩⟩) fun h=>(h trivial))
 ·rw[vc62]
  exact(aD (fun m hm=>⟨trivial,hm⟩) Z0 _ rfl (Int.natCast_nonneg 0) trivial (aF h (fun v0 h hv0=>h) (fun _ h=>h.elim)))
def c59:Con:=⟨[.dat au],fun args hp K=>hpN 1000000 .dp TVS (fun x=>args2 (fun a0 a1=>sO 1000000 (x.length:Int) a0 (iY au a1 fun k=>(Ln (Ty.sl TVS) x)/\(0<=k)/\(k+(M.count (Ty.sl TVS) x:Int)<=M.big)/\(LD (M.mark (Ty.sl TVS) x k,k+(M.count (Ty.sl TVS) x:Int)) fun r=>K (dI r.2) [(1000000,.arr .dp TVS r.1)]))) args []) hp,.io,false⟩
abbrev C59:Ctx:=cx [(62,c62)] 19 [] 0 false
def ann59:=an [[kp 3],[kp 35],[kp 547],[kp 35],[kp 35],[kp 16]] [[kp 2]]
abbrev s59_0 (x:(List LV)) (k:Int) (i0:Int) (v0:Int×(List LV)):St:=⟨[(0,.clp 1000000 (x.length:Int)),(1,dI v0.1),(5,dI i0)],[(1000000,.arr .dp TVS v0.2)]⟩
abbrev LP59_0 (x:(List LV)) (k:Int) (m:Nat) (st_:St) (K:KX):Prop:=True/\aY (s59_0 x k) Z0 (x.length:Int) (F.eU x k) (fun v0:Int×(List LV)=>True) (aR (fun v0:Int×(List LV)=>True->K (.exit 0) (⟨[(1,dI v0.1)],[(1000000,.arr .dp TVS v0.2)]⟩:St)) (fun _=>False)) m st_
def L59 (x:(List LV)) (k:Int):aW:=lp1 0 (LP59_0 x k)
theorem vc59 (x:(List LV)) (k:Int) (K:KA):vcT C59 (L59 x k) ann59 f59 [.clp 1000000 (x.length:Int),dI k] [(1000000,.arr .dp TVS x)] .raw K =
 (∃m_,True/\aY (s59_0 x k) Z0 (x.length:Int) (F.eU x k) (fun v0:Int×(List LV)=>True) (aR (fun v0:Int×(List LV)=>True->K (dI v0.1) [(1000000,.arr .dp TVS v0.2)]) (fun _=>False)) m_ (s59_0 x k Z0 (k,x))):=by kernel_rfl
theorem lvc59_0 (x:(List LV)) (k:Int)  (i0:Int) (v0:Int×(List LV)) (m:Nat) (K:KX):lvT C59 (L59 x k) ann59 f59 0 0 (s59_0 x k i0 v0) m K =
 (cond (decide (i0<(x.length:Int))) ((0<=i0)/\(i0<(x.length:Int))/\(((nth (t:=TVS) v0.2 i0).length:Int)=((nth (t:=TVS) v0.2 i0).length:Int))/\(Ln TVS (nth (t:=TVS) v0.2 i0))/\(0<=v0.1)/\(v0.1+(M.count TVS (nth (t:=TVS) v0.2 i0):Int)<=M.big)/\(LD (M.mark TVS (nth (t:=TVS) v0.2 i0) v0.1,v0.1+(M.count TVS (nth (t:=TVS) v0.2 i0):Int)) fun r1=>(r1.1.length=(nth (t:=TVS) v0.2 i0).length)/\(nxT (LP59_0 x k) m K (s59_0 x k (wrap64 (i0+Z1)) (r1.2,(v0.2.set i0.toNat r1.1)))))) (K (.exit 0) (⟨[(1,dI v0.1)],[(1000000,.arr .dp TVS v0.2)]⟩:St))):=by kernel_rfl
theorem con59_ok:aN P 59 c59:=aP C59 func59 (kC con62_ok kN) fun args hp K h0=>by
 unfold c59 at h0
 dsimp only at h0
 obtain⟨x,rfl,h00⟩:=ij (n:=1000000) (d:=.dp) (t:=TVS) h0
 obtain⟨a0,a1,rfl,_,h1⟩:=bt h00
 obtain⟨rfl,h2⟩:=gH h1
 obtain⟨k,rfl,h3⟩:=bV h2
 obtain⟨h_x,p0,p1,hK⟩:=h3
 have h:ok (F.jM x k) (fun r=>K (dI r.2) [(1000000,.arr .dp TVS r.1)]):=ak (F.sA x k h_x p0 p1) (hK _ rfl)
 refine⟨rfl,ann59,(L59 x k),.raw,(aI (i0:=0) (by kernel_rfl) ?_),?_⟩
 ·rintro _ _ K ⟨hc0,i0,v0,rfl,hl0,rfl,hv0,h⟩
  exact cast (lvc59_0 _ _ _ _ _ _).symm (aL h (fun ht0 h=>⟨hl0,⟨ht0,⟨rfl,(oG h fun _ h=>(oG h fun _ h=>(oG h fun _ h=>(oL h fun _ er1 h=>⟨(by rw[er1];exact(M.fk aa _ _)),(aE (fun _ hm=>⟨hc0,hm⟩) _ rfl hl0 dG ht0 (aM h_x) trivial h)⟩))))⟩⟩⟩) fun h=>(h trivial))
 ·rw[vc59]
  exact(aD (fun m hm=>⟨trivial,hm⟩) Z0 _ rfl (Int.natCast_nonneg 0) trivial (aF h (fun v0 h hv0=>h) (fun _ h=>h.elim)))
def c20:Con:=⟨[.dat au],fun args hp K=>hpN 1000000 .dp TTable (fun x=>args2 (fun a0 a1=>sO 1000000 (x.length:Int) a0 (iY au a1 fun k=>(Ln TTb x)/\(0<=k)/\(k+(M.count TTb x:Int)<=M.big)/\(LD (M.mark TTb x k,k+(M.count TTb x:Int)) fun r=>K (dI r.2) [(1000000,.arr .dp TTable r.1)]))) args []) hp,.io,false⟩
abbrev C20:Ctx:=cx [(58,c58),(59,c59)] 27 [] 0 false
def ann20:=an [[kp 3],[kp 35],[kp 547],[kp 35],[kp 35],[kp 35],[kp 16]] [[kp 2]]
abbrev s20_0 (x:LTb) (k:Int) (i0:Int) (v0:Int×LTb):St:=⟨[(0,.clp 1000000 (x.length:Int)),(1,dI v0.1),(5,dI i0)],[(1000000,.arr .dp TTable v0.2)]⟩
abbrev LP20_0 (x:LTb) (k:Int) (m:Nat) (st_:St) (K:KX):Prop:=True/\aY (s20_0 x k) Z0 (x.length:Int) (F.fK x k) (fun v0:Int×LTb=>True) (aR (fun v0:Int×LTb=>True->K (.exit 0) (⟨[(1,dI v0.1)],[(1000000,.arr .dp TTable v0.2)]⟩:St)) (fun _=>False)) m st_
def L20 (x:LTb) (k:Int):aW:=lp1 0 (LP20_0 x k)
theorem vc20 (x:LTb) (k:Int) (K:KA):vcT C20 (L20 x k) ann20 f20 [.clp 1000000 (x.length:Int),dI k] [(1000000,.arr .dp TTable x)] .raw K =
 (∃m_,True/\aY (s20_0 x k) Z0 (x.length:Int) (F.fK x k) (fun v0:Int×LTb=>True) (aR (fun v0:Int×LTb=>True->K (dI v0.1) [(1000000,.arr .dp TTable v0.2)]) (fun _=>False)) m_ (s20_0 x k Z0 (k,x))):=by kernel_rfl
theorem lvc20_0 (x:LTb) (k:Int)  (i0:Int) (v0:Int×LTb) (m:Nat) (K:KX):lvT C20 (L20 x k) ann20 f20 0 0 (s20_0 x k i0 v0) m K =
 (cond (decide (i0<(x.length:Int))) ((0<=i0)/\(i0<(x.length:Int))/\(((nT v0.2 i0).1.length:Int)=((nT v0.2 i0).1.length:Int))/\(Ln TCS (nT v0.2 i0).1)/\(0<=v0.1)/\(v0.1+(M.count TCS (nT v0.2 i0).1:Int)<=M.big)/\(LD (M.mark TCS (nT v0.2 i0).1 v0.1,v0.1+(M.count TCS (nT v0.2 i0).1:Int)) fun r1=>(r1.1.length=(nT v0.2 i0).1.length)/\(0<=i0)/\(i0<(x.length:Int))/\(((nT (v0.2.set i0.toNat (r1.1,(nT v0.2 i0).2)) i0).2.1.length:Int)=((nT (v0.2.set i0.toNat (r1.1,(nT v0.2 i0).2)) i0).2.1.length:Int))/\(Ln (Ty.sl TVS) (nT (v0.2.set i0.toNat (r1.1,(nT v0.2 i0).2)) i0).2.1)/\(0<=r1.2)/\(r1.2+(M.count (Ty.sl TVS) (nT (v0.2.set i0.toNat (r1.1,(nT v0.2 i0).2)) i0).2.1:Int)<=M.big)/\(LD (M.mark (Ty.sl TVS) (nT (v0.2.set i0.toNat (r1.1,(nT v0.2 i0).2)) i0).2.1 r1.2,r1.2+(M.count (Ty.sl TVS) (nT (v0.2.set i0.toNat (r1.1,(nT v0.2 i0).2)) i0).2.1:Int)) fun r2=>(r2.1.length=(nT (v0.2.set i0.toNat (r1.1,(nT v0.2 i0).2)) i0).2.1.length)/\(nxT (LP20_0 x k) m K (s20_0 x k (wrap64 (i0+Z1)) (r2.2,((v0.2.set i0.toNat (r1.1,(nT v0.2 i0).2)).set i0.toNat ((nT (v0.2.set i0.toNat (r1.1,(nT v0.2 i0).2)) i0).1,(r2.1,()))))))))) (K (.exit 0) (⟨[(1,dI v0.1)],[(1000000,.arr .dp TTable v0.2)]⟩:St))):=by kernel_rfl
theorem con20_ok:aN P 20 c20:=aP C20 func20 (kC con58_ok (kC con59_ok kN)) fun args hp K h0=>by
 unfold c20 at h0
 dsimp only at h0
 obtain⟨x,rfl,h00⟩:=ij (n:=1000000) (d:=.dp) (t:=TTable) h0
 obtain⟨a0,a1,rfl,_,h1⟩:=bt h00
 obtain⟨rfl,h2⟩:=gH h1
 obtain⟨k,rfl,h3⟩:=bV h2
 obtain⟨h_x,p0,p1,hK⟩:=h3
 have h:ok (F.kT x k) (fun r=>K (dI r.2) [(1000000,.arr .dp TTable r.1)]):=ak (F.tg x k h_x p0 p1) (hK _ rfl)
 refine⟨rfl,ann20,(L20 x k),.raw,(aI (i0:=0) (by kernel_rfl) ?_),?_⟩
 ·rintro _ _ K ⟨hc0,i0,v0,rfl,hl0,rfl,hv0,h⟩
  exact cast (lvc20_0 _ _ _ _ _ _).symm (aL h (fun ht0 h=>⟨hl0,⟨ht0,⟨rfl,(oG h fun _ h=>(oG h fun _ h=>(oG h fun _ h=>(oL h fun _ er1 h=>⟨(by rw[er1];exact(M.fk ai _ _)),⟨hl0,⟨ht0,⟨rfl,(oG h fun _ h=>(oG h fun _ h=>(oG h fun _ h=>(oL h fun _ er2 h=>⟨(by rw[er2];exact(M.fk TVS _ _)),(aE (fun _ hm=>⟨hc0,hm⟩) _ rfl hl0 dG ht0 (aM h_x) trivial h)⟩))))⟩⟩⟩⟩))))⟩⟩⟩) fun h=>(h trivial))
 ·rw[vc20]
  exact(aD (fun m hm=>⟨trivial,hm⟩) Z0 _ rfl (Int.natCast_nonneg 0) trivial (aF h (fun v0 h hv0=>h) (fun _ h=>h.elim)))
def c60:Con:=⟨[.dat au],fun args hp K=>hpN 1000000 .sh au (fun x=>args2 (fun a0 a1=>sO 1000000 (x.length:Int) a0 (iY au a1 fun k=>(Ln (Ty.sl au) x)/\(0<=k)/\(k+(M.count (Ty.sl au) x:Int)<=M.big)/\(LD (M.mark (Ty.sl au) x k,k+(M.count (Ty.sl au) x:Int)) fun r=>K (dI r.2) [(1000000,.arr .sh au r.1)]))) args []) hp,.io,false⟩
abbrev C60:Ctx:=cx [] 19 [] 0 false
def ann60:=an [[kp 3],[kp 35],[kp 547],[kp 35],[kp 35],[kp 35],[kp 16]] [[kp 2]]
abbrev s60_0 (x:LI) (k:Int) (i0:Int) (v0:Int×LI):St:=⟨[(0,.clp 1000000 (x.length:Int)),(1,dI v0.1),(5,dI i0)],[(1000000,.arr .sh au v0.2)]⟩
abbrev LP60_0 (x:LI) (k:Int) (m:Nat) (st_:St) (K:KX):Prop:=True/\aY (s60_0 x k) Z0 (x.length:Int) (F.gY x k) (fun v0:Int×LI=>True) (aR (fun v0:Int×LI=>True->K (.exit 0) (⟨[(1,dI v0.1)],[(1000000,.arr .sh au v0.2)]⟩:St)) (fun _=>False)) m st_
def L60 (x:LI) (k:Int):aW:=lp1 0 (LP60_0 x k)
theorem vc60 (x:LI) (k:Int) (K:KA):vcT C60 (L60 x k) ann60 f60 [.clp 1000000 (x.length:Int),dI k] [(1000000,.arr .sh au x)] .raw K =
 (∃m_,True/\aY (s60_0 x k) Z0 (x.length:Int) (F.gY x k) (fun v0:Int×LI=>True) (aR (fun v0:Int×LI=>True->K (dI v0.1) [(1000000,.arr .sh au v0.2)]) (fun _=>False)) m_ (s60_0 x k Z0 (k,x))):=by kernel_rfl
theorem lvc60_0 (x:LI) (k:Int)  (i0:Int) (v0:Int×LI) (m:Nat) (K:KX):lvT C60 (L60 x k) ann60 f60 0 0 (s60_0 x k i0 v0) m K =
 (cond (decide (i0<(x.length:Int))) ((0<=i0)/\(i0<(x.length:Int))/\(nxT (LP60_0 x k) m K (s60_0 x k (wrap64 (i0+Z1)) (wrap64 (v0.1+Z1),(v0.2.set i0.toNat v0.1))))) (K (.exit 0) (⟨[(1,dI v0.1)],[(1000000,.arr .sh au v0.2)]⟩:St))):=by kernel_rfl
theorem con60_ok:aN P 60 c60:=aP C60 func60 kN fun args hp K h0=>by
 unfold c60 at h0
 dsimp only at h0
 obtain⟨x,rfl,h00⟩:=ij (n:=1000000) (d:=.sh) (t:=au) h0
 obtain⟨a0,a1,rfl,_,h1⟩:=bt h00
 obtain⟨rfl,h2⟩:=gH h1
 obtain⟨k,rfl,h3⟩:=bV h2
 obtain⟨h_x,p0,p1,hK⟩:=h3
 have h:ok (F.nZ x k) (fun r=>K (dI r.2) [(1000000,.arr .sh au r.1)]):=ak (F.vK x k h_x p0 p1) (hK _ rfl)
 refine⟨rfl,ann60,(L60 x k),.raw,(aI (i0:=0) (by kernel_rfl) ?_),?_⟩
 ·rintro _ _ K ⟨hc0,i0,v0,rfl,hl0,rfl,hv0,h⟩
  exact cast (lvc60_0 _ _ _ _ _ _).symm (aL h (fun ht0 h=>⟨hl0,⟨ht0,(aE (fun _ hm=>⟨hc0,hm⟩) _ rfl hl0 dG ht0 (aM h_x) trivial h)⟩⟩) fun h=>(h trivial))
 ·rw[vc60]
  exact(aD (fun m hm=>⟨trivial,hm⟩) Z0 _ rfl (Int.natCast_nonneg 0) trivial (aF h (fun v0 h hv0=>h) (fun _ h=>h.elim)))
def c61:Con:=⟨[.dat au],fun args hp K=>hpN 1000000 .sh ax (fun x=>args2 (fun a0 a1=>sO 1000000 (x.length:Int) a0 (iY au a1 fun k=>(Ln TPS x)/\(0<=k)/\(k+(M.count TPS x:Int)<=M.big)/\(LD (M.mark TPS x k,k+(M.count TPS x:Int)) fun r=>K (dI r.2) [(1000000,.arr .sh ax r.1)]))) args []) hp,.io,false⟩
abbrev C61:Ctx:=cx [(124,c124)] 52 [] 0 false
def ann61:=an [[kp 3],[kp 35],[kp 547],[kp 35],[kp 35],[kp 35],[kp 35],[kp 35],[kp 35],[kp 35],[kp 35],[kp 35],[kp 35],[kp 35],[kp 16]] [[kp 2]]
abbrev s61_0 (x:LPt) (k:Int) (i0:Int) (v0:Int×LPt):St:=⟨[(0,.clp 1000000 (x.length:Int)),(1,dI v0.1),(5,dI i0)],[(1000000,.arr .sh ax v0.2)]⟩
abbrev LP61_0 (x:LPt) (k:Int) (m:Nat) (st_:St) (K:KX):Prop:=True/\aY (s61_0 x k) Z0 (x.length:Int) (F.fY x k) (fun v0:Int×LPt=>True) (aR (fun v0:Int×LPt=>True->K (.exit 0) (⟨[(1,dI v0.1)],[(1000000,.arr .sh ax v0.2)]⟩:St)) (fun _=>False)) m st_
def L61 (x:LPt) (k:Int):aW:=lp1 0 (LP61_0 x k)
theorem vc61 (x:LPt) (k:Int) (K:KA):vcT C61 (L61 x k) ann61 f61 [.clp 1000000 (x.length:Int),dI k] [(1000000,.arr .sh ax x)] .raw K =
 (∃m_,True/\aY (s61_0 x k) Z0 (x.length:Int) (F.fY x k) (fun v0:Int×LPt=>True) (aR (fun v0:Int×LPt=>True->K (dI v0.1) [(1000000,.arr .sh ax v0.2)]) (fun _=>False)) m_ (s61_0 x k Z0 (k,x))):=by kernel_rfl
theorem lvc61_0 (x:LPt) (k:Int)  (i0:Int) (v0:Int×LPt) (m:Nat) (K:KX):lvT C61 (L61 x k) ann61 f61 0 0 (s61_0 x k i0 v0) m K =
 (cond (decide (i0<(x.length:Int))) ((0<=i0)/\(i0<(x.length:Int))/\(0<=i0)/\(i0<(x.length:Int))/\(let y1:LPt:=((v0.2.set i0.toNat (v0.1,(nP v0.2 i0).2)).set i0.toNat ((nP (v0.2.set i0.toNat (v0.1,(nP v0.2 i0).2)) i0).1,(wrap64 (v0.1+Z1),(nP (v0.2.set i0.toNat (v0.1,(nP v0.2 i0).2)) i0).2.2)));(0<=i0)/\(i0<(x.length:Int))/\(let y2:LPt:=(y1.set i0.toNat ((nP y1 i0).1,((nP y1 i0).2.1,((wrap64 (wrap64 (v0.1+Z1)+Z1),(nP y1 i0).2.2.1.2),()))));(0<=i0)/\(i0<(x.length:Int))/\(let y3:LPt:=(y2.set i0.toNat ((nP y2 i0).1,((nP y2 i0).2.1,(((nP y2 i0).2.2.1.1,(wrap64 (wrap64 (wrap64 (v0.1+Z1)+Z1)+Z1),(nP y2 i0).2.2.1.2.2)),()))));((wrap64 (wrap64 (wrap64 (wrap64 (v0.1+Z1)+Z1)+Z1)+Z1))<=M.big)/\(LD (M.ep (wrap64 (wrap64 (wrap64 (wrap64 (v0.1+Z1)+Z1)+Z1)+Z1))) fun r1=>(0<=i0)/\(i0<(x.length:Int))/\(let y4:LPt:=(y3.set i0.toNat ((nP y3 i0).1,((nP y3 i0).2.1,(((nP y3 i0).2.2.1.1,((nP y3 i0).2.2.1.2.1,(r1,()))),()))));(nxT (LP61_0 x k) m K (s61_0 x k (wrap64 (i0+Z1)) (wrap64 (wrap64 (wrap64 (wrap64 (wrap64 (v0.1+Z1)+Z1)+Z1)+Z1)+Z1),y4))))))))) (K (.exit 0) (⟨[(1,dI v0.1)],[(1000000,.arr .sh ax v0.2)]⟩:St))):=by kernel_rfl
theorem con61_ok:aN P 61 c61:=aP C61 func61 (kC con124_ok kN) fun args hp K h0=>by
 unfold c61 at h0
 dsimp only at h0
 obtain⟨x,rfl,h00⟩:=ij (n:=1000000) (d:=.sh) (t:=ax) h0
 obtain⟨a0,a1,rfl,_,h1⟩:=bt h00
 obtain⟨rfl,h2⟩:=gH h1
 obtain⟨k,rfl,h3⟩:=bV h2
 obtain⟨h_x,p0,p1,hK⟩:=h3
 have h:ok (F.mT x k) (fun r=>K (dI r.2) [(1000000,.arr .sh ax r.1)]):=ak (F.uB x k h_x p0 p1) (hK _ rfl)
 refine⟨rfl,ann61,(L61 x k),.raw,(aI (i0:=0) (by kernel_rfl) ?_),?_⟩
 ·rintro _ _ K ⟨hc0,i0,v0,rfl,hl0,rfl,hv0,h⟩
  exact cast (lvc61_0 _ _ _ _ _ _).symm (aL h (fun ht0 h=>⟨hl0,⟨ht0,⟨hl0,⟨ht0,(have h:=fI h _ rfl;⟨hl0,⟨ht0,(have h:=fI h _ rfl;⟨hl0,⟨ht0,(have h:=fI h _ rfl;(oG h fun _ h=>(oL h fun _ _ h=>⟨hl0,⟨ht0,(have h:=fI h _ rfl;(aE (fun _ hm=>⟨hc0,hm⟩) _ rfl hl0 dG ht0 (aM h_x) trivial h))⟩⟩)))⟩⟩)⟩⟩)⟩⟩⟩⟩) fun h=>(h trivial))
 ·rw[vc61]
  exact(aD (fun m hm=>⟨trivial,hm⟩) Z0 _ rfl (Int.natCast_nonneg 0) trivial (aF h (fun v0 h hv0=>h) (fun _ h=>h.elim)))
def c21:Con:=⟨[.dat au],fun args hp K=>hpN 1000000 .dp TBond (fun x=>args2 (fun a0 a1=>sO 1000000 (x.length:Int) a0 (iY au a1 fun k=>(Ln (Ty.sl TBond) x)/\(0<=k)/\(k+(M.count (Ty.sl TBond) x:Int)<=M.big)/\(LD (M.mark (Ty.sl TBond) x k,k+(M.count (Ty.sl TBond) x:Int)) fun r=>K (dI r.2) [(1000000,.arr .dp TBond r.1)]))) args []) hp,.io,false⟩
abbrev C21:Ctx:=cx [(60,c60),(61,c61)] 64 [] 0 false
def ann21:=an [[kp 3],[kp 35],[kp 547],[kp 35],[kp 35],[kp 35],[kp 35],[kp 35],[kp 35],[kp 35],[kp 35],[kp 35],[kp 35],[kp 35],[kp 35],[kp 16]] [[kp 2]]
abbrev s21_0 (x:(List TBond.D)) (k:Int) (i0:Int) (v0:Int×(List TBond.D)):St:=⟨[(0,.clp 1000000 (x.length:Int)),(1,dI v0.1),(5,dI i0)],[(1000000,.arr .dp TBond v0.2)]⟩
abbrev LP21_0 (x:(List TBond.D)) (k:Int) (m:Nat) (st_:St) (K:KX):Prop:=True/\aY (s21_0 x k) Z0 (x.length:Int) (F.gb x k) (fun v0:Int×(List TBond.D)=>True) (aR (fun v0:Int×(List TBond.D)=>True->K (.exit 0) (⟨[(1,dI v0.1)],[(1000000,.arr .dp TBond v0.2)]⟩:St)) (fun _=>False)) m st_
def L21 (x:(List TBond.D)) (k:Int):aW:=lp1 0 (LP21_0 x k)
theorem vc21 (x:(List TBond.D)) (k:Int) (K:KA):vcT C21 (L21 x k) ann21 f21 [.clp 1000000 (x.length:Int),dI k] [(1000000,.arr .dp TBond x)] .raw K =
 (∃m_,True/\aY (s21_0 x k) Z0 (x.length:Int) (F.gb x k) (fun v0:Int×(List TBond.D)=>True) (aR (fun v0:Int×(List TBond.D)=>True->K (dI v0.1) [(1000000,.arr .dp TBond v0.2)]) (fun _=>False)) m_ (s21_0 x k Z0 (k,x))):=by kernel_rfl
theorem lvc21_0 (x:(List TBond.D)) (k:Int)  (i0:Int) (v0:Int×(List TBond.D)) (m:Nat) (K:KX):lvT C21 (L21 x k) ann21 f21 0 0 (s21_0 x k i0 v0) m K =
 (cond (decide (i0<(x.length:Int))) ((0<=i0)/\(i0<(x.length:Int))/\(0<=i0)/\(i0<(x.length:Int))/\(let y1:(List TBond.D):=((v0.2.set i0.toNat (v0.1,(nth (t:=TBond) v0.2 i0).2)).set i0.toNat ((nth (t:=TBond) (v0.2.set i0.toNat (v0.1,(nth (t:=TBond) v0.2 i0).2)) i0).1,(wrap64 (v0.1+Z1),(nth (t:=TBond) (v0.2.set i0.toNat (v0.1,(nth (t:=TBond) v0.2 i0).2)) i0).2.2)));(0<=i0)/\(i0<(x.length:Int))/\(((nth (t:=TBond) y1 i0).2.2.1.length:Int)=((nth (t:=TBond) y1 i0).2.2.1.length:Int))/\(Ln (Ty.sl au) (nth (t:=TBond) y1 i0).2.2.1)/\(0<=(wrap64 (wrap64 (v0.1+Z1)+Z1)))/\((wrap64 (wrap64 (v0.1+Z1)+Z1))+(M.count (Ty.sl au) (nth (t:=TBond) y1 i0).2.2.1:Int)<=M.big)/\(LD (M.mark (Ty.sl au) (nth (t:=TBond) y1 i0).2.2.1 (wrap64 (wrap64 (v0.1+Z1)+Z1)),(wrap64 (wrap64 (v0.1+Z1)+Z1))+(M.count (Ty.sl au) (nth (t:=TBond) y1 i0).2.2.1:Int)) fun r1=>(r1.1.length=(nth (t:=TBond) y1 i0).2.2.1.length)/\(0<=i0)/\(i0<(x.length:Int))/\(let y2:(List TBond.D):=((y1.set i0.toNat ((nth (t:=TBond) y1 i0).1,((nth (t:=TBond) y1 i0).2.1,(r1.1,(nth (t:=TBond) y1 i0).2.2.2)))).set i0.toNat ((nth (t:=TBond) (y1.set i0.toNat ((nth (t:=TBond) y1 i0).1,((nth (t:=TBond) y1 i0).2.1,(r1.1,(nth (t:=TBond) y1 i0).2.2.2)))) i0).1,((nth (t:=TBond) (y1.set i0.toNat ((nth (t:=TBond) y1 i0).1,((nth (t:=TBond) y1 i0).2.1,(r1.1,(nth (t:=TBond) y1 i0).2.2.2)))) i0).2.1,((nth (t:=TBond) (y1.set i0.toNat ((nth (t:=TBond) y1 i0).1,((nth (t:=TBond) y1 i0).2.1,(r1.1,(nth (t:=TBond) y1 i0).2.2.2)))) i0).2.2.1,(r1.2,(nth (t:=TBond) (y1.set i0.toNat ((nth (t:=TBond) y1 i0).1,((nth (t:=TBond) y1 i0).2.1,(r1.1,(nth (t:=TBond) y1 i0).2.2.2)))) i0).2.2.2.2)))));(0<=i0)/\(i0<(x.length:Int))/\(((nth (t:=TBond) y2 i0).2.2.2.2.1.length:Int)=((nth (t:=TBond) y2 i0).2.2.2.2.1.length:Int))/\(Ln (Ty.sl au) (nth (t:=TBond) y2 i0).2.2.2.2.1)/\(0<=(wrap64 (r1.2+Z1)))/\((wrap64 (r1.2+Z1))+(M.count (Ty.sl au) (nth (t:=TBond) y2 i0).2.2.2.2.1:Int)<=M.big)/\(LD (M.mark (Ty.sl au) (nth (t:=TBond) y2 i0).2.2.2.2.1 (wrap64 (r1.2+Z1)),(wrap64 (r1.2+Z1))+(M.count (Ty.sl au) (nth (t:=TBond) y2 i0).2.2.2.2.1:Int)) fun r2=>(r2.1.length=(nth (t:=TBond) y2 i0).2.2.2.2.1.length)/\(Z3≠0)/\(0<=i0)/\(i0<(x.length:Int))/\(let y3:(List TBond.D):=((y2.set i0.toNat ((nth (t:=TBond) y2 i0).1,((nth (t:=TBond) y2 i0).2.1,((nth (t:=TBond) y2 i0).2.2.1,((nth (t:=TBond) y2 i0).2.2.2.1,(r2.1,(nth (t:=TBond) y2 i0).2.2.2.2.2)))))).set i0.toNat ((nth (t:=TBond) (y2.set i0.toNat ((nth (t:=TBond) y2 i0).1,((nth (t:=TBond) y2 i0).2.1,((nth (t:=TBond) y2 i0).2.2.1,((nth (t:=TBond) y2 i0).2.2.2.1,(r2.1,(nth (t:=TBond) y2 i0).2.2.2.2.2)))))) i0).1,((nth (t:=TBond) (y2.set i0.toNat ((nth (t:=TBond) y2 i0).1,((nth (t:=TBond) y2 i0).2.1,((nth (t:=TBond) y2 i0).2.2.1,((nth (t:=TBond) y2 i0).2.2.2.1,(r2.1,(nth (t:=TBond) y2 i0).2.2.2.2.2)))))) i0).2.1,((nth (t:=TBond) (y2.set i0.toNat ((nth (t:=TBond) y2 i0).1,((nth (t:=TBond) y2 i0).2.1,((nth (t:=TBond) y2 i0).2.2.1,((nth (t:=TBond) y2 i0).2.2.2.1,(r2.1,(nth (t:=TBond) y2 i0).2.2.2.2.2)))))) i0).2.2.1,((nth (t:=TBond) (y2.set i0.toNat ((nth (t:=TBond) y2 i0).1,((nth (t:=TBond) y2 i0).2.1,((nth (t:=TBond) y2 i0).2.2.1,((nth (t:=TBond) y2 i0).2.2.2.1,(r2.1,(nth (t:=TBond) y2 i0).2.2.2.2.2)))))) i0).2.2.2.1,((nth (t:=TBond) (y2.set i0.toNat ((nth (t:=TBond) y2 i0).1,((nth (t:=TBond) y2 i0).2.1,((nth (t:=TBond) y2 i0).2.2.1,((nth (t:=TBond) y2 i0).2.2.2.1,(r2.1,(nth (t:=TBond) y2 i0).2.2.2.2.2)))))) i0).2.2.2.2.1,((decide ((r2.2.tmod Z3)=Z0)),(nth (t:=TBond) (y2.set i0.toNat ((nth (t:=TBond) y2 i0).1,((nth (t:=TBond) y2 i0).2.1,((nth (t:=TBond) y2 i0).2.2.1,((nth (t:=TBond) y2 i0).2.2.2.1,(r2.1,(nth (t:=TBond) y2 i0).2.2.2.2.2)))))) i0).2.2.2.2.2.2)))))));(0<=i0)/\(i0<(x.length:Int))/\(((nth (t:=TBond) y3 i0).2.2.2.2.2.2.1.length:Int)=((nth (t:=TBond) y3 i0).2.2.2.2.2.2.1.length:Int))/\(Ln TPS (nth (t:=TBond) y3 i0).2.2.2.2.2.2.1)/\(0<=(wrap64 (r2.2+Z1)))/\((wrap64 (r2.2+Z1))+(M.count TPS (nth (t:=TBond) y3 i0).2.2.2.2.2.2.1:Int)<=M.big)/\(LD (M.mark TPS (nth (t:=TBond) y3 i0).2.2.2.2.2.2.1 (wrap64 (r2.2+Z1)),(wrap64 (r2.2+Z1))+(M.count TPS (nth (t:=TBond) y3 i0).2.2.2.2.2.2.1:Int)) fun r3=>(r3.1.length=(nth (t:=TBond) y3 i0).2.2.2.2.2.2.1.length)/\(nxT (LP21_0 x k) m K (s21_0 x k (wrap64 (i0+Z1)) (r3.2,(y3.set i0.toNat ((nth (t:=TBond) y3 i0).1,((nth (t:=TBond) y3 i0).2.1,((nth (t:=TBond) y3 i0).2.2.1,((nth (t:=TBond) y3 i0).2.2.2.1,((nth (t:=TBond) y3 i0).2.2.2.2.1,((nth (t:=TBond) y3 i0).2.2.2.2.2.1,(r3.1,())))))))))))))))))) (K (.exit 0) (⟨[(1,dI v0.1)],[(1000000,.arr .dp TBond v0.2)]⟩:St))):=by kernel_rfl
theorem con21_ok:aN P 21 c21:=aP C21 func21 (kC con60_ok (kC con61_ok kN)) fun args hp K h0=>by
 unfold c21 at h0
 dsimp only at h0
 obtain⟨x,rfl,h00⟩:=ij (n:=1000000) (d:=.dp) (t:=TBond) h0
 obtain⟨a0,a1,rfl,_,h1⟩:=bt h00
 obtain⟨rfl,h2⟩:=gH h1
 obtain⟨k,rfl,h3⟩:=bV h2
 obtain⟨h_x,p0,p1,hK⟩:=h3
 have h:ok (F.mD x k) (fun r=>K (dI r.2) [(1000000,.arr .dp TBond r.1)]):=ak (F.uY x k h_x p0 p1) (hK _ rfl)
 refine⟨rfl,ann21,(L21 x k),.raw,(aI (i0:=0) (by kernel_rfl) ?_),?_⟩
 ·rintro _ _ K ⟨hc0,i0,v0,rfl,hl0,rfl,hv0,h⟩
  exact cast (lvc21_0 _ _ _ _ _ _).symm (aL h (fun ht0 h=>⟨hl0,⟨ht0,⟨hl0,⟨ht0,(have h:=fI h _ rfl;⟨hl0,⟨ht0,⟨rfl,(oG h fun _ h=>(oG h fun _ h=>(oG h fun _ h=>(oL h fun _ er1 h=>⟨(by rw[er1];exact(M.fk au _ _)),⟨hl0,⟨ht0,(have h:=fI h _ rfl;⟨hl0,⟨ht0,⟨rfl,(oG h fun _ h=>(oG h fun _ h=>(oG h fun _ h=>(oL h fun _ er2 h=>⟨(by rw[er2];exact(M.fk au _ _)),⟨(by decide),⟨hl0,⟨ht0,(have h:=fI h _ rfl;⟨hl0,⟨ht0,⟨rfl,(oG h fun _ h=>(oG h fun _ h=>(oG h fun _ h=>(oL h fun _ er3 h=>⟨(by rw[er3];exact(M.fk ax _ _)),(aE (fun _ hm=>⟨hc0,hm⟩) _ rfl hl0 dG ht0 (aM h_x) trivial h)⟩))))⟩⟩⟩)⟩⟩⟩⟩))))⟩⟩⟩)⟩⟩⟩))))⟩⟩⟩)⟩⟩⟩⟩) fun h=>(h trivial))
 ·rw[vc21]
  exact(aD (fun m hm=>⟨trivial,hm⟩) Z0 _ rfl (Int.natCast_nonneg 0) trivial (aF h (fun v0 h hv0=>h) (fun _ h=>h.elim)))
def c22:Con:=⟨[.dat au],fun args hp K=>hpN 1000000 .dp TChange (fun x=>args2 (fun a0 a1=>sO 1000000 (x.length:Int) a0 (iY au a1 fun k=>(Ln (Ty.sl TChange) x)/\(0<=k)/\(k+(M.count (Ty.sl TChange) x:Int)<=M.big)/\(LD (M.mark (Ty.sl TChange) x k,k+(M.count (Ty.sl TChange) x:Int)) fun r=>K (dI r.2) [(1000000,.arr .dp TChange r.1)]))) args []) hp,.io,false⟩
abbrev C22:Ctx:=cx [(62,c62)] 36 [] 0 false
def ann22:=an [[kp 3],[kp 35],[kp 547],[kp 35],[kp 35],[kp 35],[kp 35],[kp 35],[kp 35],[kp 16]] [[kp 2]]
abbrev s22_0 (x:(List TChange.D)) (k:Int) (i0:Int) (v0:Int×(List TChange.D)):St:=⟨[(0,.clp 1000000 (x.length:Int)),(1,dI v0.1),(5,dI i0)],[(1000000,.arr .dp TChange v0.2)]⟩
abbrev LP22_0 (x:(List TChange.D)) (k:Int) (m:Nat) (st_:St) (K:KX):Prop:=True/\aY (s22_0 x k) Z0 (x.length:Int) (F.eP x k) (fun v0:Int×(List TChange.D)=>True) (aR (fun v0:Int×(List TChange.D)=>True->K (.exit 0) (⟨[(1,dI v0.1)],[(1000000,.arr .dp TChange v0.2)]⟩:St)) (fun _=>False)) m st_
def L22 (x:(List TChange.D)) (k:Int):aW:=lp1 0 (LP22_0 x k)
theorem vc22 (x:(List TChange.D)) (k:Int) (K:KA):vcT C22 (L22 x k) ann22 f22 [.clp 1000000 (x.length:Int),dI k] [(1000000,.arr .dp TChange x)] .raw K =
 (∃m_,True/\aY (s22_0 x k) Z0 (x.length:Int) (F.eP x k) (fun v0:Int×(List TChange.D)=>True) (aR (fun v0:Int×(List TChange.D)=>True->K (dI v0.1) [(1000000,.arr .dp TChange v0.2)]) (fun _=>False)) m_ (s22_0 x k Z0 (k,x))):=by kernel_rfl
theorem lvc22_0 (x:(List TChange.D)) (k:Int)  (i0:Int) (v0:Int×(List TChange.D)) (m:Nat) (K:KX):lvT C22 (L22 x k) ann22 f22 0 0 (s22_0 x k i0 v0) m K =
 (cond (decide (i0<(x.length:Int))) ((0<=i0)/\(i0<(x.length:Int))/\(0<=i0)/\(i0<(x.length:Int))/\(((nth (t:=TChange) (v0.2.set i0.toNat (v0.1,(nth (t:=TChange) v0.2 i0).2)) i0).2.1.length:Int)=((nth (t:=TChange) (v0.2.set i0.toNat (v0.1,(nth (t:=TChange) v0.2 i0).2)) i0).2.1.length:Int))/\(Ln TVS (nth (t:=TChange) (v0.2.set i0.toNat (v0.1,(nth (t:=TChange) v0.2 i0).2)) i0).2.1)/\(0<=(wrap64 (v0.1+Z1)))/\((wrap64 (v0.1+Z1))+(M.count TVS (nth (t:=TChange) (v0.2.set i0.toNat (v0.1,(nth (t:=TChange) v0.2 i0).2)) i0).2.1:Int)<=M.big)/\(LD (M.mark TVS (nth (t:=TChange) (v0.2.set i0.toNat (v0.1,(nth (t:=TChange) v0.2 i0).2)) i0).2.1 (wrap64 (v0.1+Z1)),(wrap64 (v0.1+Z1))+(M.count TVS (nth (t:=TChange) (v0.2.set i0.toNat (v0.1,(nth (t:=TChange) v0.2 i0).2)) i0).2.1:Int)) fun r1=>(r1.1.length=(nth (t:=TChange) (v0.2.set i0.toNat (v0.1,(nth (t:=TChange) v0.2 i0).2)) i0).2.1.length)/\(Z3≠0)/\(0<=i0)/\(i0<(x.length:Int))/\(let y1:(List TChange.D):=(((v0.2.set i0.toNat (v0.1,(nth (t:=TChange) v0.2 i0).2)).set i0.toNat ((nth (t:=TChange) (v0.2.set i0.toNat (v0.1,(nth (t:=TChange) v0.2 i0).2)) i0).1,(r1.1,(nth (t:=TChange) (v0.2.set i0.toNat (v0.1,(nth (t:=TChange) v0.2 i0).2)) i0).2.2))).set i0.toNat ((nth (t:=TChange) ((v0.2.set i0.toNat (v0.1,(nth (t:=TChange) v0.2 i0).2)).set i0.toNat ((nth (t:=TChange) (v0.2.set i0.toNat (v0.1,(nth (t:=TChange) v0.2 i0).2)) i0).1,(r1.1,(nth (t:=TChange) (v0.2.set i0.toNat (v0.1,(nth (t:=TChange) v0.2 i0).2)) i0).2.2))) i0).1,((nth (t:=TChange) ((v0.2.set i0.toNat (v0.1,(nth (t:=TChange) v0.2 i0).2)).set i0.toNat ((nth (t:=TChange) (v0.2.set i0.toNat (v0.1,(nth (t:=TChange) v0.2 i0).2)) i0).1,(r1.1,(nth (t:=TChange) (v0.2.set i0.toNat (v0.1,(nth (t:=TChange) v0.2 i0).2)) i0).2.2))) i0).2.1,((decide ((r1.2.tmod Z3)=Z0)),()))));(nxT (LP22_0 x k) m K (s22_0 x k (wrap64 (i0+Z1)) (wrap64 (r1.2+Z1),y1)))))) (K (.exit 0) (⟨[(1,dI v0.1)],[(1000000,.arr .dp TChange v0.2)]⟩:St))):=by kernel_rfl
theorem con22_ok:aN P 22 c22:=aP C22 func22 (kC con62_ok kN) fun args hp K h0=>by
 unfold c22 at h0
 dsimp only at h0
 obtain⟨x,rfl,h00⟩:=ij (n:=1000000) (d:=.dp) (t:=TChange) h0
 obtain⟨a0,a1,rfl,_,h1⟩:=bt h00
 obtain⟨rfl,h2⟩:=gH h1
 obtain⟨k,rfl,h3⟩:=bV h2
 obtain⟨h_x,p0,p1,hK⟩:=h3
 have h:ok (F.jG x k) (fun r=>K (dI r.2) [(1000000,.arr .dp TChange r.1)]):=ak (F.so x k h_x p0 p1) (hK _ rfl)
 refine⟨rfl,ann22,(L22 x k),.raw,(aI (i0:=0) (by kernel_rfl) ?_),?_⟩
 ·rintro _ _ K ⟨hc0,i0,v0,rfl,hl0,rfl,hv0,h⟩
  exact cast (lvc22_0 _ _ _ _ _ _).symm (aL h (fun ht0 h=>⟨hl0,⟨ht0,⟨hl0,⟨ht0,⟨rfl,(oG h fun _ h=>(oG h fun _ h=>(oG h fun _ h=>(oL h fun _ er1 h=>⟨(by rw[er1];exact(M.fk aa _ _)),⟨(by decide),⟨hl0,⟨ht0,(have h:=fI h _ rfl;(aE (fun _ hm=>⟨hc0,hm⟩) _ rfl hl0 dG ht0 (aM h_x) trivial h))⟩⟩⟩⟩))))⟩⟩⟩⟩⟩) fun h=>(h trivial))
 ·rw[vc22]
  exact(aD (fun m hm=>⟨trivial,hm⟩) Z0 _ rfl (Int.natCast_nonneg 0) trivial (aF h (fun v0 h hv0=>h) (fun _ h=>h.elim)))
def c63:Con:=⟨[.dat TCS,.dat au],fun args hp K=>g2 (pD TCS) (pD au) (fun x k=>(Ln TCS x)/\(0<=k)/\(k+(M.count TCS x:Int)<=M.big)/\(M.mark TCS x k=x)/\K (dI (k+(M.count TCS x:Int))) []) args hp,.bor,false⟩
abbrev C63:Ctx:=cx [] 33 [] 0 false
def ann63:=an [[kp 3],[kp 35],[kp 547],[kp 35],[kp 262179],[kp 16],[kp 35],[kp 536870947],[kp 16],[kp 35],[kp 16]] [[kp 2]]
abbrev s63_0 (x:LC) (k:Int) (i0:Int) (v0:Int):St:=⟨[(0,.data TCS x),(1,dI v0),(5,dI i0)],[]⟩
abbrev LP63_0 (x:LC) (k:Int) (m:Nat) (st_:St) (K:KX):Prop:=True/\bI (t:=ai) (s63_0 x k) x (F.eO x k) (fun v0:Int=>True) (aR (fun v0:Int=>True->K (.exit 0) (⟨[(1,dI v0)],[]⟩:St)) (fun q0:Unit=>K .ret (⟨[(4,dI (-1:Int))],[]⟩:St))) m st_
def L63 (x:LC) (k:Int):aW:=lp1 0 (LP63_0 x k)
theorem vc63 (x:LC) (k:Int) (K:KA):vcT C63 (L63 x k) ann63 f63 [.data TCS x,dI k] [] (.dat au) K =
 (∃m_,True/\bI (t:=ai) (s63_0 x k) x (F.eO x k) (fun v0:Int=>True) (aR (fun v0:Int=>True->K (dI v0) []) (fun q0:Unit=>K (dI (-1:Int)) [])) m_ (s63_0 x k Z0 k)):=by kernel_rfl
theorem lvc63_0 (x:LC) (k:Int)  (i0:Int) (v0:Int) (m:Nat) (K:KX):lvT C63 (L63 x k) ann63 f63 0 0 (s63_0 x k i0 v0) m K =
 (cond (decide (i0<(x.length:Int))) ((0<=i0)/\(i0<(x.length:Int))/\cond (!decide ((nC x i0).1=v0)) (K .ret (⟨[(4,dI (-1:Int))],[]⟩:St)) ((0<=i0)/\(i0<(x.length:Int))/\(Z3≠0)/\cond (!(Ty.beq Ty.bool (nC x i0).2.1 (decide (((wrap64 (v0+Z1)).tmod Z3)=Z0)))) (K .ret (⟨[(4,dI (-1:Int))],[]⟩:St)) (nxT (LP63_0 x k) m K (s63_0 x k (wrap64 (i0+Z1)) (wrap64 (wrap64 (v0+Z1)+Z1)))))) (K (.exit 0) (⟨[(1,dI v0)],[]⟩:St))):=by kernel_rfl
theorem con63_ok:aN P 63 c63:=aP C63 func63 kN fun args hp K h0=>by
 obtain⟨x,k,rfl,rfl,h_x,p0,p1,p2,hK⟩:=g2e h0
 have h:ok (F.jP x k) (fun r=>K (dI r) []):=ak (F.sE x k h_x p0 p1 p2) hK
 refine⟨rfl,ann63,(L63 x k),(.dat au),(aI (i0:=0) (by kernel_rfl) ?_),?_⟩
 ·rintro _ _ K ⟨hc0,i0,v0,rfl,hl0,rfl,hv0,h⟩
  exact cast (lvc63_0 _ _ _ _ _ _).symm (br (t:=ai) hl0 h (fun ht0 h=>⟨hl0,⟨ht0,(oC h (fun _ h=>h) fun _ h=>⟨hl0,⟨ht0,⟨(by decide),(oC h (fun _ h=>h) fun _ h=>(aT (t:=ai) (fun _ hm=>⟨hc0,hm⟩) _ rfl hl0 ht0 (aM h_x) trivial h))⟩⟩⟩)⟩⟩) fun h=>(h trivial))
 ·rw[vc63]
  exact(aZ (t:=ai) (fun m hm=>⟨trivial,hm⟩) _ rfl trivial (aF h (fun v0 h hv0=>h) (fun q0 h=>h)))
def c125:Con:=⟨[.dat TVS,.dat au],fun args hp K=>g2 (pD TVS) (pD au) (fun x k=>(Ln TVS x)/\(0<=k)/\(k+(M.count TVS x:Int)<=M.big)/\(M.mark TVS x k=x)/\K (dI (k+(M.count TVS x:Int))) []) args hp,.bor,false⟩
abbrev C125:Ctx:=cx [(124,c124)] 41 [] 0 false
def ann125:=an [[kp 3],[kp 35],[kp 547],[kp 35],[kp 262179],[kp 16],[kp 35],[kp 134217763],[kp 16],[kp 35],[kp 137438953507],[kp 16],[kp 35],[kp 16]] [[kp 2]]
abbrev s125_0 (x:LV) (k:Int) (i0:Int) (v0:Int):St:=⟨[(0,.data TVS x),(1,dI v0),(5,dI i0)],[]⟩
abbrev LP125_0 (x:LV) (k:Int) (m:Nat) (st_:St) (K:KX):Prop:=True/\bI (t:=aa) (s125_0 x k) x (F.fH x k) (fun v0:Int=>True) (aR (fun v0:Int=>True->K (.exit 0) (⟨[(1,dI v0)],[]⟩:St)) (fun q0:Unit=>K .ret (⟨[(4,dI (-1:Int))],[]⟩:St))) m st_
def L125 (x:LV) (k:Int):aW:=lp1 0 (LP125_0 x k)
theorem vc125 (x:LV) (k:Int) (K:KA):vcT C125 (L125 x k) ann125 f125 [.data TVS x,dI k] [] (.dat au) K =
 (∃m_,True/\bI (t:=aa) (s125_0 x k) x (F.fH x k) (fun v0:Int=>True) (aR (fun v0:Int=>True->K (dI v0) []) (fun q0:Unit=>K (dI (-1:Int)) [])) m_ (s125_0 x k Z0 k)):=by kernel_rfl
theorem lvc125_0 (x:LV) (k:Int)  (i0:Int) (v0:Int) (m:Nat) (K:KX):lvT C125 (L125 x k) ann125 f125 0 0 (s125_0 x k i0 v0) m K =
 (cond (decide (i0<(x.length:Int))) ((0<=i0)/\(i0<(x.length:Int))/\cond (!decide ((nV x i0).1=v0)) (K .ret (⟨[(4,dI (-1:Int))],[]⟩:St)) ((0<=i0)/\(i0<(x.length:Int))/\cond (!decide ((nV x i0).2.1=wrap64 (v0+Z1))) (K .ret (⟨[(4,dI (-1:Int))],[]⟩:St)) ((0<=i0)/\(i0<(x.length:Int))/\((wrap64 (wrap64 (v0+Z1)+Z1))<=M.big)/\(LD (M.ep (wrap64 (wrap64 (v0+Z1)+Z1))) fun r1=>cond (!decide ((nV x i0).2.2.1=r1)) (K .ret (⟨[(4,dI (-1:Int))],[]⟩:St)) (nxT (LP125_0 x k) m K (s125_0 x k (wrap64 (i0+Z1)) (wrap64 (wrap64 (wrap64 (v0+Z1)+Z1)+Z1)))))))) (K (.exit 0) (⟨[(1,dI v0)],[]⟩:St))):=by kernel_rfl
theorem con125_ok:aN P 125 c125:=aP C125 func125 (kC con124_ok kN) fun args hp K h0=>by
 obtain⟨x,k,rfl,rfl,h_x,p0,p1,p2,hK⟩:=g2e h0
 have h:ok (F.kU x k) (fun r=>K (dI r) []):=ak (F.tL x k h_x p0 p1 p2) hK
 refine⟨rfl,ann125,(L125 x k),(.dat au),(aI (i0:=0) (by kernel_rfl) ?_),?_⟩
 ·rintro _ _ K ⟨hc0,i0,v0,rfl,hl0,rfl,hv0,h⟩
  exact cast (lvc125_0 _ _ _ _ _ _).symm (br (t:=aa) hl0 h (fun ht0 h=>⟨hl0,⟨ht0,(oC h (fun _ h=>h) fun _ h=>⟨hl0,⟨ht0,(oC h (fun _ h=>h) fun _ h=>⟨hl0,⟨ht0,(oG h fun _ h=>(oL h fun _ _ h=>(oC h (fun _ h=>h) fun _ h=>(aT (t:=aa) (fun _ hm=>⟨hc0,hm⟩) _ rfl hl0 ht0 (aM h_x) trivial h))))⟩⟩)⟩⟩)⟩⟩) fun h=>(h trivial))
 ·rw[vc125]
  exact(aZ (t:=aa) (fun m hm=>⟨trivial,hm⟩) _ rfl trivial (aF h (fun v0 h hv0=>h) (fun q0 h=>h)))
def c64:Con:=⟨[.dat (Ty.sl TVS),.dat au],fun args hp K=>g2 (pD (Ty.sl TVS)) (pD au) (fun x k=>(Ln (Ty.sl TVS) x)/\(0<=k)/\(k+(M.count (Ty.sl TVS) x:Int)<=M.big)/\(M.mark (Ty.sl TVS) x k=x)/\K (dI (k+(M.count (Ty.sl TVS) x:Int))) []) args hp,.bor,false⟩
abbrev C64:Ctx:=cx [(125,c125)] 21 [] 0 false
def ann64:=an [[kp 3],[kp 35],[kp 547],[kp 35],[kp 35],[kp 524323],[kp 16],[kp 16]] [[kp 2]]
abbrev s64_0 (x:(List LV)) (k:Int) (i0:Int) (v0:Int):St:=⟨[(0,.data (Ty.sl TVS) x),(1,dI v0),(5,dI i0)],[]⟩
abbrev LP64_0 (x:(List LV)) (k:Int) (m:Nat) (st_:St) (K:KX):Prop:=True/\bI (t:=TVS) (s64_0 x k) x (F.eN x k) (fun v0:Int=>True) (aR (fun v0:Int=>True->K (.exit 0) (⟨[(1,dI v0)],[]⟩:St)) (fun q0:Unit=>K .ret (⟨[(4,dI (-1:Int))],[]⟩:St))) m st_
def L64 (x:(List LV)) (k:Int):aW:=lp1 0 (LP64_0 x k)
theorem vc64 (x:(List LV)) (k:Int) (K:KA):vcT C64 (L64 x k) ann64 f64 [.data (Ty.sl TVS) x,dI k] [] (.dat au) K =
 (∃m_,True/\bI (t:=TVS) (s64_0 x k) x (F.eN x k) (fun v0:Int=>True) (aR (fun v0:Int=>True->K (dI v0) []) (fun q0:Unit=>K (dI (-1:Int)) [])) m_ (s64_0 x k Z0 k)):=by kernel_rfl
theorem lvc64_0 (x:(List LV)) (k:Int)  (i0:Int) (v0:Int) (m:Nat) (K:KX):lvT C64 (L64 x k) ann64 f64 0 0 (s64_0 x k i0 v0) m K =
 (cond (decide (i0<(x.length:Int))) ((0<=i0)/\(i0<(x.length:Int))/\(Ln TVS (nth (t:=TVS) x i0))/\(0<=v0)/\(v0+(M.count TVS (nth (t:=TVS) x i0):Int)<=M.big)/\(M.mark TVS (nth (t:=TVS) x i0) v0=(nth (t:=TVS) x i0))/\cond (decide ((v0+(M.count TVS (nth (t:=TVS) x i0):Int))<Z0)) (K .ret (⟨[(4,dI (-1:Int))],[]⟩:St)) (nxT (LP64_0 x k) m K (s64_0 x k (wrap64 (i0+Z1)) (v0+(M.count TVS (nth (t:=TVS) x i0):Int))))) (K (.exit 0) (⟨[(1,dI v0)],[]⟩:St))):=by kernel_rfl
theorem con64_ok:aN P 64 c64:=aP C64 func64 (kC con125_ok kN) fun args hp K h0=>by
 obtain⟨x,k,rfl,rfl,h_x,p0,p1,p2,hK⟩:=g2e h0
 have h:ok (F.jF x k) (fun r=>K (dI r) []):=ak (F.sC x k h_x p0 p1 p2) hK
 refine⟨rfl,ann64,(L64 x k),(.dat au),(aI (i0:=0) (by kernel_rfl) ?_),?_⟩
 ·rintro _ _ K ⟨hc0,i0,v0,rfl,hl0,rfl,hv0,h⟩
  exact cast (lvc64_0 _ _ _ _ _ _).symm (br (t:=TVS) hl0 h (fun ht0 h=>⟨hl0,⟨ht0,⟨(ay h_x i0),(oG h fun _ h=>(oG h fun _ h=>(oG h fun _ h=>(oC h (fun _ h=>h) fun _ h=>(aT (t:=TVS) (fun _ hm=>⟨hc0,hm⟩) _ rfl hl0 ht0 (aM h_x) trivial h)))))⟩⟩⟩) fun h=>(h trivial))
 ·rw[vc64]
  exact(aZ (t:=TVS) (fun m hm=>⟨trivial,hm⟩) _ rfl trivial (aF h (fun v0 h hv0=>h) (fun q0 h=>h)))
def c23:Con:=⟨[.dat TTb,.dat au],fun args hp K=>g2 (pD TTb) (pD au) (fun x k=>(Ln TTb x)/\(0<=k)/\(k+(M.count TTb x:Int)<=M.big)/\(M.mark TTb x k=x)/\K (dI (k+(M.count TTb x:Int))) []) args hp,.bor,false⟩
abbrev C23:Ctx:=cx [(63,c63),(64,c64)] 31 [] 0 false
def ann23:=an [[kp 3],[kp 35],[kp 547],[kp 35],[kp 35],[kp 1048611],[kp 16],[kp 35],[kp 536870947],[kp 16],[kp 16]] [[kp 2]]
abbrev s23_0 (x:LTb) (k:Int) (i0:Int) (v0:Int):St:=⟨[(0,.data TTb x),(1,dI v0),(5,dI i0)],[]⟩
abbrev LP23_0 (x:LTb) (k:Int) (m:Nat) (st_:St) (K:KX):Prop:=True/\bI (t:=TTable) (s23_0 x k) x (F.fz x k) (fun v0:Int=>True) (aR (fun v0:Int=>True->K (.exit 0) (⟨[(1,dI v0)],[]⟩:St)) (fun q0:Unit=>K .ret (⟨[(4,dI (-1:Int))],[]⟩:St))) m st_
def L23 (x:LTb) (k:Int):aW:=lp1 0 (LP23_0 x k)
theorem vc23 (x:LTb) (k:Int) (K:KA):vcT C23 (L23 x k) ann23 f23 [.data TTb x,dI k] [] (.dat au) K =
 (∃m_,True/\bI (t:=TTable) (s23_0 x k) x (F.fz x k) (fun v0:Int=>True) (aR (fun v0:Int=>True->K (dI v0) []) (fun q0:Unit=>K (dI (-1:Int)) [])) m_ (s23_0 x k Z0 k)):=by kernel_rfl
theorem lvc23_0 (x:LTb) (k:Int)  (i0:Int) (v0:Int) (m:Nat) (K:KX):lvT C23 (L23 x k) ann23 f23 0 0 (s23_0 x k i0 v0) m K =
 (cond (decide (i0<(x.length:Int))) ((0<=i0)/\(i0<(x.length:Int))/\(Ln TCS (nT x i0).1)/\(0<=v0)/\(v0+(M.count TCS (nT x i0).1:Int)<=M.big)/\(M.mark TCS (nT x i0).1 v0=(nT x i0).1)/\cond (decide ((v0+(M.count TCS (nT x i0).1:Int))<Z0)) (K .ret (⟨[(4,dI (-1:Int))],[]⟩:St)) ((0<=i0)/\(i0<(x.length:Int))/\(Ln (Ty.sl TVS) (nT x i0).2.1)/\(0<=(v0+(M.count TCS (nT x i0).1:Int)))/\((v0+(M.count TCS (nT x i0).1:Int))+(M.count (Ty.sl TVS) (nT x i0).2.1:Int)<=M.big)/\(M.mark (Ty.sl TVS) (nT x i0).2.1 (v0+(M.count TCS (nT x i0).1:Int))=(nT x i0).2.1)/\cond (decide (((v0+(M.count TCS (nT x i0).1:Int))+(M.count (Ty.sl TVS) (nT x i0).2.1:Int))<Z0)) (K .ret (⟨[(4,dI (-1:Int))],[]⟩:St)) (nxT (LP23_0 x k) m K (s23_0 x k (wrap64 (i0+Z1)) ((v0+(M.count TCS (nT x i0).1:Int))+(M.count (Ty.sl TVS) (nT x i0).2.1:Int)))))) (K (.exit 0) (⟨[(1,dI v0)],[]⟩:St))):=by kernel_rfl
theorem con23_ok:aN P 23 c23:=aP C23 func23 (kC con63_ok (kC con64_ok kN)) fun args hp K h0=>by
 obtain⟨x,k,rfl,rfl,h_x,p0,p1,p2,hK⟩:=g2e h0
 have h:ok (F.lq x k) (fun r=>K (dI r) []):=ak (F.tS x k h_x p0 p1 p2) hK
 refine⟨rfl,ann23,(L23 x k),(.dat au),(aI (i0:=0) (by kernel_rfl) ?_),?_⟩
 ·rintro _ _ K ⟨hc0,i0,v0,rfl,hl0,rfl,hv0,h⟩
  exact cast (lvc23_0 _ _ _ _ _ _).symm (br (t:=TTable) hl0 h (fun ht0 h=>⟨hl0,⟨ht0,⟨(ay h_x i0).1,(oG h fun _ h=>(oG h fun _ h=>(oG h fun _ h=>(oC h (fun _ h=>h) fun _ h=>⟨hl0,⟨ht0,⟨(ay h_x i0).2.1,(oG h fun _ h=>(oG h fun _ h=>(oG h fun _ h=>(oC h (fun _ h=>h) fun _ h=>(aT (t:=TTable) (fun _ hm=>⟨hc0,hm⟩) _ rfl hl0 ht0 (aM h_x) trivial h)))))⟩⟩⟩))))⟩⟩⟩) fun h=>(h trivial))
 ·rw[vc23]
  exact(aZ (t:=TTable) (fun m hm=>⟨trivial,hm⟩) _ rfl trivial (aF h (fun v0 h hv0=>h) (fun q0 h=>h)))
def c3:Con:=⟨[.dat TTb,.dat (Ty.sl TBond),.dat (Ty.sl TChange)],fun args hp K=>g3 (pD TTb) (pD (Ty.sl TBond)) (pD (Ty.sl TChange)) (fun aTables aBonds aChanges=>(Ln TTb aTables)/\(Ln (Ty.sl TBond) aBonds)/\(Ln (Ty.sl TChange) aChanges)/\K (dB true) []) args hp,.plain,false⟩
abbrev C3:Ctx:=cx [(9,c9),(10,c10),(11,c11),(12,c12),(13,c13),(14,c14),(15,c15),(16,c16),(17,c17),(18,c18),(19,c19),(20,c20),(21,c21),(22,c22),(23,c23)] 142 [] 0 true
def ann3:=an [[kp 7],[kp 135],[kp 135],[kp 16777351],[kp 64],[kp 135],[kp 536871047],[kp 64],[kp 135],[kp 17179869191],[kp 64],[kp 775],[kp 1799],[kp 3847],[kp 7943],[kp 32519],[kp 73786976294838238983],[kp 64],[kp 2361183241434822639367],[kp 64],[kp 75557863725914323451655],[kp 64],[kp 2417851639229258349444871],[kp 64],[kp 65287],[kp 64263],[kp 62215],[kp 58119],[.keep [0,1,2,8,9,13,103]],[kp 64],[kp 74503],[kp 74503],[kp 205575],[kp 205575],[kp 2596148429267413814265248164815623],[kp 64],[.keep [0,1,2,8,9,13,16,114]],[kp 64],[kp 860928],[.keep [13,16,133]],[kp 64],[kp 204800],[kp 196608],[.keep [16,17,138]],[kp 64],[.keep [141]],[kp 64],[kp 64]] []
theorem vc3 (aTables:LTb) (aBonds:(List TBond.D)) (aChanges:(List TChange.D)) (K:KA):vcT C3 aq ann3 f3 [.data TTb aTables,.data (Ty.sl TBond) aBonds,.data (Ty.sl TChange) aChanges] [] (.dat Ty.bool) K =
 ((Ln TTb aTables)/\(0<=(1048576:Int))/\((1048576:Int)<=1048576)/\cond (decide ((M.szS M.bG aTables (1048576:Int))<Z0)) (K (dB true) []) ((Ln (Ty.sl TBond) aBonds)/\(0<=(M.szS M.bG aTables (1048576:Int)))/\((M.szS M.bG aTables (1048576:Int))<=1048576)/\cond (decide ((M.szS M.dc aBonds (M.szS M.bG aTables (1048576:Int)))<Z0)) (K (dB true) []) ((Ln (Ty.sl TChange) aChanges)/\(0<=(M.szS M.dc aBonds (M.szS M.bG aTables (1048576:Int))))/\((M.szS M.dc aBonds (M.szS M.bG aTables (1048576:Int)))<=1048576)/\cond (decide ((M.szS M.dF aChanges (M.szS M.dc aBonds (M.szS M.bG aTables (1048576:Int))))<Z0)) (K (dB true) []) ((Sm TTb aTables)/\(LD aTables fun r1=>(Sm (Ty.sl TBond) aBonds)/\(LD aBonds fun r2=>(Sm (Ty.sl TChange) aChanges)/\(LD aChanges fun r3=>(Sm TTb r1)/\(Sm (Ty.sl TBond) r2)/\(Sm (Ty.sl TChange) r3)/\(LD (M.cE r1 r2 r3) fun r4=>(Sm TTb aTables)/\(LD aTables fun r5=>(Sm (Ty.sl TBond) aBonds)/\(LD aBonds fun r6=>(Sm (Ty.sl TChange) aChanges)/\(LD aChanges fun r7=>(Sm TTb r5)/\(Sm (Ty.sl TBond) r6)/\(Sm (Ty.sl TChange) r7)/\(LD (M.cE r5 r6 r7) fun r8=>(Sm TTb r8.1)/\(Sm TTb r4.1)/\(r8.1=r4.1)/\cond ((!true)==false) (cond (!(Ty.beq Ty.bool r8.2 r4.2)) (K (dB false) []) ((Sm TTb aTables)/\(LD aTables fun r9=>(Sm TTb r5)/\(Sm TTb r9)/\(r5=r9)/\cond (!true) (K (dB false) []) ((Sm (Ty.sl TBond) aBonds)/\(LD aBonds fun r10=>(Sm (Ty.sl TBond) r6)/\(Sm (Ty.sl TBond) r10)/\(r6=r10)/\cond (!true) (K (dB false) []) ((Sm (Ty.sl TChange) aChanges)/\(LD aChanges fun r11=>(Sm (Ty.sl TChange) r7)/\(Sm (Ty.sl TChange) r11)/\(r7=r11)/\cond (!true) (K (dB false) []) (((r5.length:Int)=(r5.length:Int))/\(Ln TTb r5)/\(0<=Z1)/\(Z1+(M.count TTb r5:Int)<=M.big)/\(LD (M.mark TTb r5 Z1,Z1+(M.count TTb r5:Int)) fun r12=>(r12.1.length=r5.length)/\((r6.length:Int)=(r6.length:Int))/\(Ln (Ty.sl TBond) r6)/\(0<=r12.2)/\(r12.2+(M.count (Ty.sl TBond) r6:Int)<=M.big)/\(LD (M.mark (Ty.sl TBond) r6 r12.2,r12.2+(M.count (Ty.sl TBond) r6:Int)) fun r13=>(r13.1.length=r6.length)/\((r7.length:Int)=(r7.length:Int))/\(Ln (Ty.sl TChange) r7)/\(0<=r13.2)/\(r13.2+(M.count (Ty.sl TChange) r7:Int)<=M.big)/\(LD (M.mark (Ty.sl TChange) r7 r13.2,r13.2+(M.count (Ty.sl TChange) r7:Int)) fun r14=>(r14.1.length=r7.length)/\cond ((decide (r14.2<Z0))==false) ((Sm TTb r8.1)/\(Sm TTb r4.1)/\(r8.1=r4.1)/\cond ((!true)==false) (cond (!(Ty.beq Ty.bool r8.2 r4.2)) (K (dB false) []) (((r8.1.length:Int)=(r8.1.length:Int))/\(Ln TTb r8.1)/\(0<=Z1)/\(Z1+(M.count TTb r8.1:Int)<=M.big)/\(LD (M.mark TTb r8.1 Z1,Z1+(M.count TTb r8.1:Int)) fun r15=>(r15.1.length=r8.1.length)/\(Ln TTb r15.1)/\(0<=Z1)/\(Z1+(M.count TTb r15.1:Int)<=M.big)/\(M.mark TTb r15.1 Z1=r15.1)/\cond (decide ((Z1+(M.count TTb r15.1:Int))<Z0)) (K (dB false) []) (cond (!decide ((Z1+(M.count TTb r15.1:Int))=r15.2)) (K (dB false) []) ((Sm TTb aTables)/\(LD aTables fun r16=>(Sm (Ty.sl TBond) aBonds)/\(LD aBonds fun r17=>(Sm (Ty.sl TChange) aChanges)/\(LD aChanges fun r18=>(Sm TTb r16)/\(Sm (Ty.sl TBond) r17)/\(Sm (Ty.sl TChange) r18)/\(LD (M.cE r16 r17 r18) fun r19=>(Sm TTb r19.1)/\(Sm TTb r4.1)/\(r19.1=r4.1)/\cond ((!true)==false) (cond (!(Ty.beq Ty.bool r19.2 r4.2)) (K (dB false) []) ((Ln TTb r15.1)/\(0<=Z1)/\(Z1+(M.count TTb r15.1:Int)<=M.big)/\(M.mark TTb r15.1 Z1=r15.1)/\cond (decide ((Z1+(M.count TTb r15.1:Int))<Z0)) (K (dB false) []) (cond (!decide ((Z1+(M.count TTb r15.1:Int))=r15.2)) (K (dB false) []) (K (dB true) [])))) (K (dB false) [])))))))))) (K (dB false) [])) (K (dB false) [])))))))))))) (K (dB false) []))))))))))))):=by kernel_rfl
theorem con3_ok:aN P 3 c3:=aP C3 func3 (kC con9_ok (kC con10_ok (kC con11_ok (kC con12_ok (kC con13_ok (kC con14_ok (kC con15_ok (kC con16_ok (kC con17_ok (kC con18_ok (kC con19_ok (kC con20_ok (kC con21_ok (kC con22_ok (kC con23_ok kN))))))))))))))) fun args hp K h0=>by
 obtain⟨aTables,aBonds,aChanges,rfl,rfl,h_aTables,h_aBonds,h_aChanges,hK⟩:=g3e h0
 have h:ok (F.fE aTables aBonds aChanges) (fun r=>K (dB r) []):=ak (F.mZ aTables aBonds aChanges h_aTables h_aBonds h_aChanges) hK
 refine⟨rfl,ann3,aq,(.dat Ty.bool),(az (by kernel_rfl)),?_⟩
 ·rw[vc3]
  exact⟨h_aTables,(oG h fun _ h=>(oG h fun _ h=>(oC h (fun _ h=>h) fun _ h=>⟨h_aBonds,(oG h fun _ h=>(oG h fun _ h=>(oC h (fun _ h=>h) fun _ h=>⟨h_aChanges,(oG h fun _ h=>(oG h fun _ h=>(oC h (fun _ h=>h) fun _ h=>(oG h fun g1 h=>(oL h fun _ _ h=>(oG h fun g2 h=>(oL h fun _ _ h=>(oG h fun g3 h=>(oL h fun _ _ h=>(oG h fun _ h=>(oG h fun _ h=>(oG h fun _ h=>(oL h fun _ _ h=>⟨g1,(oL h fun _ _ h=>⟨g2,(oL h fun _ _ h=>⟨g3,(oL h fun _ _ h=>(oG h fun g4 h=>(oG h fun g5 h=>(oG h fun g6 h=>(oL h fun _ _ h=>(oG h fun g7 h=>(oG h fun g8 h=>(oG h fun g9 h=>(oC h (fun b_22 h=>(oC h (fun _ h=>h) fun b_23 h=>⟨g1,(oL h fun _ _ h=>⟨g4,(oG h fun _ h=>(oG h fun _ h=>(dz (unf (bnf (bgt b_22))) ⟨g2,(oL h fun _ _ h=>⟨g5,(oG h fun _ h=>(oG h fun _ h=>(dz (unf (bnf (bgt b_22))) ⟨g3,(oL h fun _ _ h=>⟨g6,(oG h fun _ h=>(oG h fun _ h=>(dz (unf (bnf (bgt b_22))) ⟨rfl,(oG h fun _ h=>(oG h fun g10 h=>(oG h fun _ h=>(oL h fun _ er12 h=>⟨(by rw[er12];exact(M.fk TTable _ _)),⟨rfl,(oG h fun _ h=>(oG h fun _ h=>(oG h fun _ h=>(oL h fun _ er13 h=>⟨(by rw[er13];exact(M.fk TBond _ _)),⟨rfl,(oG h fun _ h=>(oG h fun _ h=>(oG h fun _ h=>(oL h fun _ er14 h=>⟨(by rw[er14];exact(M.fk TChange _ _)),(oC h (fun _ h=>⟨g7,⟨g8,⟨g9,(fJ (ugt (unf (bnf (bgt b_22)))) (dz (unf (bnf b_23)) ⟨rfl,(oG h fun _ h=>⟨g10,(oG h fun _ h=>(oL h fun _ er15 h=>⟨(by rw[er15];exact(M.fk TTable _ _)),(oG h fun g11 h=>⟨g10,(oG h fun g12 h=>(oG h fun g13 h=>(oC h (fun _ h=>h) fun b_50 h=>(oC h (fun _ h=>h) fun b_51 h=>⟨g1,(oL h fun _ _ h=>⟨g2,(oL h fun _ _ h=>⟨g3,(oL h fun _ _ h=>(oG h fun _ h=>(oG h fun _ h=>(oG h fun _ h=>(oL h fun _ _ h=>(oG h fun _ h=>⟨g8,(oG h fun _ h=>(fJ (ugt (unf (bnf (bgt b_22)))) (oC h (fun _ h=>h) fun _ h=>⟨g11,⟨g10,⟨g12,⟨g13,(dz b_50 (dz (unf (bnf b_51)) h))⟩⟩⟩⟩)))⟩))))))⟩)⟩)⟩))))⟩)⟩))⟩)⟩))⟩⟩⟩) fun _ h=>h)⟩))))⟩⟩))))⟩⟩))))⟩)))⟩)⟩)))⟩)⟩)))⟩)⟩)) fun _ h=>h)))))))))⟩)⟩)⟩)))))))))))))⟩)))⟩)))⟩
end Go.AE
