/- Contracts. -/
import Derived.Test.YtmkgiaecgkicoaaGreatAeSeat
import Derived.Test.YtmkgiaecgkicoaaGreatAeEq
import Derived.Test.YtmkgiaecgkicoaaGreatAeDel
namespace Go.AE
open Go Go.RowKit Go.Proofs.Tryz
set_option maxRecDepth 100000
set_option maxHeartbeats 2000000
set_option linter.unusedVariables false
abbrev Q0 (p:Prop):Prop:=(p/\p)
theorem q0 {p:Prop} (h:p):Q0 p:=⟨h,h⟩
def c104:Con:=⟨[.dat TCS,.dat au],fun args hp K=>g2 (pD TCS) (pD au) (fun x left=>(Ln TCS x)/\(0<=left)/\(left<=1048576)/\K (dI (M.bE x.length left)) []) args hp,.plain,false⟩
abbrev C104:Ctx:=cx [] 12 [] 0 false
def ann104:=an [[kp 3],[kp 2],[kp 1026],[kp 16],[kp 16]] []
theorem vc104 (x:LC) (left:Int) (K:KA):vcT C104 aq ann104 f104 [.data TCS x,dI left] [] (.dat au) K =
 (cond (decide (wrap64 (left-(x.length:Int))<Z0)) (K (dI (-1:Int)) []) (K (dI (wrap64 (left-(x.length:Int)))) [])):=by kernel_rfl
theorem con104_ok:aN P 104 c104:=aP C104 func104 kN fun args hp K h0=>by
 obtain⟨x,left,rfl,rfl,h_x,p0,p1,hK⟩:=g2e h0
 have h:ok (F.mb x left) (fun r=>K (dI r) []):=ak (F.ve x left h_x p0 p1) hK
 refine⟨rfl,ann104,aq,(.dat au),(az (by kernel_rfl)),?_⟩
 ·rw[vc104]
  exact(oC h (fun _ h=>h) fun _ h=>h)
def c148:Con:=⟨[.dat aa,.dat au],fun args hp K=>g2 (pD aa) (pD au) (fun x left=>(Ln aa x)/\(0<=left)/\(left<=1048576)/\K (dI (M.bL x left)) []) args hp,.plain,false⟩
abbrev C148:Ctx:=cx [] 13 [] 0 false
def ann148:=an [[.fixRow 2 aa,kp 6],[kp 2],[kp 2050],[kp 16],[kp 16]] []
theorem vc148 (x:aa.D) (left:Int) (K:KA):vcT C148 aq ann148 f148 [.data aa x,dI left] [] (.dat au) K =
 (cond (decide (wrap64 (left-(x.2.2.1.size:Int))<Z0)) (K (dI (-1:Int)) []) (K (dI (wrap64 (left-(x.2.2.1.size:Int)))) [])):=by kernel_rfl
theorem con148_ok:aN P 148 c148:=aP C148 func148 kN fun args hp K h0=>by
 obtain⟨x,left,rfl,rfl,h_x,p0,p1,hK⟩:=g2e h0
 have h:ok (F.pK x left) (fun r=>K (dI r) []):=ak (F.xO x left h_x p0 p1) hK
 refine⟨rfl,ann148,aq,(.dat au),(az (by kernel_rfl)),?_⟩
 ·rw[vc148]
  exact(oC h (fun _ h=>h) fun _ h=>h)
def c81:Con:=⟨[.dat TVS,.dat au],fun args hp K=>g2 (pD TVS) (pD au) (fun x left=>(Ln TVS x)/\(0<=left)/\(left<=1048576)/\K (dI (M.szS M.bL x left)) []) args hp,.plain,false⟩
abbrev C81:Ctx:=cx [(148,c148)] 27 [] 0 false
def ann81:=an [[kp 3],[kp 3],[kp 2051],[kp 16],[kp 35],[kp 32803],[kp 35],[kp 35],[kp 33554467],[kp 16],[kp 16]] [[kp 2]]
abbrev s81_0 (x:LV) (left:Int) (i0:Int) (v0:Int):St:=⟨[(0,.data TVS x),(1,dI v0),(5,dI i0)],[]⟩
abbrev LP81_0 (x:LV) (left:Int) (m:Nat) (st_:St) (K:KX):Prop:=True/\bI (t:=aa) (s81_0 x left) x (F.gJ x left) (fun v0:Int=>True) (aR (fun v0:Int=>True->K (.exit 0) (⟨[(1,dI v0)],[]⟩:St)) (fun q0:Unit=>K .ret (⟨[(4,dI (-1:Int))],[]⟩:St))) m st_
def L81 (x:LV) (left:Int):aW:=lp1 0 (LP81_0 x left)
theorem vc81 (x:LV) (left:Int) (K:KA):vcT C81 (L81 x left) ann81 f81 [.data TVS x,dI left] [] (.dat au) K =
 (cond (decide (wrap64 (left-(x.length:Int))<Z0)) (K (dI (-1:Int)) []) (∃m_,True/\bI (t:=aa) (s81_0 x left) x (F.gJ x left) (fun v0:Int=>True) (aR (fun v0:Int=>True->K (dI v0) []) (fun q0:Unit=>K (dI (-1:Int)) [])) m_ (s81_0 x left Z0 (wrap64 (left-(x.length:Int)))))):=by kernel_rfl
theorem lvc81_0 (x:LV) (left:Int)  (i0:Int) (v0:Int) (m:Nat) (K:KX):lvT C81 (L81 x left) ann81 f81 0 0 (s81_0 x left i0 v0) m K =
 (cond (decide (i0<(x.length:Int))) ((0<=i0)/\(i0<(x.length:Int))/\(Ln aa (nV x i0))/\(0<=v0)/\(v0<=1048576)/\cond (decide ((M.bL (nV x i0) v0)<Z0)) (K .ret (⟨[(4,dI (-1:Int))],[]⟩:St)) (nxT (LP81_0 x left) m K (s81_0 x left (wrap64 (i0+Z1)) (M.bL (nV x i0) v0)))) (K (.exit 0) (⟨[(1,dI v0)],[]⟩:St))):=by kernel_rfl
theorem con81_ok:aN P 81 c81:=aP C81 func81 (kC con148_ok kN) fun args hp K h0=>by
 obtain⟨x,left,rfl,rfl,h_x,p0,p1,hK⟩:=g2e h0
 have h:ok (F.nY x left) (fun r=>K (dI r) []):=ak (F.wB x left h_x p0 p1) hK
 refine⟨rfl,ann81,(L81 x left),(.dat au),(aI (i0:=0) (by kernel_rfl) ?_),?_⟩
 ·rintro _ _ K ⟨hc0,i0,v0,rfl,hl0,rfl,hv0,h⟩
  exact cast (lvc81_0 _ _ _ _ _ _).symm (br (t:=aa) hl0 h (fun ht0 h=>⟨hl0,⟨ht0,⟨(ay h_x i0),(oG h fun _ h=>(oG h fun _ h=>(oC h (fun _ h=>h) fun _ h=>(aT (t:=aa) (fun _ hm=>⟨hc0,hm⟩) _ rfl hl0 ht0 (aM h_x) trivial h))))⟩⟩⟩) fun h=>(h trivial))
 ·rw[vc81]
  exact(oC h (fun _ h=>h) fun _ h=>(aZ (t:=aa) (fun m hm=>⟨trivial,hm⟩) _ rfl trivial (aF h (fun v0 h hv0=>h) (fun q0 h=>h))))
def c105:Con:=⟨[.dat (Ty.sl TVS),.dat au],fun args hp K=>g2 (pD (Ty.sl TVS)) (pD au) (fun x left=>(Ln (Ty.sl TVS) x)/\(0<=left)/\(left<=1048576)/\K (dI (M.szS (M.szS M.bL) x left)) []) args hp,.plain,false⟩
abbrev C105:Ctx:=cx [(81,c81)] 27 [] 0 false
def ann105:=an [[kp 3],[kp 3],[kp 2051],[kp 16],[kp 35],[kp 32803],[kp 35],[kp 35],[kp 33554467],[kp 16],[kp 16]] [[kp 2]]
abbrev s105_0 (x:(List LV)) (left:Int) (i0:Int) (v0:Int):St:=⟨[(0,.data (Ty.sl TVS) x),(1,dI v0),(5,dI i0)],[]⟩
abbrev LP105_0 (x:(List LV)) (left:Int) (m:Nat) (st_:St) (K:KX):Prop:=True/\bI (t:=TVS) (s105_0 x left) x (F.fV x left) (fun v0:Int=>True) (aR (fun v0:Int=>True->K (.exit 0) (⟨[(1,dI v0)],[]⟩:St)) (fun q0:Unit=>K .ret (⟨[(4,dI (-1:Int))],[]⟩:St))) m st_
def L105 (x:(List LV)) (left:Int):aW:=lp1 0 (LP105_0 x left)
theorem vc105 (x:(List LV)) (left:Int) (K:KA):vcT C105 (L105 x left) ann105 f105 [.data (Ty.sl TVS) x,dI left] [] (.dat au) K =
 (cond (decide (wrap64 (left-(x.length:Int))<Z0)) (K (dI (-1:Int)) []) (∃m_,True/\bI (t:=TVS) (s105_0 x left) x (F.fV x left) (fun v0:Int=>True) (aR (fun v0:Int=>True->K (dI v0) []) (fun q0:Unit=>K (dI (-1:Int)) [])) m_ (s105_0 x left Z0 (wrap64 (left-(x.length:Int)))))):=by kernel_rfl
theorem lvc105_0 (x:(List LV)) (left:Int)  (i0:Int) (v0:Int) (m:Nat) (K:KX):lvT C105 (L105 x left) ann105 f105 0 0 (s105_0 x left i0 v0) m K =
 (cond (decide (i0<(x.length:Int))) ((0<=i0)/\(i0<(x.length:Int))/\(Ln TVS (nth (t:=TVS) x i0))/\(0<=v0)/\(v0<=1048576)/\cond (decide ((M.szS M.bL (nth (t:=TVS) x i0) v0)<Z0)) (K .ret (⟨[(4,dI (-1:Int))],[]⟩:St)) (nxT (LP105_0 x left) m K (s105_0 x left (wrap64 (i0+Z1)) (M.szS M.bL (nth (t:=TVS) x i0) v0)))) (K (.exit 0) (⟨[(1,dI v0)],[]⟩:St))):=by kernel_rfl
theorem con105_ok:aN P 105 c105:=aP C105 func105 (kC con81_ok kN) fun args hp K h0=>by
 obtain⟨x,left,rfl,rfl,h_x,p0,p1,hK⟩:=g2e h0
 have h:ok (F.mE x left) (fun r=>K (dI r) []):=ak (F.uD x left h_x p0 p1) hK
 refine⟨rfl,ann105,(L105 x left),(.dat au),(aI (i0:=0) (by kernel_rfl) ?_),?_⟩
 ·rintro _ _ K ⟨hc0,i0,v0,rfl,hl0,rfl,hv0,h⟩
  exact cast (lvc105_0 _ _ _ _ _ _).symm (br (t:=TVS) hl0 h (fun ht0 h=>⟨hl0,⟨ht0,⟨(ay h_x i0),(oG h fun _ h=>(oG h fun _ h=>(oC h (fun _ h=>h) fun _ h=>(aT (t:=TVS) (fun _ hm=>⟨hc0,hm⟩) _ rfl hl0 ht0 (aM h_x) trivial h))))⟩⟩⟩) fun h=>(h trivial))
 ·rw[vc105]
  exact(oC h (fun _ h=>h) fun _ h=>(aZ (t:=TVS) (fun m hm=>⟨trivial,hm⟩) _ rfl trivial (aF h (fun v0 h hv0=>h) (fun q0 h=>h))))
def c46:Con:=⟨[.dat TTable,.dat au],fun args hp K=>g2 (pD TTable) (pD au) (fun x left=>(Ln TTable x)/\(0<=left)/\(left<=1048576)/\K (dI (M.bG x left)) []) args hp,.plain,false⟩
abbrev C46:Ctx:=cx [(104,c104),(105,c105)] 18 [] 0 false
def ann46:=an [[.fixRow 2 TTable,kp 6],[kp 6],[kp 1030],[kp 16],[kp 2],[kp 65538],[kp 16],[kp 16]] []
theorem vc46 (x:TTable.D) (left:Int) (K:KA):vcT C46 aq ann46 f46 [.data TTable x,dI left] [] (.dat au) K =
 ((Ln TCS x.1)/\(0<=left)/\(left<=1048576)/\cond (decide ((M.bE x.1.length left)<Z0)) (K (dI (-1:Int)) []) ((Ln (Ty.sl TVS) x.2.1)/\(0<=(M.bE x.1.length left))/\((M.bE x.1.length left)<=1048576)/\cond (decide ((M.szS (M.szS M.bL) x.2.1 (M.bE x.1.length left))<Z0)) (K (dI (-1:Int)) []) (K (dI (M.szS (M.szS M.bL) x.2.1 (M.bE x.1.length left))) []))):=by kernel_rfl
theorem con46_ok:aN P 46 c46:=aP C46 func46 (kC con104_ok (kC con105_ok kN)) fun args hp K h0=>by
 obtain⟨x,left,rfl,rfl,h_x,p0,p1,hK⟩:=g2e h0
 have h:ok (F.qg x left) (fun r=>K (dI r) []):=ak (F.xX x left h_x p0 p1) hK
 refine⟨rfl,ann46,aq,(.dat au),(az (by kernel_rfl)),?_⟩
 ·rw[vc46]
  exact⟨h_x.1,⟨p0,⟨p1,(oC h (fun _ h=>h) fun _ h=>⟨h_x.2.1,(oG h fun _ h=>(oG h fun _ h=>(oC h (fun _ h=>h) fun _ h=>h)))⟩)⟩⟩⟩
def c9:Con:=⟨[.dat TTb,.dat au],fun args hp K=>g2 (pD TTb) (pD au) (fun x left=>(Ln TTb x)/\(0<=left)/\(left<=1048576)/\K (dI (M.szS M.bG x left)) []) args hp,.plain,false⟩
abbrev C9:Ctx:=cx [(46,c46)] 27 [] 0 false
def ann9:=an [[kp 3],[kp 3],[kp 2051],[kp 16],[kp 35],[kp 32803],[kp 35],[kp 35],[kp 33554467],[kp 16],[kp 16]] [[kp 2]]
abbrev s9_0 (x:LTb) (left:Int) (i0:Int) (v0:Int):St:=⟨[(0,.data TTb x),(1,dI v0),(5,dI i0)],[]⟩
abbrev LP9_0 (x:LTb) (left:Int) (m:Nat) (st_:St) (K:KX):Prop:=True/\bI (t:=TTable) (s9_0 x left) x (F.gO x left) (fun v0:Int=>True) (aR (fun v0:Int=>True->K (.exit 0) (⟨[(1,dI v0)],[]⟩:St)) (fun q0:Unit=>K .ret (⟨[(4,dI (-1:Int))],[]⟩:St))) m st_
def L9 (x:LTb) (left:Int):aW:=lp1 0 (LP9_0 x left)
theorem vc9 (x:LTb) (left:Int) (K:KA):vcT C9 (L9 x left) ann9 f9 [.data TTb x,dI left] [] (.dat au) K =
 (cond (decide (wrap64 (left-(x.length:Int))<Z0)) (K (dI (-1:Int)) []) (∃m_,True/\bI (t:=TTable) (s9_0 x left) x (F.gO x left) (fun v0:Int=>True) (aR (fun v0:Int=>True->K (dI v0) []) (fun q0:Unit=>K (dI (-1:Int)) [])) m_ (s9_0 x left Z0 (wrap64 (left-(x.length:Int)))))):=by kernel_rfl
theorem lvc9_0 (x:LTb) (left:Int)  (i0:Int) (v0:Int) (m:Nat) (K:KX):lvT C9 (L9 x left) ann9 f9 0 0 (s9_0 x left i0 v0) m K =
 (cond (decide (i0<(x.length:Int))) ((0<=i0)/\(i0<(x.length:Int))/\(Ln TTable (nT x i0))/\(0<=v0)/\(v0<=1048576)/\cond (decide ((M.bG (nT x i0) v0)<Z0)) (K .ret (⟨[(4,dI (-1:Int))],[]⟩:St)) (nxT (LP9_0 x left) m K (s9_0 x left (wrap64 (i0+Z1)) (M.bG (nT x i0) v0)))) (K (.exit 0) (⟨[(1,dI v0)],[]⟩:St))):=by kernel_rfl
theorem con9_ok:aN P 9 c9:=aP C9 func9 (kC con46_ok kN) fun args hp K h0=>by
 obtain⟨x,left,rfl,rfl,h_x,p0,p1,hK⟩:=g2e h0
 have h:ok (F.nO x left) (fun r=>K (dI r) []):=ak (F.wS x left h_x p0 p1) hK
 refine⟨rfl,ann9,(L9 x left),(.dat au),(aI (i0:=0) (by kernel_rfl) ?_),?_⟩
 ·rintro _ _ K ⟨hc0,i0,v0,rfl,hl0,rfl,hv0,h⟩
  exact cast (lvc9_0 _ _ _ _ _ _).symm (br (t:=TTable) hl0 h (fun ht0 h=>⟨hl0,⟨ht0,⟨(ay h_x i0),(oG h fun _ h=>(oG h fun _ h=>(oC h (fun _ h=>h) fun _ h=>(aT (t:=TTable) (fun _ hm=>⟨hc0,hm⟩) _ rfl hl0 ht0 (aM h_x) trivial h))))⟩⟩⟩) fun h=>(h trivial))
 ·rw[vc9]
  exact(oC h (fun _ h=>h) fun _ h=>(aZ (t:=TTable) (fun m hm=>⟨trivial,hm⟩) _ rfl trivial (aF h (fun v0 h hv0=>h) (fun q0 h=>h))))
def c106:Con:=⟨[.dat (Ty.sl au),.dat au],fun args hp K=>g2 (pD (Ty.sl au)) (pD au) (fun x left=>(Ln (Ty.sl au) x)/\(0<=left)/\(left<=1048576)/\K (dI (M.bE x.length left)) []) args hp,.plain,false⟩
abbrev C106:Ctx:=cx [] 12 [] 0 false
def ann106:=an [[kp 3],[kp 2],[kp 1026],[kp 16],[kp 16]] []
theorem vc106 (x:LI) (left:Int) (K:KA):vcT C106 aq ann106 f106 [.data (Ty.sl au) x,dI left] [] (.dat au) K =
 (cond (decide (wrap64 (left-(x.length:Int))<Z0)) (K (dI (-1:Int)) []) (K (dI (wrap64 (left-(x.length:Int)))) [])):=by kernel_rfl
theorem con106_ok:aN P 106 c106:=aP C106 func106 kN fun args hp K h0=>by
 obtain⟨x,left,rfl,rfl,h_x,p0,p1,hK⟩:=g2e h0
 have h:ok (F.qQ x left) (fun r=>K (dI r) []):=ak (F.zm x left h_x p0 p1) hK
 refine⟨rfl,ann106,aq,(.dat au),(az (by kernel_rfl)),?_⟩
 ·rw[vc106]
  exact(oC h (fun _ h=>h) fun _ h=>h)
def c177:Con:=⟨[.dat ax,.dat au],fun args hp K=>g2 (pD ax) (pD au) (fun x left=>(Ln ax x)/\(0<=left)/\(left<=1048576)/\K (dI (M.gB x left)) []) args hp,.plain,false⟩
abbrev C177:Ctx:=cx [(148,c148)] 12 [] 0 false
def ann177:=an [[.fixRow 2 ax,kp 6],[kp 2],[kp 1026],[kp 16],[kp 16]] []
theorem vc177 (x:ax.D) (left:Int) (K:KA):vcT C177 aq ann177 f177 [.data ax x,dI left] [] (.dat au) K =
 ((Ln aa x.2.2.1)/\(0<=left)/\(left<=1048576)/\cond (decide ((M.bL x.2.2.1 left)<Z0)) (K (dI (-1:Int)) []) (K (dI (M.bL x.2.2.1 left)) [])):=by kernel_rfl
theorem con177_ok:aN P 177 c177:=aP C177 func177 (kC con148_ok kN) fun args hp K h0=>by
 obtain⟨x,left,rfl,rfl,h_x,p0,p1,hK⟩:=g2e h0
 have h:ok (F.qA x left) (fun r=>K (dI r) []):=ak (F.zx x left h_x p0 p1) hK
 refine⟨rfl,ann177,aq,(.dat au),(az (by kernel_rfl)),?_⟩
 ·rw[vc177]
  exact⟨h_x.2.2.1,⟨p0,⟨p1,(oC h (fun _ h=>h) fun _ h=>h)⟩⟩⟩
def c107:Con:=⟨[.dat TPS,.dat au],fun args hp K=>g2 (pD TPS) (pD au) (fun x left=>(Ln TPS x)/\(0<=left)/\(left<=1048576)/\K (dI (M.szS M.gB x left)) []) args hp,.plain,false⟩
abbrev C107:Ctx:=cx [(177,c177)] 27 [] 0 false
def ann107:=an [[kp 3],[kp 3],[kp 2051],[kp 16],[kp 35],[kp 32803],[kp 35],[kp 35],[kp 33554467],[kp 16],[kp 16]] [[kp 2]]
abbrev s107_0 (x:LPt) (left:Int) (i0:Int) (v0:Int):St:=⟨[(0,.data TPS x),(1,dI v0),(5,dI i0)],[]⟩
abbrev LP107_0 (x:LPt) (left:Int) (m:Nat) (st_:St) (K:KX):Prop:=True/\bI (t:=ax) (s107_0 x left) x (F.iE x left) (fun v0:Int=>True) (aR (fun v0:Int=>True->K (.exit 0) (⟨[(1,dI v0)],[]⟩:St)) (fun q0:Unit=>K .ret (⟨[(4,dI (-1:Int))],[]⟩:St))) m st_
def L107 (x:LPt) (left:Int):aW:=lp1 0 (LP107_0 x left)
theorem vc107 (x:LPt) (left:Int) (K:KA):vcT C107 (L107 x left) ann107 f107 [.data TPS x,dI left] [] (.dat au) K =
 (cond (decide (wrap64 (left-(x.length:Int))<Z0)) (K (dI (-1:Int)) []) (∃m_,True/\bI (t:=ax) (s107_0 x left) x (F.iE x left) (fun v0:Int=>True) (aR (fun v0:Int=>True->K (dI v0) []) (fun q0:Unit=>K (dI (-1:Int)) [])) m_ (s107_0 x left Z0 (wrap64 (left-(x.length:Int)))))):=by kernel_rfl
theorem lvc107_0 (x:LPt) (left:Int)  (i0:Int) (v0:Int) (m:Nat) (K:KX):lvT C107 (L107 x left) ann107 f107 0 0 (s107_0 x left i0 v0) m K =
 (cond (decide (i0<(x.length:Int))) ((0<=i0)/\(i0<(x.length:Int))/\(Ln ax (nP x i0))/\(0<=v0)/\(v0<=1048576)/\cond (decide ((M.gB (nP x i0) v0)<Z0)) (K .ret (⟨[(4,dI (-1:Int))],[]⟩:St)) (nxT (LP107_0 x left) m K (s107_0 x left (wrap64 (i0+Z1)) (M.gB (nP x i0) v0)))) (K (.exit 0) (⟨[(1,dI v0)],[]⟩:St))):=by kernel_rfl
theorem con107_ok:aN P 107 c107:=aP C107 func107 (kC con177_ok kN) fun args hp K h0=>by
 obtain⟨x,left,rfl,rfl,h_x,p0,p1,hK⟩:=g2e h0
 have h:ok (F.pU x left) (fun r=>K (dI r) []):=ak (F.yy x left h_x p0 p1) hK
 refine⟨rfl,ann107,(L107 x left),(.dat au),(aI (i0:=0) (by kernel_rfl) ?_),?_⟩
 ·rintro _ _ K ⟨hc0,i0,v0,rfl,hl0,rfl,hv0,h⟩
  exact cast (lvc107_0 _ _ _ _ _ _).symm (br (t:=ax) hl0 h (fun ht0 h=>⟨hl0,⟨ht0,⟨(ay h_x i0),(oG h fun _ h=>(oG h fun _ h=>(oC h (fun _ h=>h) fun _ h=>(aT (t:=ax) (fun _ hm=>⟨hc0,hm⟩) _ rfl hl0 ht0 (aM h_x) trivial h))))⟩⟩⟩) fun h=>(h trivial))
 ·rw[vc107]
  exact(oC h (fun _ h=>h) fun _ h=>(aZ (t:=ax) (fun m hm=>⟨trivial,hm⟩) _ rfl trivial (aF h (fun v0 h hv0=>h) (fun q0 h=>h))))
def c47:Con:=⟨[.dat TBond,.dat au],fun args hp K=>g2 (pD TBond) (pD au) (fun x left=>(Ln TBond x)/\(0<=left)/\(left<=1048576)/\K (dI (M.dc x left)) []) args hp,.plain,false⟩
abbrev C47:Ctx:=cx [(106,c106),(107,c107)] 24 [] 0 false
def ann47:=an [[.fixRow 2 TBond,kp 6],[kp 6],[kp 1030],[kp 16],[kp 6],[kp 65542],[kp 16],[kp 2],[kp 4194306],[kp 16],[kp 16]] []
theorem vc47 (x:TBond.D) (left:Int) (K:KA):vcT C47 aq ann47 f47 [.data TBond x,dI left] [] (.dat au) K =
 ((Ln (Ty.sl au) x.2.2.1)/\(0<=left)/\(left<=1048576)/\cond (decide ((M.bE x.2.2.1.length left)<Z0)) (K (dI (-1:Int)) []) ((Ln (Ty.sl au) x.2.2.2.2.1)/\(0<=(M.bE x.2.2.1.length left))/\((M.bE x.2.2.1.length left)<=1048576)/\cond (decide ((M.bE x.2.2.2.2.1.length (M.bE x.2.2.1.length left))<Z0)) (K (dI (-1:Int)) []) ((Ln TPS x.2.2.2.2.2.2.1)/\(0<=(M.bE x.2.2.2.2.1.length (M.bE x.2.2.1.length left)))/\((M.bE x.2.2.2.2.1.length (M.bE x.2.2.1.length left))<=1048576)/\cond (decide ((M.szS M.gB x.2.2.2.2.2.2.1 (M.bE x.2.2.2.2.1.length (M.bE x.2.2.1.length left)))<Z0)) (K (dI (-1:Int)) []) (K (dI (M.szS M.gB x.2.2.2.2.2.2.1 (M.bE x.2.2.2.2.1.length (M.bE x.2.2.1.length left)))) [])))):=by kernel_rfl
theorem con47_ok:aN P 47 c47:=aP C47 func47 (kC con106_ok (kC con107_ok kN)) fun args hp K h0=>by
 obtain⟨x,left,rfl,rfl,h_x,p0,p1,hK⟩:=g2e h0
 have h:ok (F.ru x left) (fun r=>K (dI r) []):=ak (F.zR x left h_x p0 p1) hK
 refine⟨rfl,ann47,aq,(.dat au),(az (by kernel_rfl)),?_⟩
 ·rw[vc47]
  exact⟨h_x.2.2.1,⟨p0,⟨p1,(oC h (fun _ h=>h) fun _ h=>⟨h_x.2.2.2.2.1,(oG h fun _ h=>(oG h fun _ h=>(oC h (fun _ h=>h) fun _ h=>⟨h_x.2.2.2.2.2.2.1,(oG h fun _ h=>(oG h fun _ h=>(oC h (fun _ h=>h) fun _ h=>h)))⟩)))⟩)⟩⟩⟩
def c10:Con:=⟨[.dat (Ty.sl TBond),.dat au],fun args hp K=>g2 (pD (Ty.sl TBond)) (pD au) (fun x left=>(Ln (Ty.sl TBond) x)/\(0<=left)/\(left<=1048576)/\K (dI (M.szS M.dc x left)) []) args hp,.plain,false⟩
abbrev C10:Ctx:=cx [(47,c47)] 27 [] 0 false
def ann10:=an [[kp 3],[kp 3],[kp 2051],[kp 16],[kp 35],[kp 32803],[kp 35],[kp 35],[kp 33554467],[kp 16],[kp 16]] [[kp 2]]
abbrev s10_0 (x:(List TBond.D)) (left:Int) (i0:Int) (v0:Int):St:=⟨[(0,.data (Ty.sl TBond) x),(1,dI v0),(5,dI i0)],[]⟩
abbrev LP10_0 (x:(List TBond.D)) (left:Int) (m:Nat) (st_:St) (K:KX):Prop:=True/\bI (t:=TBond) (s10_0 x left) x (F.iy x left) (fun v0:Int=>True) (aR (fun v0:Int=>True->K (.exit 0) (⟨[(1,dI v0)],[]⟩:St)) (fun q0:Unit=>K .ret (⟨[(4,dI (-1:Int))],[]⟩:St))) m st_
def L10 (x:(List TBond.D)) (left:Int):aW:=lp1 0 (LP10_0 x left)
theorem vc10 (x:(List TBond.D)) (left:Int) (K:KA):vcT C10 (L10 x left) ann10 f10 [.data (Ty.sl TBond) x,dI left] [] (.dat au) K =
 (cond (decide (wrap64 (left-(x.length:Int))<Z0)) (K (dI (-1:Int)) []) (∃m_,True/\bI (t:=TBond) (s10_0 x left) x (F.iy x left) (fun v0:Int=>True) (aR (fun v0:Int=>True->K (dI v0) []) (fun q0:Unit=>K (dI (-1:Int)) [])) m_ (s10_0 x left Z0 (wrap64 (left-(x.length:Int)))))):=by kernel_rfl
theorem lvc10_0 (x:(List TBond.D)) (left:Int)  (i0:Int) (v0:Int) (m:Nat) (K:KX):lvT C10 (L10 x left) ann10 f10 0 0 (s10_0 x left i0 v0) m K =
 (cond (decide (i0<(x.length:Int))) ((0<=i0)/\(i0<(x.length:Int))/\(Ln TBond (nth (t:=TBond) x i0))/\(0<=v0)/\(v0<=1048576)/\cond (decide ((M.dc (nth (t:=TBond) x i0) v0)<Z0)) (K .ret (⟨[(4,dI (-1:Int))],[]⟩:St)) (nxT (LP10_0 x left) m K (s10_0 x left (wrap64 (i0+Z1)) (M.dc (nth (t:=TBond) x i0) v0)))) (K (.exit 0) (⟨[(1,dI v0)],[]⟩:St))):=by kernel_rfl
theorem con10_ok:aN P 10 c10:=aP C10 func10 (kC con47_ok kN) fun args hp K h0=>by
 obtain⟨x,left,rfl,rfl,h_x,p0,p1,hK⟩:=g2e h0
 have h:ok (F.pH x left) (fun r=>K (dI r) []):=ak (F.xI x left h_x p0 p1) hK
 refine⟨rfl,ann10,(L10 x left),(.dat au),(aI (i0:=0) (by kernel_rfl) ?_),?_⟩
 ·rintro _ _ K ⟨hc0,i0,v0,rfl,hl0,rfl,hv0,h⟩
  exact cast (lvc10_0 _ _ _ _ _ _).symm (br (t:=TBond) hl0 h (fun ht0 h=>⟨hl0,⟨ht0,⟨(ay h_x i0),(oG h fun _ h=>(oG h fun _ h=>(oC h (fun _ h=>h) fun _ h=>(aT (t:=TBond) (fun _ hm=>⟨hc0,hm⟩) _ rfl hl0 ht0 (aM h_x) trivial h))))⟩⟩⟩) fun h=>(h trivial))
 ·rw[vc10]
  exact(oC h (fun _ h=>h) fun _ h=>(aZ (t:=TBond) (fun m hm=>⟨trivial,hm⟩) _ rfl trivial (aF h (fun v0 h hv0=>h) (fun q0 h=>h))))
def c34:Con:=⟨[.dat TChange,.dat au],fun args hp K=>g2 (pD TChange) (pD au) (fun x left=>(Ln TChange x)/\(0<=left)/\(left<=1048576)/\K (dI (M.dF x left)) []) args hp,.plain,false⟩
abbrev C34:Ctx:=cx [(81,c81)] 12 [] 0 false
def ann34:=an [[.fixRow 2 TChange,kp 6],[kp 2],[kp 1026],[kp 16],[kp 16]] []
theorem vc34 (x:TChange.D) (left:Int) (K:KA):vcT C34 aq ann34 f34 [.data TChange x,dI left] [] (.dat au) K =
 ((Ln TVS x.2.1)/\(0<=left)/\(left<=1048576)/\cond (decide ((M.szS M.bL x.2.1 left)<Z0)) (K (dI (-1:Int)) []) (K (dI (M.szS M.bL x.2.1 left)) [])):=by kernel_rfl
theorem con34_ok:aN P 34 c34:=aP C34 func34 (kC con81_ok kN) fun args hp K h0=>by
 obtain⟨x,left,rfl,rfl,h_x,p0,p1,hK⟩:=g2e h0
 have h:ok (F.om x left) (fun r=>K (dI r) []):=ak (F.wL x left h_x p0 p1) hK
 refine⟨rfl,ann34,aq,(.dat au),(az (by kernel_rfl)),?_⟩
 ·rw[vc34]
  exact⟨h_x.2.1,⟨p0,⟨p1,(oC h (fun _ h=>h) fun _ h=>h)⟩⟩⟩
def c11:Con:=⟨[.dat (Ty.sl TChange),.dat au],fun args hp K=>g2 (pD (Ty.sl TChange)) (pD au) (fun x left=>(Ln (Ty.sl TChange) x)/\(0<=left)/\(left<=1048576)/\K (dI (M.szS M.dF x left)) []) args hp,.plain,false⟩
abbrev C11:Ctx:=cx [(34,c34)] 27 [] 0 false
def ann11:=an [[kp 3],[kp 3],[kp 2051],[kp 16],[kp 35],[kp 32803],[kp 35],[kp 35],[kp 33554467],[kp 16],[kp 16]] [[kp 2]]
abbrev s11_0 (x:(List TChange.D)) (left:Int) (i0:Int) (v0:Int):St:=⟨[(0,.data (Ty.sl TChange) x),(1,dI v0),(5,dI i0)],[]⟩
abbrev LP11_0 (x:(List TChange.D)) (left:Int) (m:Nat) (st_:St) (K:KX):Prop:=True/\bI (t:=TChange) (s11_0 x left) x (F.gq x left) (fun v0:Int=>True) (aR (fun v0:Int=>True->K (.exit 0) (⟨[(1,dI v0)],[]⟩:St)) (fun q0:Unit=>K .ret (⟨[(4,dI (-1:Int))],[]⟩:St))) m st_
def L11 (x:(List TChange.D)) (left:Int):aW:=lp1 0 (LP11_0 x left)
theorem vc11 (x:(List TChange.D)) (left:Int) (K:KA):vcT C11 (L11 x left) ann11 f11 [.data (Ty.sl TChange) x,dI left] [] (.dat au) K =
 (cond (decide (wrap64 (left-(x.length:Int))<Z0)) (K (dI (-1:Int)) []) (∃m_,True/\bI (t:=TChange) (s11_0 x left) x (F.gq x left) (fun v0:Int=>True) (aR (fun v0:Int=>True->K (dI v0) []) (fun q0:Unit=>K (dI (-1:Int)) [])) m_ (s11_0 x left Z0 (wrap64 (left-(x.length:Int)))))):=by kernel_rfl
theorem lvc11_0 (x:(List TChange.D)) (left:Int)  (i0:Int) (v0:Int) (m:Nat) (K:KX):lvT C11 (L11 x left) ann11 f11 0 0 (s11_0 x left i0 v0) m K =
 (cond (decide (i0<(x.length:Int))) ((0<=i0)/\(i0<(x.length:Int))/\(Ln TChange (nth (t:=TChange) x i0))/\(0<=v0)/\(v0<=1048576)/\cond (decide ((M.dF (nth (t:=TChange) x i0) v0)<Z0)) (K .ret (⟨[(4,dI (-1:Int))],[]⟩:St)) (nxT (LP11_0 x left) m K (s11_0 x left (wrap64 (i0+Z1)) (M.dF (nth (t:=TChange) x i0) v0)))) (K (.exit 0) (⟨[(1,dI v0)],[]⟩:St))):=by kernel_rfl
theorem con11_ok:aN P 11 c11:=aP C11 func11 (kC con34_ok kN) fun args hp K h0=>by
 obtain⟨x,left,rfl,rfl,h_x,p0,p1,hK⟩:=g2e h0
 have h:ok (F.mV x left) (fun r=>K (dI r) []):=ak (F.uF x left h_x p0 p1) hK
 refine⟨rfl,ann11,(L11 x left),(.dat au),(aI (i0:=0) (by kernel_rfl) ?_),?_⟩
 ·rintro _ _ K ⟨hc0,i0,v0,rfl,hl0,rfl,hv0,h⟩
  exact cast (lvc11_0 _ _ _ _ _ _).symm (br (t:=TChange) hl0 h (fun ht0 h=>⟨hl0,⟨ht0,⟨(ay h_x i0),(oG h fun _ h=>(oG h fun _ h=>(oC h (fun _ h=>h) fun _ h=>(aT (t:=TChange) (fun _ hm=>⟨hc0,hm⟩) _ rfl hl0 ht0 (aM h_x) trivial h))))⟩⟩⟩) fun h=>(h trivial))
 ·rw[vc11]
  exact(oC h (fun _ h=>h) fun _ h=>(aZ (t:=TChange) (fun m hm=>⟨trivial,hm⟩) _ rfl trivial (aF h (fun v0 h hv0=>h) (fun q0 h=>h))))
def c143:Con:=⟨[.dat au,.dat au,.dat au],fun args hp K=>g3 (pD au) (pD au) (pD au) (fun n low high=>K (dB (M.inR n low high)) []) args hp,.plain,false⟩
abbrev C143:Ctx:=cx [] 15 [] 0 false
def ann143:=an [[kp 7],[kp 64]] []
theorem vc143 (n:Int) (low:Int) (high:Int) (K:KA):vcT C143 aq ann143 f143 [dI n,dI low,dI high] [] (.dat Ty.bool) K =
 (cond ((decide (low<=n))==true) (K (dB (decide (n<=high))) []) (K (dB false) [])):=by kernel_rfl
theorem con143_ok:aN P 143 c143:=aP C143 func143 kN fun args hp K h0=>by
 obtain⟨n,low,high,rfl,rfl,hK⟩:=g3e h0
 have h:ok (F.vV n low high) (fun r=>K (dB r) []):=ak (F.BU n low high) hK
 refine⟨rfl,ann143,aq,(.dat Ty.bool),(az (by kernel_rfl)),?_⟩
 ·rw[vc143]
  exact(oC h (fun _ h=>h) fun _ h=>h)
def c178:Con:=⟨[.dat TCS],fun args hp K=>g1 (pD TCS) (fun columns=>(Sm TCS columns)/\K (dB (M.bD columns)) []) args hp,.plain,false⟩
abbrev C178:Ctx:=cx [(143,c143)] 20 [] 0 false
def ann178:=an [[kp 1],[kp 9],[kp 137],[kp 9],[kp 65545],[kp 4],[kp 4]] [[kp 1]]
abbrev s178_0 (columns:LC) (i0:Int) (v0:Unit):St:=⟨[(0,.data TCS columns),(3,dI i0)],[]⟩
abbrev LP178_0 (columns:LC) (m:Nat) (st_:St) (K:KX):Prop:=True/\bI (t:=ai) (s178_0 columns) columns (F.fZ columns) (fun v0:Unit=>True) (aR (fun v0:Unit=>True->K (.exit 0) (⟨[(0,.data TCS columns)],[]⟩:St)) (fun q0:Unit=>K .ret (⟨[(2,dB false)],[]⟩:St))) m st_
def L178 (columns:LC):aW:=lp1 0 (LP178_0 columns)
theorem vc178 (columns:LC) (K:KA):vcT C178 (L178 columns) ann178 f178 [.data TCS columns] [] (.dat Ty.bool) K =
 (∃m_,True/\bI (t:=ai) (s178_0 columns) columns (F.fZ columns) (fun v0:Unit=>True) (aR (fun v0:Unit=>True->K (dB (decide ((columns.length:Int)<=Z4))) []) (fun q0:Unit=>K (dB false) [])) m_ (s178_0 columns Z0 ())):=by kernel_rfl
theorem lvc178_0 (columns:LC)  (i0:Int) (v0:Unit) (m:Nat) (K:KX):lvT C178 (L178 columns) ann178 f178 0 0 (s178_0 columns i0 v0) m K =
 (cond (decide (i0<(columns.length:Int))) ((0<=i0)/\(i0<(columns.length:Int))/\cond (!(M.inR (nC columns i0).1 Z1 Z3)) (K .ret (⟨[(2,dB false)],[]⟩:St)) (nxT (LP178_0 columns) m K (s178_0 columns (wrap64 (i0+Z1)) ()))) (K (.exit 0) (⟨[(0,.data TCS columns)],[]⟩:St))):=by kernel_rfl
theorem con178_ok:aN P 178 c178:=aP C178 func178 (kC con143_ok kN) fun args hp K h0=>by
 obtain⟨columns,rfl,rfl,h_columns,hK⟩:=g1e h0
 have h:ok (F.mP columns) (fun r=>K (dB r) []):=ak (F.vH columns h_columns) hK
 refine⟨rfl,ann178,(L178 columns),(.dat Ty.bool),(aI (i0:=0) (by kernel_rfl) ?_),?_⟩
 ·rintro _ _ K ⟨hc0,i0,v0,rfl,hl0,rfl,hv0,h⟩
  exact cast (lvc178_0 _ _ _ _ _).symm (br (t:=ai) hl0 h (fun ht0 h=>⟨hl0,⟨ht0,(oC h (fun _ h=>h) fun _ h=>(aT (t:=ai) (fun _ hm=>⟨hc0,hm⟩) _ rfl hl0 ht0 (aM h_columns) trivial h))⟩⟩) fun h=>(h trivial))
 ·rw[vc178]
  exact(aZ (t:=ai) (fun m hm=>⟨trivial,hm⟩) _ rfl trivial (aF h (fun v0 h hv0=>h) (fun q0 h=>h)))
def c249:Con:=⟨[.dat Ty.str],fun args hp K=>g1 (pD Ty.str) (fun s=>(Sm Ty.str s)/\K (dB (M.text s)) []) args hp,.plain,false⟩
abbrev C249:Ctx:=cx [] 23 [] 0 false
def ann249:=an [[kp 1],[kp 9],[kp 137],[kp 9],[kp 524297],[kp 4],[kp 4]] [[kp 1]]
abbrev s249_0 (s:ByteArray) (i0:Int) (v0:Unit):St:=⟨[(0,.data Ty.str s),(3,dI i0)],[]⟩
abbrev LP249_0 (s:ByteArray) (m:Nat) (st_:St) (K:KX):Prop:=True/\aY (s249_0 s) Z0 (s.size:Int) (F.jk s) (fun v0:Unit=>True) (aR (fun v0:Unit=>True->K (.exit 0) (⟨[(0,.data Ty.str s)],[]⟩:St)) (fun q0:Unit=>K .ret (⟨[(2,dB false)],[]⟩:St))) m st_
def L249 (s:ByteArray):aW:=lp1 0 (LP249_0 s)
theorem vc249 (s:ByteArray) (K:KA):vcT C249 (L249 s) ann249 f249 [.data Ty.str s] [] (.dat Ty.bool) K =
 (∃m_,True/\aY (s249_0 s) Z0 (s.size:Int) (F.jk s) (fun v0:Unit=>True) (aR (fun v0:Unit=>True->K (dB (decide ((s.size:Int)<=Z6))) []) (fun q0:Unit=>K (dB false) [])) m_ (s249_0 s Z0 ())):=by kernel_rfl
theorem lvc249_0 (s:ByteArray)  (i0:Int) (v0:Unit) (m:Nat) (K:KX):lvT C249 (L249 s) ann249 f249 0 0 (s249_0 s i0 v0) m K =
 (cond (decide (i0<(s.size:Int))) ((0<=i0)/\(i0<(s.size:Int))/\cond ((decide (((s.get! i0.toNat).toNat:Int)<(97:Int)))==false) ((0<=i0)/\(i0<(s.size:Int))/\cond (decide ((122:Int)<((s.get! i0.toNat).toNat:Int))) (K .ret (⟨[(2,dB false)],[]⟩:St)) (nxT (LP249_0 s) m K (s249_0 s (wrap64 (i0+Z1)) ()))) (K .ret (⟨[(2,dB false)],[]⟩:St))) (K (.exit 0) (⟨[(0,.data Ty.str s)],[]⟩:St))):=by kernel_rfl
theorem con249_ok:aN P 249 c249:=aP C249 func249 kN fun args hp K h0=>by
 obtain⟨s,rfl,rfl,h_s,hK⟩:=g1e h0
 have h:ok (F.rj s) (fun r=>K (dB r) []):=ak (F.zD s h_s) hK
 refine⟨rfl,ann249,(L249 s),(.dat Ty.bool),(aI (i0:=0) (by kernel_rfl) ?_),?_⟩
 ·rintro _ _ K ⟨hc0,i0,v0,rfl,hl0,rfl,hv0,h⟩
  exact cast (lvc249_0 _ _ _ _ _).symm (aL h (fun ht0 h=>⟨hl0,⟨ht0,(oC h (fun _ h=>⟨hl0,⟨ht0,(oC h (fun _ h=>h) fun _ h=>(aE (fun _ hm=>⟨hc0,hm⟩) _ rfl hl0 dG ht0 (HW h_s) trivial h))⟩⟩) fun _ h=>h)⟩⟩) fun h=>(h trivial))
 ·rw[vc249]
  exact(aD (fun m hm=>⟨trivial,hm⟩) Z0 _ rfl (Int.natCast_nonneg 0) trivial (aF h (fun v0 h hv0=>h) (fun q0 h=>h)))
def c223:Con:=⟨[.dat aa],fun args hp K=>g1 (pD aa) (fun v=>(Sm aa v)/\K (dB (M.aO v)) []) args hp,.plain,false⟩
abbrev C223:Ctx:=cx [(143,c143),(249,c249)] 45 [] 0 false
def ann223:=an [[.fixRow 1 aa,kp 2],[kp 18],[kp 50],[kp 4],[kp 32786],[kp 4],[kp 33554450],[kp 4],[.keep [1,35]],[kp 4],[kp 4]] []
theorem vc223 (v:aa.D) (K:KA):vcT C223 aq ann223 f223 [.data aa v] [] (.dat Ty.bool) K =
 (cond (decide (v.1=Z0)) (cond ((decide (v.2.1=Z0))==true) (K (dB (decide (v.2.2.1=(⟨#[]⟩:ByteArray)))) []) (K (dB false) [])) (cond (decide (v.1=Z1)) (cond ((M.inR v.2.1 (-9999:Int) (9999:Int))==true) (K (dB (decide (v.2.2.1=(⟨#[]⟩:ByteArray)))) []) (K (dB false) [])) (cond (decide (v.1=Z2)) (cond ((decide (v.2.1=Z0))==true) ((Sm Ty.str v.2.2.1)/\K (dB (M.text v.2.2.1)) []) (K (dB false) [])) (cond (decide (v.1=Z3)) (cond ((M.inR v.2.1 Z0 Z1)==true) (K (dB (decide (v.2.2.1=(⟨#[]⟩:ByteArray)))) []) (K (dB false) [])) (K (dB false) []))))):=by kernel_rfl
theorem con223_ok:aN P 223 c223:=aP C223 func223 (kC con143_ok (kC con249_ok kN)) fun args hp K h0=>by
 obtain⟨v,rfl,rfl,h_v,hK⟩:=g1e h0
 have h:ok (F.pV v) (fun r=>K (dB r) []):=ak (F.yb v h_v) hK
 refine⟨rfl,ann223,aq,(.dat Ty.bool),(az (by kernel_rfl)),?_⟩
 ·rw[vc223]
  exact(oC h (fun _ h=>(oC h (fun _ h=>h) fun _ h=>h)) fun _ h=>(oC h (fun _ h=>(oC h (fun _ h=>h) fun _ h=>h)) fun _ h=>(oC h (fun _ h=>(oC h (fun _ h=>⟨h_v.2.2.1,h⟩) fun _ h=>h)) fun _ h=>(oC h (fun _ h=>(oC h (fun _ h=>h) fun _ h=>h)) fun _ h=>h))))
def c195:Con:=⟨[.dat TVS],fun args hp K=>g1 (pD TVS) (fun row=>(Sm TVS row)/\K (dB (M.oD row)) []) args hp,.plain,false⟩
abbrev C195:Ctx:=cx [(223,c223)] 19 [] 0 false
def ann195:=an [[kp 1],[kp 9],[kp 137],[kp 9],[kp 32777],[kp 4],[kp 4]] [[kp 1]]
abbrev s195_0 (row:LV) (i0:Int) (v0:Unit):St:=⟨[(0,.data TVS row),(3,dI i0)],[]⟩
abbrev LP195_0 (row:LV) (m:Nat) (st_:St) (K:KX):Prop:=True/\bI (t:=aa) (s195_0 row) row (F.ki row) (fun v0:Unit=>True) (aR (fun v0:Unit=>True->K (.exit 0) (⟨[(0,.data TVS row)],[]⟩:St)) (fun q0:Unit=>K .ret (⟨[(2,dB false)],[]⟩:St))) m st_
def L195 (row:LV):aW:=lp1 0 (LP195_0 row)
theorem vc195 (row:LV) (K:KA):vcT C195 (L195 row) ann195 f195 [.data TVS row] [] (.dat Ty.bool) K =
 (∃m_,True/\bI (t:=aa) (s195_0 row) row (F.ki row) (fun v0:Unit=>True) (aR (fun v0:Unit=>True->K (dB (decide ((row.length:Int)<=Z4))) []) (fun q0:Unit=>K (dB false) [])) m_ (s195_0 row Z0 ())):=by kernel_rfl
theorem lvc195_0 (row:LV)  (i0:Int) (v0:Unit) (m:Nat) (K:KX):lvT C195 (L195 row) ann195 f195 0 0 (s195_0 row i0 v0) m K =
 (cond (decide (i0<(row.length:Int))) ((0<=i0)/\(i0<(row.length:Int))/\(Sm aa (nV row i0))/\cond (!(M.aO (nV row i0))) (K .ret (⟨[(2,dB false)],[]⟩:St)) (nxT (LP195_0 row) m K (s195_0 row (wrap64 (i0+Z1)) ()))) (K (.exit 0) (⟨[(0,.data TVS row)],[]⟩:St))):=by kernel_rfl
theorem con195_ok:aN P 195 c195:=aP C195 func195 (kC con223_ok kN) fun args hp K h0=>by
 obtain⟨row,rfl,rfl,h_row,hK⟩:=g1e h0
 have h:ok (F.tE row) (fun r=>K (dB r) []):=ak (F.Az row h_row) hK
 refine⟨rfl,ann195,(L195 row),(.dat Ty.bool),(aI (i0:=0) (by kernel_rfl) ?_),?_⟩
 ·rintro _ _ K ⟨hc0,i0,v0,rfl,hl0,rfl,hv0,h⟩
  exact cast (lvc195_0 _ _ _ _ _).symm (br (t:=aa) hl0 h (fun ht0 h=>⟨hl0,⟨ht0,⟨(ay h_row i0),(oC h (fun _ h=>h) fun _ h=>(aT (t:=aa) (fun _ hm=>⟨hc0,hm⟩) _ rfl hl0 ht0 (aM h_row) trivial h))⟩⟩⟩) fun h=>(h trivial))
 ·rw[vc195]
  exact(aZ (t:=aa) (fun m hm=>⟨trivial,hm⟩) _ rfl trivial (aF h (fun v0 h hv0=>h) (fun q0 h=>h)))
def c144:Con:=⟨[.dat TCS,.dat TVS],fun args hp K=>g2 (pD TCS) (pD TVS) (fun columns row=>(Sm TCS columns)/\(Sm TVS row)/\K (dB (M.bH columns row)) []) args hp,.plain,false⟩
abbrev C144:Ctx:=cx [(178,c178),(195,c195)] 54 [] 0 false
def ann144:=an [[kp 3],[kp 1048579],[kp 16],[kp 35],[kp 16777251],[kp 35],[kp 9007199254741027],[kp 16],[kp 16]] [[kp 0]]
abbrev s144_0 (columns:LC) (row:LV) (i0:Int) (v0:Unit):St:=⟨[(0,.data TCS columns),(1,.data TVS row),(5,dI i0)],[]⟩
abbrev LP144_0 (columns:LC) (row:LV) (m:Nat) (st_:St) (K:KX):Prop:=True/\aY (s144_0 columns row) Z0 (row.length:Int) (F.iz columns row) (fun v0:Unit=>True) (aR (fun v0:Unit=>True->K (.exit 0) (⟨[],[]⟩:St)) (fun q0:Unit=>K .ret (⟨[(4,dB false)],[]⟩:St))) m st_
def L144 (columns:LC) (row:LV):aW:=lp1 0 (LP144_0 columns row)
theorem vc144 (columns:LC) (row:LV) (K:KA):vcT C144 (L144 columns row) ann144 f144 [.data TCS columns,.data TVS row] [] (.dat Ty.bool) K =
 ((Sm TCS columns)/\cond ((!(M.bD columns))==false) ((Sm TVS row)/\cond ((!(M.oD row))==false) (cond (!decide ((row.length:Int)=(columns.length:Int))) (K (dB false) []) (∃m_,True/\aY (s144_0 columns row) Z0 (row.length:Int) (F.iz columns row) (fun v0:Unit=>True) (aR (fun v0:Unit=>True->K (dB true) []) (fun q0:Unit=>K (dB false) [])) m_ (s144_0 columns row Z0 ()))) (K (dB false) [])) (K (dB false) [])):=by kernel_rfl
theorem lvc144_0 (columns:LC) (row:LV)  (i0:Int) (v0:Unit) (m:Nat) (K:KX):lvT C144 (L144 columns row) ann144 f144 0 0 (s144_0 columns row i0 v0) m K =
 (cond (decide (i0<(row.length:Int))) ((0<=i0)/\(i0<(row.length:Int))/\(0<=i0)/\(i0<(columns.length:Int))/\cond ((!decide ((nV row i0).1=(nC columns i0).1))==true) ((0<=i0)/\(i0<(row.length:Int))/\cond ((!decide ((nV row i0).1=Z0))==false) ((0<=i0)/\(i0<(columns.length:Int))/\cond (!(nC columns i0).2.1) (K .ret (⟨[(4,dB false)],[]⟩:St)) (nxT (LP144_0 columns row) m K (s144_0 columns row (wrap64 (i0+Z1)) ()))) (K .ret (⟨[(4,dB false)],[]⟩:St))) (nxT (LP144_0 columns row) m K (s144_0 columns row (wrap64 (i0+Z1)) ()))) (K (.exit 0) (⟨[],[]⟩:St))):=by kernel_rfl
theorem con144_ok:aN P 144 c144:=aP C144 func144 (kC con178_ok (kC con195_ok kN)) fun args hp K h0=>by
 obtain⟨columns,row,rfl,rfl,h_columns,h_row,hK⟩:=g2e h0
 have h:ok (F.qp columns row) (fun r=>K (dB r) []):=ak (F.xG columns row h_columns h_row) hK
 refine⟨rfl,ann144,(L144 columns row),(.dat Ty.bool),(aI (i0:=0) (by kernel_rfl) ?_),?_⟩
 ·rintro _ _ K ⟨hc0,i0,v0,rfl,hl0,rfl,hv0,h⟩
  exact cast (lvc144_0 _ _ _ _ _ _).symm (aL h (fun ht0 h=>⟨hl0,⟨ht0,⟨hl0,(oG h fun g1 h=>(oC h (fun _ h=>⟨hl0,⟨ht0,(oC h (fun _ h=>⟨hl0,⟨g1,(oC h (fun _ h=>h) fun _ h=>(aE (fun _ hm=>⟨hc0,hm⟩) _ rfl hl0 dG ht0 (aM h_row) trivial h))⟩⟩) fun _ h=>h)⟩⟩) fun _ h=>(aE (fun _ hm=>⟨hc0,hm⟩) _ rfl hl0 dG ht0 (aM h_row) trivial h)))⟩⟩⟩) fun h=>(h trivial))
 ·rw[vc144]
  exact⟨h_columns,(oC h (fun _ h=>⟨h_row,(oC h (fun _ h=>(oC h (fun _ h=>h) fun _ h=>(aD (fun m hm=>⟨trivial,hm⟩) Z0 _ rfl (Int.natCast_nonneg 0) trivial (aF h (fun v0 h hv0=>h) (fun q0 h=>h))))) fun _ h=>h)⟩) fun _ h=>h)⟩
def c108:Con:=⟨[.dat TCS,.dat (Ty.sl TVS)],fun args hp K=>g2 (pD TCS) (pD (Ty.sl TVS)) (fun columns rows=>(Sm TCS columns)/\(Sm (Ty.sl TVS) rows)/\K (dB (M.fT columns rows)) []) args hp,.plain,false⟩
abbrev C108:Ctx:=cx [(144,c144),(178,c178)] 21 [] 0 false
def ann108:=an [[kp 3],[kp 35],[kp 547],[kp 35],[kp 262179],[kp 16],[kp 16]] [[kp 1]]
abbrev s108_0 (columns:LC) (rows:(List LV)) (i0:Int) (v0:Unit):St:=⟨[(0,.data TCS columns),(1,.data (Ty.sl TVS) rows),(5,dI i0)],[]⟩
abbrev LP108_0 (columns:LC) (rows:(List LV)) (m:Nat) (st_:St) (K:KX):Prop:=True/\bI (t:=TVS) (s108_0 columns rows) rows (F.jl columns rows) (fun v0:Unit=>True) (aR (fun v0:Unit=>True->K (.exit 0) (⟨[(0,.data TCS columns)],[]⟩:St)) (fun q0:Unit=>K .ret (⟨[(4,dB false)],[]⟩:St))) m st_
def L108 (columns:LC) (rows:(List LV)):aW:=lp1 0 (LP108_0 columns rows)
theorem vc108 (columns:LC) (rows:(List LV)) (K:KA):vcT C108 (L108 columns rows) ann108 f108 [.data TCS columns,.data (Ty.sl TVS) rows] [] (.dat Ty.bool) K =
 (∃m_,True/\bI (t:=TVS) (s108_0 columns rows) rows (F.jl columns rows) (fun v0:Unit=>True) (aR (fun v0:Unit=>True->(Sm TCS columns)/\K (dB (M.bD columns)) []) (fun q0:Unit=>K (dB false) [])) m_ (s108_0 columns rows Z0 ())):=by kernel_rfl
theorem lvc108_0 (columns:LC) (rows:(List LV))  (i0:Int) (v0:Unit) (m:Nat) (K:KX):lvT C108 (L108 columns rows) ann108 f108 0 0 (s108_0 columns rows i0 v0) m K =
 (cond (decide (i0<(rows.length:Int))) ((0<=i0)/\(i0<(rows.length:Int))/\(Sm TCS columns)/\(Sm TVS (nth (t:=TVS) rows i0))/\cond (!(M.bH columns (nth (t:=TVS) rows i0))) (K .ret (⟨[(4,dB false)],[]⟩:St)) (nxT (LP108_0 columns rows) m K (s108_0 columns rows (wrap64 (i0+Z1)) ()))) (K (.exit 0) (⟨[(0,.data TCS columns)],[]⟩:St))):=by kernel_rfl
theorem con108_ok:aN P 108 c108:=aP C108 func108 (kC con144_ok (kC con178_ok kN)) fun args hp K h0=>by
 obtain⟨columns,rows,rfl,rfl,h_columns,h_rows,hK⟩:=g2e h0
 have h:ok (F.qX columns rows) (fun r=>K (dB r) []):=ak (F.yR columns rows h_columns h_rows) hK
 refine⟨rfl,ann108,(L108 columns rows),(.dat Ty.bool),(aI (i0:=0) (by kernel_rfl) ?_),?_⟩
 ·rintro _ _ K ⟨hc0,i0,v0,rfl,hl0,rfl,hv0,h⟩
  exact cast (lvc108_0 _ _ _ _ _ _).symm (br (t:=TVS) hl0 h (fun ht0 h=>⟨hl0,⟨ht0,⟨h_columns,⟨(ay h_rows i0),(oC h (fun _ h=>h) fun _ h=>(aT (t:=TVS) (fun _ hm=>⟨hc0,hm⟩) _ rfl hl0 ht0 (aM h_rows) trivial h))⟩⟩⟩⟩) fun h=>(h trivial))
 ·rw[vc108]
  exact(aZ (t:=TVS) (fun m hm=>⟨trivial,hm⟩) _ rfl trivial (aF h (fun v0 h hv0=>⟨h_columns,h⟩) (fun q0 h=>h)))
def c48:Con:=⟨[.dat TTb],fun args hp K=>g1 (pD TTb) (fun tables=>(Sm TTb tables)/\K (dB (M.aA tables)) []) args hp,.plain,false⟩
abbrev C48:Ctx:=cx [(108,c108)] 34 [] 0 false
def ann48:=an [[kp 1],[kp 9],[kp 137],[kp 9],[kp 1073741833],[kp 4],[kp 4]] [[kp 1]]
abbrev s48_0 (tables:LTb) (i0:Int) (v0:Unit):St:=⟨[(0,.data TTb tables),(3,dI i0)],[]⟩
abbrev LP48_0 (tables:LTb) (m:Nat) (st_:St) (K:KX):Prop:=True/\bI (t:=TTable) (s48_0 tables) tables (F.gK tables) (fun v0:Unit=>True) (aR (fun v0:Unit=>True->K (.exit 0) (⟨[(0,.data TTb tables)],[]⟩:St)) (fun q0:Unit=>K .ret (⟨[(2,dB false)],[]⟩:St))) m st_
def L48 (tables:LTb):aW:=lp1 0 (LP48_0 tables)
theorem vc48 (tables:LTb) (K:KA):vcT C48 (L48 tables) ann48 f48 [.data TTb tables] [] (.dat Ty.bool) K =
 (∃m_,True/\bI (t:=TTable) (s48_0 tables) tables (F.gK tables) (fun v0:Unit=>True) (aR (fun v0:Unit=>True->K (dB (decide ((tables.length:Int)<=Z3))) []) (fun q0:Unit=>K (dB false) [])) m_ (s48_0 tables Z0 ())):=by kernel_rfl
theorem lvc48_0 (tables:LTb)  (i0:Int) (v0:Unit) (m:Nat) (K:KX):lvT C48 (L48 tables) ann48 f48 0 0 (s48_0 tables i0 v0) m K =
 (cond (decide (i0<(tables.length:Int))) ((0<=i0)/\(i0<(tables.length:Int))/\cond ((decide (Z6<((nT tables i0).2.1.length:Int)))==false) ((0<=i0)/\(i0<(tables.length:Int))/\(0<=i0)/\(i0<(tables.length:Int))/\(Sm TCS (nT tables i0).1)/\(Sm (Ty.sl TVS) (nT tables i0).2.1)/\cond (!(M.fT (nT tables i0).1 (nT tables i0).2.1)) (K .ret (⟨[(2,dB false)],[]⟩:St)) (nxT (LP48_0 tables) m K (s48_0 tables (wrap64 (i0+Z1)) ()))) (K .ret (⟨[(2,dB false)],[]⟩:St))) (K (.exit 0) (⟨[(0,.data TTb tables)],[]⟩:St))):=by kernel_rfl
theorem con48_ok:aN P 48 c48:=aP C48 func48 (kC con108_ok kN) fun args hp K h0=>by
 obtain⟨tables,rfl,rfl,h_tables,hK⟩:=g1e h0
 have h:ok (F.oA tables) (fun r=>K (dB r) []):=ak (F.wj tables h_tables) hK
 refine⟨rfl,ann48,(L48 tables),(.dat Ty.bool),(aI (i0:=0) (by kernel_rfl) ?_),?_⟩
 ·rintro _ _ K ⟨hc0,i0,v0,rfl,hl0,rfl,hv0,h⟩
  exact cast (lvc48_0 _ _ _ _ _).symm (br (t:=TTable) hl0 h (fun ht0 h=>⟨hl0,⟨ht0,(oC h (fun _ h=>⟨hl0,⟨ht0,⟨hl0,⟨ht0,⟨(ay h_tables i0).1,⟨(ay h_tables i0).2.1,(oC h (fun _ h=>h) fun _ h=>(aT (t:=TTable) (fun _ hm=>⟨hc0,hm⟩) _ rfl hl0 ht0 (aM h_tables) trivial h))⟩⟩⟩⟩⟩⟩) fun _ h=>h)⟩⟩) fun h=>(h trivial))
 ·rw[vc48]
  exact(aZ (t:=TTable) (fun m hm=>⟨trivial,hm⟩) _ rfl trivial (aF h (fun v0 h hv0=>h) (fun q0 h=>h)))
def c146:Con:=⟨[.dat TCS,.dat (Ty.sl au)],fun args hp K=>g2 (pD TCS) (pD (Ty.sl au)) (fun columns list=>(Sm TCS columns)/\(Sm (Ty.sl au) list)/\K (dB (M.bR columns list)) []) args hp,.plain,false⟩
abbrev C146:Ctx:=cx [(143,c143)] 24 [] 0 false
def ann146:=an [[kp 3],[kp 35],[kp 547],[kp 35],[kp 1048611],[kp 16],[kp 16]] [[kp 2]]
abbrev s146_0 (columns:LC) (list:LI) (i0:Int) (v0:Unit):St:=⟨[(0,.data TCS columns),(1,.data (Ty.sl au) list),(5,dI i0)],[]⟩
abbrev LP146_0 (columns:LC) (list:LI) (m:Nat) (st_:St) (K:KX):Prop:=True/\bI (t:=au) (s146_0 columns list) list (F.fL columns list) (fun v0:Unit=>True) (aR (fun v0:Unit=>True->K (.exit 0) (⟨[(1,.data (Ty.sl au) list)],[]⟩:St)) (fun q0:Unit=>K .ret (⟨[(4,dB false)],[]⟩:St))) m st_
def L146 (columns:LC) (list:LI):aW:=lp1 0 (LP146_0 columns list)
theorem vc146 (columns:LC) (list:LI) (K:KA):vcT C146 (L146 columns list) ann146 f146 [.data TCS columns,.data (Ty.sl au) list] [] (.dat Ty.bool) K =
 (∃m_,True/\bI (t:=au) (s146_0 columns list) list (F.fL columns list) (fun v0:Unit=>True) (aR (fun v0:Unit=>True->K (dB (M.inR (list.length:Int) Z1 Z4)) []) (fun q0:Unit=>K (dB false) [])) m_ (s146_0 columns list Z0 ())):=by kernel_rfl
theorem lvc146_0 (columns:LC) (list:LI)  (i0:Int) (v0:Unit) (m:Nat) (K:KX):lvT C146 (L146 columns list) ann146 f146 0 0 (s146_0 columns list i0 v0) m K =
 (cond (decide (i0<(list.length:Int))) ((0<=i0)/\(i0<(list.length:Int))/\cond (!(M.inR (nI list i0) Z0 (wrap64 ((columns.length:Int)-Z1)))) (K .ret (⟨[(4,dB false)],[]⟩:St)) (nxT (LP146_0 columns list) m K (s146_0 columns list (wrap64 (i0+Z1)) ()))) (K (.exit 0) (⟨[(1,.data (Ty.sl au) list)],[]⟩:St))):=by kernel_rfl
theorem con146_ok:aN P 146 c146:=aP C146 func146 (kC con143_ok kN) fun args hp K h0=>by
 obtain⟨columns,list,rfl,rfl,h_columns,h_list,hK⟩:=g2e h0
 have h:ok (F.lf columns list) (fun r=>K (dB r) []):=ak (F.tF columns list h_columns h_list) hK
 refine⟨rfl,ann146,(L146 columns list),(.dat Ty.bool),(aI (i0:=0) (by kernel_rfl) ?_),?_⟩
 ·rintro _ _ K ⟨hc0,i0,v0,rfl,hl0,rfl,hv0,h⟩
  exact cast (lvc146_0 _ _ _ _ _ _).symm (br (t:=au) hl0 h (fun ht0 h=>⟨hl0,⟨ht0,(oC h (fun _ h=>h) fun _ h=>(aT (t:=au) (fun _ hm=>⟨hc0,hm⟩) _ rfl hl0 ht0 (aM h_list) trivial h))⟩⟩) fun h=>(h trivial))
 ·rw[vc146]
  exact(aZ (t:=au) (fun m hm=>⟨trivial,hm⟩) _ rfl trivial (aF h (fun v0 h hv0=>h) (fun q0 h=>h)))
def c196:Con:=⟨[.dat TCS,.mv,.dat ax],fun args hp K=>hpN 0 .sh au (fun kinds=>CA (fun a0 a1 a2=>iY TCS a0 fun columns=>EV 0 a1 (iY ax a2 fun p=>(Sm TCS columns)/\(Sm (Ty.sl au) kinds)/\(Sm ax p)/\(kinds.length<=1000)/\(LD (M.wq columns kinds p) fun r=>K (.tup [.own 0 none,dB r.2]) [(0,.arr .sh au r.1)]))) args []) hp,.mv,false⟩
abbrev C196:Ctx:=cx [(143,c143),(223,c223)] 191 [] 0 true
def ann196:=an [[.fixRow 5 ax,kp 35],[kp 291],[kp 137438953763],[kp 192],[kp 1099511628067],[kp 3298534883619],[.keep [1,5,52]],[kp 192],[kp 192],[kp 1152922604118475043],[.keep [0,1,5,68]],[kp 192],[kp 192],[.keep [1,5,8,40,79]],[kp 770],[kp 192],[.keep [1,5,8,40,107]],[kp 1282],[kp 192],[.keep [1,8,40,137]],[.keep [1,8,40,137]],[kp 2306],[kp 192],[.keep [1,8,40,166]],[kp 192],[.keep [1,8,179]],[kp 192],[kp 192]] []
abbrev S196_0 (columns:LC) (kinds:LI) (p:ax.D) (K:KA):Prop:=(0<=Z0)/\(Z0<=(bz (wrap64 ((kinds.length:Int)-Z2)) Z0))/\((bz (wrap64 ((kinds.length:Int)-Z2)) Z0)<=(kinds.length:Int))/\((bz (wrap64 ((kinds.length:Int)-Z2)) Z0)=(bz (wrap64 ((kinds.length:Int)-Z2)) Z0))/\(Z0=0)/\(((bz (wrap64 ((kinds.length:Int)-Z2)) Z0).toNat+[Z1].length) * 8<=lim)/\K (.tup [.own 0 none,dB false]) [(0,.arr .sh au (kinds.take (bz (wrap64 ((kinds.length:Int)-Z2)) Z0).toNat++[Z1]))]
abbrev S196_1 (columns:LC) (kinds:LI) (p:ax.D) (K:KA):Prop:=(0<=Z0)/\(Z0<=(bz (wrap64 ((kinds.length:Int)-Z2)) Z0))/\((bz (wrap64 ((kinds.length:Int)-Z2)) Z0)<=(kinds.length:Int))/\((bz (wrap64 ((kinds.length:Int)-Z2)) Z0)=(bz (wrap64 ((kinds.length:Int)-Z2)) Z0))/\(Z0=0)/\(((bz (wrap64 ((kinds.length:Int)-Z2)) Z0).toNat+[Z3].length) * 8<=lim)/\K (.tup [.own 0 none,dB false]) [(0,.arr .sh au (kinds.take (bz (wrap64 ((kinds.length:Int)-Z2)) Z0).toNat++[Z3]))]
abbrev S196_2 (columns:LC) (kinds:LI) (p:ax.D) (K:KA):Prop:=(S196_1 columns kinds p K)
abbrev S196_3 (columns:LC) (kinds:LI) (p:ax.D) (K:KA):Prop:=cond ((decide (Z1<(kinds.length:Int)))==true) ((0<=wrap64 ((kinds.length:Int)-Z1))/\(wrap64 ((kinds.length:Int)-Z1)<(kinds.length:Int))/\cond ((decide ((nI kinds (wrap64 ((kinds.length:Int)-Z1)))=Z3))==true) ((0<=wrap64 ((kinds.length:Int)-Z2))/\(wrap64 ((kinds.length:Int)-Z2)<(kinds.length:Int))/\(0<=Z0)/\(Z0<=(bz (wrap64 ((kinds.length:Int)-Z2)) Z0))/\((bz (wrap64 ((kinds.length:Int)-Z2)) Z0)<=(kinds.length:Int))/\((bz (wrap64 ((kinds.length:Int)-Z2)) Z0)=(bz (wrap64 ((kinds.length:Int)-Z2)) Z0))/\(Z0=0)/\(((bz (wrap64 ((kinds.length:Int)-Z2)) Z0).toNat+[Z3].length) * 8<=lim)/\K (.tup [.own 0 none,dB (decide ((nI kinds (wrap64 ((kinds.length:Int)-Z2)))=Z3))]) [(0,.arr .sh au (kinds.take (bz (wrap64 ((kinds.length:Int)-Z2)) Z0).toNat++[Z3]))]) (S196_2 columns kinds p K)) (S196_2 columns kinds p K)
abbrev S196_4 (columns:LC) (kinds:LI) (p:ax.D) (K:KA):Prop:=cond (decide (p.1=(7:Int))) (cond ((decide (Z0<(kinds.length:Int)))==true) ((0<=wrap64 ((kinds.length:Int)-Z1))/\(wrap64 ((kinds.length:Int)-Z1)<(kinds.length:Int))/\K (.tup [.own 0 none,dB (decide ((nI kinds (wrap64 ((kinds.length:Int)-Z1)))=Z3))]) [(0,.arr .sh au kinds)]) (K (.tup [.own 0 none,dB false]) [(0,.arr .sh au kinds)])) (cond (decide (p.1=(8:Int))) ((0<=Z0)/\(Z0<=(bz (wrap64 ((kinds.length:Int)-Z1)) Z0))/\((bz (wrap64 ((kinds.length:Int)-Z1)) Z0)<=(kinds.length:Int))/\((bz (wrap64 ((kinds.length:Int)-Z1)) Z0)=(bz (wrap64 ((kinds.length:Int)-Z1)) Z0))/\(Z0=0)/\(((bz (wrap64 ((kinds.length:Int)-Z1)) Z0).toNat+[Z3].length) * 8<=lim)/\K (.tup [.own 0 none,dB (decide (Z0<(kinds.length:Int)))]) [(0,.arr .sh au (kinds.take (bz (wrap64 ((kinds.length:Int)-Z1)) Z0).toNat++[Z3]))]) (K (.tup [.own 0 none,dB false]) [(0,.arr .sh au kinds)]))
abbrev S196_5 (columns:LC) (kinds:LI) (p:ax.D) (K:KA):Prop:=cond (decide (p.1=Z1)) ((Sm aa p.2.2.1)/\cond ((!(M.aO p.2.2.1))==false) (cond (decide (p.2.2.1.1=Z0)) (K (.tup [.own 0 none,dB false]) [(0,.arr .sh au kinds)]) (((kinds.length+[p.2.2.1.1].length) * 8<=lim)/\K (.tup [.own 0 none,dB true]) [(0,.arr .sh au (kinds++[p.2.2.1.1]))])) (K (.tup [.own 0 none,dB false]) [(0,.arr .sh au kinds)])) (cond (decide (p.1=Z2)) (cond (!(M.inR p.2.1 Z0 (wrap64 ((columns.length:Int)-Z1)))) (K (.tup [.own 0 none,dB false]) [(0,.arr .sh au kinds)]) ((0<=p.2.1)/\(p.2.1<(columns.length:Int))/\((kinds.length+[(nC columns p.2.1).1].length) * 8<=lim)/\K (.tup [.own 0 none,dB true]) [(0,.arr .sh au (kinds++[(nC columns p.2.1).1]))])) (cond (decide (p.1=Z3)) (cond ((decide (Z1<(kinds.length:Int)))==true) ((0<=wrap64 ((kinds.length:Int)-Z1))/\(wrap64 ((kinds.length:Int)-Z1)<(kinds.length:Int))/\cond ((decide ((nI kinds (wrap64 ((kinds.length:Int)-Z1)))=Z1))==true) ((0<=wrap64 ((kinds.length:Int)-Z2))/\(wrap64 ((kinds.length:Int)-Z2)<(kinds.length:Int))/\(0<=Z0)/\(Z0<=(bz (wrap64 ((kinds.length:Int)-Z2)) Z0))/\((bz (wrap64 ((kinds.length:Int)-Z2)) Z0)<=(kinds.length:Int))/\((bz (wrap64 ((kinds.length:Int)-Z2)) Z0)=(bz (wrap64 ((kinds.length:Int)-Z2)) Z0))/\(Z0=0)/\(((bz (wrap64 ((kinds.length:Int)-Z2)) Z0).toNat+[Z1].length) * 8<=lim)/\K (.tup [.own 0 none,dB (decide ((nI kinds (wrap64 ((kinds.length:Int)-Z2)))=Z1))]) [(0,.arr .sh au (kinds.take (bz (wrap64 ((kinds.length:Int)-Z2)) Z0).toNat++[Z1]))]) (S196_0 columns kinds p K)) (S196_0 columns kinds p K)) (cond (decide (p.1=Z4)) (cond ((decide (Z1<(kinds.length:Int)))==true) ((0<=wrap64 ((kinds.length:Int)-Z1))/\(wrap64 ((kinds.length:Int)-Z1)<(kinds.length:Int))/\(0<=wrap64 ((kinds.length:Int)-Z2))/\(wrap64 ((kinds.length:Int)-Z2)<(kinds.length:Int))/\cond ((decide ((nI kinds (wrap64 ((kinds.length:Int)-Z1)))=(nI kinds (wrap64 ((kinds.length:Int)-Z2)))))==true) ((0<=Z0)/\(Z0<=(bz (wrap64 ((kinds.length:Int)-Z2)) Z0))/\((bz (wrap64 ((kinds.length:Int)-Z2)) Z0)<=(kinds.length:Int))/\((bz (wrap64 ((kinds.length:Int)-Z2)) Z0)=(bz (wrap64 ((kinds.length:Int)-Z2)) Z0))/\(Z0=0)/\(((bz (wrap64 ((kinds.length:Int)-Z2)) Z0).toNat+[Z3].length) * 8<=lim)/\K (.tup [.own 0 none,dB (M.inR p.2.1 Z1 Z4)]) [(0,.arr .sh au (kinds.take (bz (wrap64 ((kinds.length:Int)-Z2)) Z0).toNat++[Z3]))]) (S196_2 columns kinds p K)) (S196_2 columns kinds p K)) (cond (decide (p.1=Z5)) (cond (decide (p.1=Z5)) (S196_3 columns kinds p K) (S196_4 columns kinds p K)) (cond (decide (p.1=Z6)) (S196_3 columns kinds p K) (S196_4 columns kinds p K))))))
abbrev S196_6 (columns:LC) (kinds:LI) (p:ax.D) (K:KA):Prop:=cond ((!decide (p.1=Z2))==true) (cond ((!decide (p.1=Z4))==true) (cond (!decide (p.2.1=Z0)) (K (.tup [.own 0 none,dB false]) [(0,.arr .sh au kinds)]) (S196_5 columns kinds p K)) (S196_5 columns kinds p K)) (S196_5 columns kinds p K)
theorem vc196 (columns:LC) (kinds:LI) (p:ax.D) (K:KA):vcT C196 aq ann196 f196 [.data TCS columns,.own 0 none,.data ax p] [(0,.arr .sh au kinds)] .raw K =
 (cond ((!decide (p.1=Z1))==true) (cond ((!(Ty.beq aa p.2.2.1 (Z0,(Z0,((⟨#[]⟩:ByteArray),())))))==false) (S196_6 columns kinds p K) (K (.tup [.own 0 none,dB false]) [(0,.arr .sh au kinds)])) (S196_6 columns kinds p K)):=by kernel_rfl
theorem con196_ok:aN P 196 c196:=aP C196 func196 (kC con143_ok (kC con223_ok kN)) fun args hp K h0=>by
 unfold c196 at h0
 dsimp only at h0
 obtain⟨kinds,rfl,h00⟩:=ij (n:=0) (d:=.sh) (t:=au) h0
 obtain⟨a0,a1,a2,rfl,_,h1⟩:=tP h00
 obtain⟨columns,rfl,h2⟩:=bV h1
 obtain⟨rfl,h3⟩:=zh h2
 obtain⟨p,rfl,h4⟩:=bV h3
 obtain⟨h_columns,h_kinds,h_p,p0,hK⟩:=h4
 have h:ok (F.kA columns kinds p) (fun r=>K (.tup [.own 0 none,dB r.2]) [(0,.arr .sh au r.1)]):=ak (F.zH columns kinds p h_columns h_kinds h_p p0) (hK _ rfl)
 refine⟨rfl,ann196,aq,.raw,(az (by kernel_rfl)),?_⟩
 ·rw[vc196]
  exact(oC h (fun b_1 h=>(oC h (fun _ h=>(oC h (fun b_3 h=>(oC h (fun b_4 h=>(oC h (fun _ h=>h) fun _ h=>(dz (bnt (bet b_1)) (dz (bnt (bet b_3)) (oC h (fun _ h=>(oC h (fun _ h=>(oG h fun _ h=>(oG h fun _ h=>(oC h (fun _ h=>(oG h fun _ h=>(oG h fun _ h=>⟨(Int.natCast_nonneg 0),(oG h fun _ h=>(oG h fun _ h=>⟨rfl,⟨rfl,(oG h fun _ h=>h)⟩⟩))⟩))) fun _ h=>⟨(Int.natCast_nonneg 0),(oG h fun _ h=>(oG h fun _ h=>⟨rfl,⟨rfl,(oG h fun _ h=>h)⟩⟩))⟩)))) fun _ h=>⟨(Int.natCast_nonneg 0),(oG h fun _ h=>(oG h fun _ h=>⟨rfl,⟨rfl,(oG h fun _ h=>h)⟩⟩))⟩)) fun _ h=>(dz (bnt (bet b_4)) (oC h (fun b_25 h=>(fJ b_25 (oC h (fun _ h=>(oG h fun _ h=>(oG h fun _ h=>(oC h (fun _ h=>(oG h fun _ h=>(oG h fun _ h=>⟨(Int.natCast_nonneg 0),(oG h fun _ h=>(oG h fun _ h=>⟨rfl,⟨rfl,(oG h fun _ h=>h)⟩⟩))⟩))) fun _ h=>⟨(Int.natCast_nonneg 0),(oG h fun _ h=>(oG h fun _ h=>⟨rfl,⟨rfl,(oG h fun _ h=>h)⟩⟩))⟩)))) fun _ h=>⟨(Int.natCast_nonneg 0),(oG h fun _ h=>(oG h fun _ h=>⟨rfl,⟨rfl,(oG h fun _ h=>h)⟩⟩))⟩))) fun _ h=>(oC h (fun _ h=>(oC h (fun _ h=>(oG h fun _ h=>(oG h fun _ h=>(oC h (fun _ h=>(oG h fun _ h=>(oG h fun _ h=>⟨(Int.natCast_nonneg 0),(oG h fun _ h=>(oG h fun _ h=>⟨rfl,⟨rfl,(oG h fun _ h=>h)⟩⟩))⟩))) fun _ h=>⟨(Int.natCast_nonneg 0),(oG h fun _ h=>(oG h fun _ h=>⟨rfl,⟨rfl,(oG h fun _ h=>h)⟩⟩))⟩)))) fun _ h=>⟨(Int.natCast_nonneg 0),(oG h fun _ h=>(oG h fun _ h=>⟨rfl,⟨rfl,(oG h fun _ h=>h)⟩⟩))⟩)) fun _ h=>(oC h (fun _ h=>(oC h (fun _ h=>(oG h fun _ h=>(oG h fun _ h=>h))) fun _ h=>h)) fun _ h=>(oC h (fun _ h=>⟨(Int.natCast_nonneg 0),(oG h fun _ h=>(oG h fun _ h=>⟨rfl,⟨rfl,(oG h fun _ h=>h)⟩⟩))⟩) fun _ h=>h)))))))))) fun b_4 h=>(dz (bnt (bet b_1)) (dz (bnt (bet b_3)) (dz (pZ (bnf (bef b_4)) (by decide)) (fJ (bnf (bef b_4)) (oC h (fun _ h=>(oG h fun _ h=>(oG h fun _ h=>(oG h fun _ h=>(oG h fun _ h=>(oC h (fun _ h=>⟨(Int.natCast_nonneg 0),(oG h fun _ h=>(oG h fun _ h=>⟨rfl,⟨rfl,(oG h fun _ h=>h)⟩⟩))⟩) fun _ h=>⟨(Int.natCast_nonneg 0),(oG h fun _ h=>(oG h fun _ h=>⟨rfl,⟨rfl,(oG h fun _ h=>h)⟩⟩))⟩)))))) fun _ h=>⟨(Int.natCast_nonneg 0),(oG h fun _ h=>(oG h fun _ h=>⟨rfl,⟨rfl,(oG h fun _ h=>h)⟩⟩))⟩))))))) fun b_3 h=>(dz (bnt (bet b_1)) (fJ (bnf (bef b_3)) (oC h (fun _ h=>h) fun b_110 h=>⟨(jD (bnf b_110)),⟨(ov (bnf b_110)),⟨(rZ h_kinds (zS trivial) rfl),h⟩⟩⟩))))) fun _ h=>h)) fun b_1 h=>(fJ (uet (unt (pZ (bnf (bef b_1)) (by decide)))) (fJ (uet (unt (pZ (bnf (bef b_1)) (by decide)))) (oC h (fun _ h=>h) fun _ h=>(fJ (bnf (bef b_1)) ⟨h_p.2.2.1,(oC h (fun _ h=>(oC h (fun _ h=>h) fun _ h=>⟨(rZ h_kinds (zS trivial) rfl),h⟩)) fun _ h=>h)⟩)))))
def c147:Con:=⟨[.dat TCS,.dat TPS],fun args hp K=>g2 (pD TCS) (pD TPS) (fun columns e=>(Sm TCS columns)/\(Sm TPS e)/\K (dI (M.cV columns e)) []) args hp,.plain,false⟩
abbrev C147:Ctx:=cx [(178,c178),(196,c196)] 46 [] 0 false
def ann147:=an [[kp 3],[kp 32771],[kp 16],[kp 35],[kp 99],[kp 227],[kp 8388835],[kp 227],[kp 227],[.keep [5,42]],[kp 16],[kp 16]] [[kp 96]]
abbrev s147_0 (columns:LC) (e:LPt) (v0:Bool×Int×LI):St:=⟨[(0,.data TCS columns),(1,.data TPS e),(5,.own 16 none),(6,dB v0.1),(7,dI v0.2.1)],[(16,.arr .sh au v0.2.2)]⟩
abbrev LP147_0 (columns:LC) (e:LPt) (m:Nat) (st_:St) (K:KX):Prop:=True/\qt (s147_0 columns e) (F.cF columns e) (fun v0:Bool×Int×LI=>True) (fun e0:Bool×LI=>True->K (.exit 0) (⟨[(5,.own 16 none),(6,dB e0.1)],[(16,.arr .sh au e0.2)]⟩:St)) m st_
def L147 (columns:LC) (e:LPt):aW:=lp1 0 (LP147_0 columns e)
theorem vc147 (columns:LC) (e:LPt) (K:KA):vcT C147 (L147 columns e) ann147 f147 [.data TCS columns,.data TPS e] [] (.dat au) K =
 ((Sm TCS columns)/\cond ((!(M.bD columns))==false) (cond (decide ((12:Int)<(e.length:Int))) (K (dI (-1:Int)) []) (∃m_,True/\qt (s147_0 columns e) (F.cF columns e) (fun v0:Bool×Int×LI=>True) (fun e0:Bool×LI=>True->cond ((!e0.1)==false) (cond (!decide ((e0.2.length:Int)=Z1)) (K (dI (-1:Int)) []) ((0<=Z0)/\(Z0<(e0.2.length:Int))/\K (dI (nI e0.2 Z0)) [])) (K (dI (-1:Int)) [])) m_ (s147_0 columns e (true,Z0,[])))) (K (dI (-1:Int)) [])):=by kernel_rfl
theorem lvc147_0 (columns:LC) (e:LPt)  (v0:Bool×Int×LI) (m:Nat) (K:KX):lvT C147 (L147 columns e) ann147 f147 0 0 (s147_0 columns e v0) m K =
 (cond ((decide (v0.2.1<(e.length:Int)))==true) (cond v0.1 ((0<=v0.2.1)/\(v0.2.1<(e.length:Int))/\(Sm TCS columns)/\(Sm (Ty.sl au) v0.2.2)/\(Sm ax (nP e v0.2.1))/\(v0.2.2.length<=1000)/\(LD (M.wq columns v0.2.2 (nP e v0.2.1)) fun r1=>(nxT (LP147_0 columns e) m K (s147_0 columns e (r1.2,wrap64 (v0.2.1+Z1),r1.1))))) (K (.exit 0) (⟨[(5,.own 16 none),(6,dB v0.1)],[(16,.arr .sh au v0.2.2)]⟩:St))) (K (.exit 0) (⟨[(5,.own 16 none),(6,dB v0.1)],[(16,.arr .sh au v0.2.2)]⟩:St))):=by kernel_rfl
theorem con147_ok:aN P 147 c147:=aP C147 func147 (kC con178_ok (kC con196_ok kN)) fun args hp K h0=>by
 obtain⟨columns,e,rfl,rfl,h_columns,h_e,hK⟩:=g2e h0
 have h:ok (F.nW columns e) (fun r=>K (dI r) []):=ak (F.wN columns e h_columns h_e) hK
 refine⟨rfl,ann147,(L147 columns e),(.dat au),(aI (i0:=0) (by kernel_rfl) ?_),?_⟩
 ·rintro _ _ K ⟨hc0,v0,rfl,hv0,h⟩
  exact cast (lvc147_0 _ _ _ _ _).symm (me h (fun m1 hm0 h=>(oC h (fun _ h=>(oC h (fun _ h=>(oG h fun _ h=>(oG h fun _ h=>⟨h_columns,(oG h fun _ h=>⟨(ay h_e v0.2.1),(oG h fun _ h=>(oL h fun _ _ h=>(mw (fun _ hm=>⟨hc0,hm⟩) hm0 _ rfl trivial h)))⟩)⟩))) fun _ h=>((qH h :) trivial))) fun _ h=>((qH h :) trivial))))
 ·rw[vc147]
  exact⟨h_columns,(oC h (fun _ h=>(oC h (fun _ h=>h) fun _ h=>(kG (fun m hm=>⟨trivial,hm⟩) _ rfl trivial (yH h (fun e0 h hv0=>(oC h (fun _ h=>(oC h (fun _ h=>h) fun _ h=>⟨(Int.natCast_nonneg 0),(oG h fun _ h=>h)⟩)) fun _ h=>h)))))) fun _ h=>h)⟩
def c80:Con:=⟨[.dat TTb,.dat TBond],fun args hp K=>g2 (pD TTb) (pD TBond) (fun tables b=>(Sm TTb tables)/\(Sm TBond b)/\K (dB (M.aA tables&&M.aX tables b)) []) args hp,.plain,false⟩
abbrev C80:Ctx:=cx [(48,c48),(143,c143),(146,c146),(147,c147)] 158 [] 0 false
def ann80:=an [[.fixRow 3 TBond,kp 9],[kp 262153],[kp 16],[kp 41],[kp 67108905],[kp 201326633],[kp 16],[kp 36028797086072873],[kp 16],[.keep [0,3,5,84]],[.keep [0,3,5,126]],[kp 16],[kp 105],[.keep [0,3,5,6,131]],[kp 105],[.keep [0,3,5,6,157]],[kp 16],[kp 16],[kp 16]] [[],[kp 0]]
abbrev s80_1 (tables:LTb) (b:TBond.D) (i1:Int) (v1:Unit):St:=⟨[(0,.data TTb tables),(3,.adr TBond b),(5,.data TCS (nT tables b.2.1).1),(6,dI i1)],[]⟩
abbrev LP80_1 (tables:LTb) (b:TBond.D) (m:Nat) (st_:St) (K:KX):Prop:=True/\aY (s80_1 tables b) Z0 (b.2.2.1.length:Int) (F.js tables b) (fun v1:Unit=>True) (aR (fun v1:Unit=>True->K (.exit 1) (⟨[],[]⟩:St)) (fun q1:Unit=>K .ret (⟨[(4,dB false)],[]⟩:St))) m st_
def L80 (tables:LTb) (b:TBond.D):aW:=lp1 1 (LP80_1 tables b)
theorem vc80 (tables:LTb) (b:TBond.D) (K:KA):vcT C80 (L80 tables b) ann80 f80 [.data TTb tables,.data TBond b] [] (.dat Ty.bool) K =
 ((Sm TTb tables)/\cond ((!(M.aA tables))==false) (cond (!(M.inR b.2.1 Z0 (wrap64 ((tables.length:Int)-Z1)))) (K (dB false) []) ((0<=b.2.1)/\(b.2.1<(tables.length:Int))/\cond (decide (b.1=Z1)) ((Sm TCS (nT tables b.2.1).1)/\(Sm (Ty.sl au) b.2.2.1)/\cond ((M.bR (nT tables b.2.1).1 b.2.2.1)==true) (cond ((decide (b.2.2.2.1=Z0))==true) (cond ((decide ((b.2.2.2.2.1.length:Int)=Z0))==true) (cond ((!b.2.2.2.2.2.1)==true) (K (dB (decide ((b.2.2.2.2.2.2.1.length:Int)=Z0))) []) (K (dB false) [])) (K (dB false) [])) (K (dB false) [])) (K (dB false) [])) (cond (decide (b.1=Z3)) ((Sm TCS (nT tables b.2.1).1)/\(Sm TPS b.2.2.2.2.2.2.1)/\cond ((decide ((M.cV (nT tables b.2.1).1 b.2.2.2.2.2.2.1)=Z3))==true) (cond ((decide ((b.2.2.1.length:Int)=Z0))==true) (cond ((decide (b.2.2.2.1=Z0))==true) (cond ((decide ((b.2.2.2.2.1.length:Int)=Z0))==true) (K (dB (!b.2.2.2.2.2.1)) []) (K (dB false) [])) (K (dB false) [])) (K (dB false) [])) (K (dB false) [])) (cond (decide (b.1=Z2)) (cond ((!(M.inR b.2.2.2.1 Z0 (wrap64 ((tables.length:Int)-Z1))))==false) ((Sm TCS (nT tables b.2.1).1)/\(Sm (Ty.sl au) b.2.2.1)/\cond ((!(M.bR (nT tables b.2.1).1 b.2.2.1))==false) ((0<=b.2.2.2.1)/\(b.2.2.2.1<(tables.length:Int))/\(Sm TCS (nT tables b.2.2.2.1).1)/\(Sm (Ty.sl au) b.2.2.2.2.1)/\cond ((!(M.bR (nT tables b.2.2.2.1).1 b.2.2.2.2.1))==false) (cond ((!decide ((b.2.2.1.length:Int)=(b.2.2.2.2.1.length:Int)))==false) (cond (decide (Z0<(b.2.2.2.2.2.2.1.length:Int))) (K (dB false) []) (∃m_,True/\aY (s80_1 tables b) Z0 (b.2.2.1.length:Int) (F.js tables b) (fun v1:Unit=>True) (aR (fun v1:Unit=>True->K (dB true) []) (fun q1:Unit=>K (dB false) [])) m_ (s80_1 tables b Z0 ()))) (K (dB false) [])) (K (dB false) [])) (K (dB false) [])) (K (dB false) [])) (K (dB false) []))))) (K (dB false) [])):=by kernel_rfl
theorem lvc80_0 (tables:LTb) (b:TBond.D)  (i1:Int) (v1:Unit) (m:Nat) (K:KX):lvT C80 (L80 tables b) ann80 f80 0 1 (s80_1 tables b i1 v1) m K =
 (cond (decide (i1<(b.2.2.1.length:Int))) ((0<=i1)/\(i1<(b.2.2.1.length:Int))/\(0<=(nI b.2.2.1 i1))/\((nI b.2.2.1 i1)<((nT tables b.2.1).1.length:Int))/\(0<=b.2.2.2.1)/\(b.2.2.2.1<(tables.length:Int))/\(0<=i1)/\(i1<(b.2.2.2.2.1.length:Int))/\(0<=(nI b.2.2.2.2.1 i1))/\((nI b.2.2.2.2.1 i1)<((nT tables b.2.2.2.1).1.length:Int))/\cond (!decide ((nC (nT tables b.2.1).1 (nI b.2.2.1 i1)).1=(nC (nT tables b.2.2.2.1).1 (nI b.2.2.2.2.1 i1)).1)) (K .ret (⟨[(4,dB false)],[]⟩:St)) (nxT (LP80_1 tables b) m K (s80_1 tables b (wrap64 (i1+Z1)) ()))) (K (.exit 1) (⟨[],[]⟩:St))):=by kernel_rfl
theorem con80_ok:aN P 80 c80:=aP C80 func80 (kC con48_ok (kC con143_ok (kC con146_ok (kC con147_ok kN)))) fun args hp K h0=>by
 obtain⟨tables,b,rfl,rfl,h_tables,h_b,hK⟩:=g2e h0
 have h:ok (F.qE tables b) (fun r=>K (dB r) []):=ak (F.zy tables b h_tables h_b) hK
 refine⟨rfl,ann80,(L80 tables b),(.dat Ty.bool),(aI (i0:=1) (by kernel_rfl) ?_),?_⟩
 ·rintro _ _ K ⟨hc1,i1,v1,rfl,hl1,rfl,hv1,h⟩
  exact cast (lvc80_0 _ _ _ _ _ _).symm (aL h (fun ht1 h=>⟨hl1,⟨ht1,(oG h fun _ h=>(oG h fun _ h=>(oG h fun _ h=>(oG h fun _ h=>⟨hl1,(oG h fun _ h=>(oG h fun _ h=>(oG h fun _ h=>(oC h (fun _ h=>h) fun _ h=>(aE (fun _ hm=>⟨hc1,hm⟩) _ rfl hl1 dG ht1 (aM h_b.2.2.1) trivial h)))))⟩))))⟩⟩) fun h=>(h trivial))
 ·rw[vc80]
  exact⟨h_tables,(oC h (fun _ h=>(oC h (fun _ h=>h) fun b_2 h=>⟨(jD (bnf b_2)),⟨(ov (bnf b_2)),(oC h (fun _ h=>⟨(ay h_tables b.2.1).1,⟨h_b.2.2.1,(oC h (fun _ h=>(oC h (fun _ h=>(oC h (fun _ h=>(oC h (fun _ h=>h) fun _ h=>h)) fun _ h=>h)) fun _ h=>h)) fun _ h=>h)⟩⟩) fun _ h=>(oC h (fun _ h=>⟨(ay h_tables b.2.1).1,⟨h_b.2.2.2.2.2.2.1,(oC h (fun _ h=>(oC h (fun _ h=>(oC h (fun _ h=>(oC h (fun _ h=>h) fun _ h=>h)) fun _ h=>h)) fun _ h=>h)) fun _ h=>h)⟩⟩) fun _ h=>(oC h (fun _ h=>(oC h (fun b_14 h=>⟨(ay h_tables b.2.1).1,⟨h_b.2.2.1,(oC h (fun _ h=>⟨(jD (bnf (bgt b_14))),⟨(ov (bnf (bgt b_14))),⟨(ay h_tables b.2.2.2.1).1,⟨h_b.2.2.2.2.1,(oC h (fun _ h=>(oC h (fun _ h=>(oC h (fun _ h=>h) fun _ h=>(aD (fun m hm=>⟨trivial,hm⟩) Z0 _ rfl (Int.natCast_nonneg 0) trivial (aF h (fun v1 h hv1=>h) (fun q1 h=>h))))) fun _ h=>h)) fun _ h=>h)⟩⟩⟩⟩) fun _ h=>h)⟩⟩) fun _ h=>h)) fun _ h=>h)))⟩⟩)) fun _ h=>h)⟩
def c150:Con:=⟨[.dat au],fun args hp K=>g1 (pD au) (fun truth=>(LD (M.valueOf truth) fun r=>K (.data aa r) [])) args hp,.plain,false⟩
abbrev C150:Ctx:=cx [] 12 [] 0 false
def ann150:=an [[kp 5],[kp 261],[kp 4],[kp 4]] []
theorem vc150 (truth:Int) (K:KA):vcT C150 aq ann150 f150 [dI truth] [] (.dat aa) K =
 (cond ((decide (truth=Z0))==false) (cond (decide (truth=Z1)) (K (.data aa (Z3,(truth,((⟨#[]⟩:ByteArray),())))) []) (K (.data aa (Z0,(Z0,((⟨#[]⟩:ByteArray),())))) [])) (K (.data aa (Z3,(truth,((⟨#[]⟩:ByteArray),())))) [])):=by kernel_rfl
theorem con150_ok:aN P 150 c150:=aP C150 func150 kN fun args hp K h0=>by
 obtain⟨truth,rfl,rfl,hK⟩:=g1e h0
 have h:ok (F.pN truth) (fun r=>K (.data aa r) []):=ak (F.xR truth) (hK _ rfl)
 refine⟨rfl,ann150,aq,(.dat aa),(az (by kernel_rfl)),?_⟩
 ·rw[vc150]
  exact(oC h (fun _ h=>(oC h (fun _ h=>h) fun _ h=>h)) fun _ h=>h)
def c224:Con:=⟨[.dat aa,.dat aa],fun args hp K=>g2 (pD aa) (pD aa) (fun a b=>(Sm aa a)/\(Sm aa b)/\(LD (M.sum a b) fun r=>K (.data aa r) [])) args hp,.plain,false⟩
abbrev C224:Ctx:=cx [(143,c143)] 27 [] 0 false
def ann224:=an [[.fixRow 2 aa,.fixRow 3 aa,kp 28],[kp 60],[kp 8388656],[kp 16],[kp 16]] []
theorem vc224 (a:aa.D) (b:aa.D) (K:KA):vcT C224 aq ann224 f224 [.data aa a,.data aa b] [] (.dat aa) K =
 (cond ((decide (a.1=Z0))==false) (cond ((decide (b.1=Z0))==false) (cond (!(M.inR (wrap64 (a.2.1+b.2.1)) (-9999:Int) (9999:Int))) (K (.data aa (Z0,(Z0,((⟨#[]⟩:ByteArray),())))) []) (K (.data aa (Z1,(wrap64 (a.2.1+b.2.1),((⟨#[]⟩:ByteArray),())))) [])) (K (.data aa (Z0,(Z0,((⟨#[]⟩:ByteArray),())))) [])) (K (.data aa (Z0,(Z0,((⟨#[]⟩:ByteArray),())))) [])):=by kernel_rfl
theorem con224_ok:aN P 224 c224:=aP C224 func224 (kC con143_ok kN) fun args hp K h0=>by
 obtain⟨a,b,rfl,rfl,h_a,h_b,hK⟩:=g2e h0
 have h:ok (F.sW a b) (fun r=>K (.data aa r) []):=ak (F.Av a b h_a h_b) (hK _ rfl)
 refine⟨rfl,ann224,aq,(.dat aa),(az (by kernel_rfl)),?_⟩
 ·rw[vc224]
  exact(oC h (fun _ h=>(oC h (fun _ h=>(oC h (fun _ h=>h) fun _ h=>h)) fun _ h=>h)) fun _ h=>h)
def c230:Con:=⟨[.dat Ty.bool],fun args hp K=>g1 (pD Ty.bool) (fun b=>K (dI (M.bool b)) []) args hp,.plain,false⟩
abbrev C230:Ctx:=cx [] 4 [] 0 false
def ann230:=an [[kp 1],[kp 8],[kp 4],[kp 4]] []
theorem vc230 (b:Bool) (K:KA):vcT C230 aq ann230 f230 [dB b] [] (.dat au) K =
 (cond b (K (dI Z1) []) (K (dI Z0) [])):=by kernel_rfl
theorem con230_ok:aN P 230 c230:=aP C230 func230 kN fun args hp K h0=>by
 obtain⟨b,rfl,rfl,hK⟩:=g1e h0
 have h:ok (F.rD b) (fun r=>K (dI r) []):=ak (F.yY b) hK
 refine⟨rfl,ann230,aq,(.dat au),(az (by kernel_rfl)),?_⟩
 ·rw[vc230]
  exact(oC h (fun _ h=>h) fun _ h=>h)
def c258:Con:=⟨[.dat au,.dat au],fun args hp K=>g2 (pD au) (pD au) (fun a b=>K (dI (M.less a b)) []) args hp,.plain,false⟩
abbrev C258:Ctx:=cx [] 8 [] 0 false
def ann258:=an [[kp 3],[kp 128],[kp 16],[kp 16]] []
theorem vc258 (a:Int) (b:Int) (K:KA):vcT C258 aq ann258 f258 [dI a,dI b] [] (.dat au) K =
 (cond (decide (a<b)) (K (dI Z1) []) (K (dI Z0) [])):=by kernel_rfl
theorem con258_ok:aN P 258 c258:=aP C258 func258 kN fun args hp K h0=>by
 obtain⟨a,b,rfl,rfl,hK⟩:=g2e h0
 have h:ok (F.qT a b) (fun r=>K (dI r) []):=ak (F.zY a b) hK
 refine⟨rfl,ann258,aq,(.dat au),(az (by kernel_rfl)),?_⟩
 ·rw[vc258]
  exact(oC h (fun _ h=>h) fun _ h=>h)
def c259:Con:=⟨[.dat Ty.str,.dat Ty.str],fun args hp K=>g2 (pD Ty.str) (pD Ty.str) (fun a b=>(Sm Ty.str a)/\(Sm Ty.str b)/\K (dI (M.vG a b)) []) args hp,.plain,false⟩
abbrev C259:Ctx:=cx [] 11 [] 0 false
def ann259:=an [[kp 3],[kp 131],[kp 16],[kp 1024],[kp 16],[kp 16]] []
theorem vc259 (a:ByteArray) (b:ByteArray) (K:KA):vcT C259 aq ann259 f259 [.data Ty.str a,.data Ty.str b] [] (.dat au) K =
 (cond (Op.bytesLess a.toList b.toList) (K (dI (-1:Int)) []) (cond (!(Op.bytesLess a.toList b.toList||decide (a=b))) (K (dI Z1) []) (K (dI Z0) []))):=by kernel_rfl
theorem con259_ok:aN P 259 c259:=aP C259 func259 kN fun args hp K h0=>by
 obtain⟨a,b,rfl,rfl,h_a,h_b,hK⟩:=g2e h0
 have h:ok (F.tW a b) (fun r=>K (dI r) []):=ak (F.AM a b h_a h_b) hK
 refine⟨rfl,ann259,aq,(.dat au),(az (by kernel_rfl)),?_⟩
 ·rw[vc259]
  exact(oC h (fun _ h=>h) fun _ h=>(oC h (fun _ h=>h) fun _ h=>h))
def c250:Con:=⟨[.dat aa,.dat aa],fun args hp K=>g2 (pD aa) (pD aa) (fun a b=>(Sm aa a)/\(Sm aa b)/\K (dI (M.dD a b)) []) args hp,.plain,false⟩
abbrev C250:Ctx:=cx [(223,c223),(258,c258),(259,c259)] 44 [] 0 false
def ann250:=an [[.fixRow 2 aa,.fixRow 3 aa,kp 12],[kp 4108],[kp 16],[kp 8204],[kp 16],[kp 67108876],[kp 16],[kp 16]] []
theorem vc250 (a:aa.D) (b:aa.D) (K:KA):vcT C250 aq ann250 f250 [.data aa a,.data aa b] [] (.dat au) K =
 ((Sm aa a)/\cond ((!(M.aO a))==false) ((Sm aa b)/\cond (!(M.aO b)) (K (dI Z0) []) (cond (!decide (a.1=b.1)) (K (dI (wrap64 (wrap64 (Z2 * (M.less b.1 a.1))-Z1))) []) (cond (!decide (a.2.1=b.2.1)) (K (dI (wrap64 (wrap64 (Z2 * (M.less b.2.1 a.2.1))-Z1))) []) ((Sm Ty.str a.2.2.1)/\(Sm Ty.str b.2.2.1)/\K (dI (M.vG a.2.2.1 b.2.2.1)) [])))) (K (dI Z0) [])):=by kernel_rfl
theorem con250_ok:aN P 250 c250:=aP C250 func250 (kC con223_ok (kC con258_ok (kC con259_ok kN))) fun args hp K h0=>by
 obtain⟨a,b,rfl,rfl,h_a,h_b,hK⟩:=g2e h0
 have h:ok (F.ld a b) (fun r=>K (dI r) []):=ak (F.tj a b h_a h_b) hK
 refine⟨rfl,ann250,aq,(.dat au),(az (by kernel_rfl)),?_⟩
 ·rw[vc250]
  exact⟨h_a,(oC h (fun _ h=>⟨h_b,(oC h (fun _ h=>h) fun _ h=>(oC h (fun _ h=>h) fun _ h=>(oC h (fun _ h=>h) fun _ h=>⟨h_a.2.2.1,⟨h_b.2.2.1,h⟩⟩)))⟩) fun _ h=>h)⟩
def c225:Con:=⟨[.dat au,.dat aa,.dat aa],fun args hp K=>g3 (pD au) (pD aa) (pD aa) (fun kind a b=>(Sm aa a)/\(Sm aa b)/\K (dI (M.compare kind a b)) []) args hp,.plain,false⟩
abbrev C225:Ctx:=cx [(143,c143),(223,c223),(230,c230),(250,c250)] 65 [] 0 false
def ann225:=an [[.fixRow 4 aa,.fixRow 5 aa,kp 49],[kp 177],[kp 64],[kp 2097201],[kp 64],[kp 1073741873],[kp 64],[kp 68719476785],[kp 64],[kp 17592186044465],[kp 64],[.keep [4,5,52]],[kp 64],[kp 64]] []
theorem vc225 (kind:Int) (a:aa.D) (b:aa.D) (K:KA):vcT C225 aq ann225 f225 [dI kind,.data aa a,.data aa b] [] (.dat au) K =
 (cond ((!(M.inR kind Z1 Z4))==false) ((Sm aa a)/\cond ((!(M.aO a))==false) ((Sm aa b)/\cond (!(M.aO b)) (K (dI (-1:Int)) []) (cond ((decide (a.1=Z0))==false) (cond (decide (b.1=Z0)) (K (dI Z2) []) (cond (!decide (a.1=b.1)) (K (dI (-1:Int)) []) (cond (decide (kind=Z1)) ((Sm aa a)/\(Sm aa b)/\K (dI (M.bool (decide ((M.dD a b)=Z0)))) []) (cond (decide (kind=Z2)) ((Sm aa a)/\(Sm aa b)/\K (dI (M.bool (!decide ((M.dD a b)=Z0)))) []) (cond (decide (kind=Z3)) ((Sm aa a)/\(Sm aa b)/\K (dI (M.bool (decide ((M.dD a b)<Z0)))) []) ((Sm aa a)/\(Sm aa b)/\K (dI (M.bool (decide ((M.dD a b)<=Z0)))) [])))))) (K (dI Z2) []))) (K (dI (-1:Int)) [])) (K (dI (-1:Int)) [])):=by kernel_rfl
theorem con225_ok:aN P 225 c225:=aP C225 func225 (kC con143_ok (kC con223_ok (kC con230_ok (kC con250_ok kN)))) fun args hp K h0=>by
 obtain⟨kind,a,b,rfl,rfl,h_a,h_b,hK⟩:=g3e h0
 have h:ok (F.qi kind a b) (fun r=>K (dI r) []):=ak (F.xD kind a b h_a h_b) hK
 refine⟨rfl,ann225,aq,(.dat au),(az (by kernel_rfl)),?_⟩
 ·rw[vc225]
  exact(oC h (fun _ h=>⟨h_a,(oC h (fun _ h=>⟨h_b,(oC h (fun _ h=>h) fun _ h=>(oC h (fun _ h=>(oC h (fun _ h=>h) fun _ h=>(oC h (fun _ h=>h) fun _ h=>(oC h (fun _ h=>⟨h_a,⟨h_b,h⟩⟩) fun _ h=>(oC h (fun _ h=>⟨h_a,⟨h_b,h⟩⟩) fun _ h=>(oC h (fun _ h=>⟨h_a,⟨h_b,h⟩⟩) fun _ h=>⟨h_a,⟨h_b,h⟩⟩)))))) fun _ h=>h))⟩) fun _ h=>h)⟩) fun _ h=>h)
def c251:Con:=⟨[.dat au],fun args hp K=>g1 (pD au) (fun n=>K (dB (M.inR n 0 2)) []) args hp,.plain,false⟩
abbrev C251:Ctx:=cx [(143,c143)] 5 [] 0 false
def ann251:=an [[kp 1],[kp 4]] []
theorem vc251 (n:Int) (K:KA):vcT C251 aq ann251 f251 [dI n] [] (.dat Ty.bool) K =
 (K (dB (M.inR n Z0 Z2)) []):=by kernel_rfl
theorem con251_ok:aN P 251 c251:=aP C251 func251 (kC con143_ok kN) fun args hp K h0=>by
 obtain⟨n,rfl,rfl,hK⟩:=g1e h0
 have h:ok (F.uR n) (fun r=>K (dB r) []):=ak (F.xZ n) hK
 refine⟨rfl,ann251,aq,(.dat Ty.bool),(az (by kernel_rfl)),?_⟩
 ·rw[vc251]
  exact h
def c252:Con:=⟨[.dat au],fun args hp K=>g1 (pD au) (fun n=>(M.inR n 0 2=true)/\K (dI (M.sure n)) []) args hp,.plain,false⟩
abbrev C252:Ctx:=cx [] 7 [] 0 false
def ann252:=an [[kp 1],[kp 4]] []
theorem vc252 (n:Int) (K:KA):vcT C252 aq ann252 f252 [dI n] [] (.dat au) K =
 ((0<=n)/\(n<([Z0,Z2,Z1].length:Int))/\K (dI (nI [Z0,Z2,Z1] n)) []):=by kernel_rfl
theorem con252_ok:aN P 252 c252:=aP C252 func252 kN fun args hp K h0=>by
 obtain⟨n,rfl,rfl,p0,hK⟩:=g1e h0
 have h:ok (F.qI n) (fun r=>K (dI r) []):=ak (F.zV n p0) hK
 refine⟨rfl,ann252,aq,(.dat au),(az (by kernel_rfl)),?_⟩
 ·rw[vc252]
  exact(oG h fun _ h=>(oG h fun _ h=>h))
def c226:Con:=⟨[.dat au,.dat au],fun args hp K=>g2 (pD au) (pD au) (fun a b=>K (dI (M.qP a b)) []) args hp,.plain,false⟩
abbrev C226:Ctx:=cx [(251,c251),(252,c252)] 19 [] 0 false
def ann226:=an [[kp 3],[kp 4099],[kp 16],[kp 16]] []
theorem vc226 (a:Int) (b:Int) (K:KA):vcT C226 aq ann226 f226 [dI a,dI b] [] (.dat au) K =
 (cond ((!(M.inR a 0 2))==false) (cond (!(M.inR b 0 2)) (K (dI (-1:Int)) []) ((M.inR a 0 2=true)/\(M.inR b 0 2=true)/\(M.inR (Hy (M.sure a) (M.sure b)) 0 2=true)/\K (dI (M.sure (Hy (M.sure a) (M.sure b)))) [])) (K (dI (-1:Int)) [])):=by kernel_rfl
theorem con226_ok:aN P 226 c226:=aP C226 func226 (kC con251_ok (kC con252_ok kN)) fun args hp K h0=>by
 obtain⟨a,b,rfl,rfl,hK⟩:=g2e h0
 have h:ok (F.sZ a b) (fun r=>K (dI r) []):=ak (F.AZ a b) hK
 refine⟨rfl,ann226,aq,(.dat au),(az (by kernel_rfl)),?_⟩
 ·rw[vc226]
  exact(oC h (fun b_1 h=>(oC h (fun _ h=>h) fun b_2 h=>⟨(bnf (bgt b_1)),⟨(bnf b_2),(oG h fun _ h=>h)⟩⟩)) fun _ h=>h)
def c227:Con:=⟨[.dat aa],fun args hp K=>g1 (pD aa) (fun v=>(Sm aa v)/\K (dI (M.bQ v)) []) args hp,.plain,false⟩
abbrev C227:Ctx:=cx [(223,c223)] 23 [] 0 false
def ann227:=an [[.fixRow 1 aa,kp 2],[kp 10],[kp 4],[kp 131074],[kp 4],[kp 4]] []
theorem vc227 (v:aa.D) (K:KA):vcT C227 aq ann227 f227 [.data aa v] [] (.dat au) K =
 ((Sm aa v)/\cond ((!(M.aO v))==false) (cond ((decide (v.1=Z1))==false) (cond (decide (v.1=Z2)) (K (dI (-1:Int)) []) (cond (decide (v.1=Z0)) (K (dI Z2) []) (K (dI v.2.1) []))) (K (dI (-1:Int)) [])) (K (dI (-1:Int)) [])):=by kernel_rfl
theorem con227_ok:aN P 227 c227:=aP C227 func227 (kC con223_ok kN) fun args hp K h0=>by
 obtain⟨v,rfl,rfl,h_v,hK⟩:=g1e h0
 have h:ok (F.qf v) (fun r=>K (dI r) []):=ak (F.yg v h_v) hK
 refine⟨rfl,ann227,aq,(.dat au),(az (by kernel_rfl)),?_⟩
 ·rw[vc227]
  exact⟨h_v,(oC h (fun _ h=>(oC h (fun _ h=>(oC h (fun _ h=>h) fun _ h=>(oC h (fun _ h=>h) fun _ h=>h))) fun _ h=>h)) fun _ h=>h)⟩
def c228:Con:=⟨[.dat au,.dat au],fun args hp K=>g2 (pD au) (pD au) (fun a b=>K (dI (M.ze a b)) []) args hp,.plain,false⟩
abbrev C228:Ctx:=cx [(251,c251),(252,c252)] 19 [] 0 false
def ann228:=an [[kp 3],[kp 4099],[kp 16],[kp 16]] []
theorem vc228 (a:Int) (b:Int) (K:KA):vcT C228 aq ann228 f228 [dI a,dI b] [] (.dat au) K =
 (cond ((!(M.inR a 0 2))==false) (cond (!(M.inR b 0 2)) (K (dI (-1:Int)) []) ((M.inR a 0 2=true)/\(M.inR b 0 2=true)/\(M.inR (bz (M.sure a) (M.sure b)) 0 2=true)/\K (dI (M.sure (bz (M.sure a) (M.sure b)))) [])) (K (dI (-1:Int)) [])):=by kernel_rfl
theorem con228_ok:aN P 228 c228:=aP C228 func228 (kC con251_ok (kC con252_ok kN)) fun args hp K h0=>by
 obtain⟨a,b,rfl,rfl,hK⟩:=g2e h0
 have h:ok (F.vJ a b) (fun r=>K (dI r) []):=ak (F.BW a b) hK
 refine⟨rfl,ann228,aq,(.dat au),(az (by kernel_rfl)),?_⟩
 ·rw[vc228]
  exact(oC h (fun b_1 h=>(oC h (fun _ h=>h) fun b_2 h=>⟨(bnf (bgt b_1)),⟨(bnf b_2),(oG h fun _ h=>h)⟩⟩)) fun _ h=>h)
def c229:Con:=⟨[.dat au],fun args hp K=>g1 (pD au) (fun a=>K (dI (M.rG a)) []) args hp,.plain,false⟩
abbrev C229:Ctx:=cx [(251,c251),(252,c252)] 10 [] 0 false
def ann229:=an [[kp 1],[kp 33],[kp 4],[kp 4]] []
theorem vc229 (a:Int) (K:KA):vcT C229 aq ann229 f229 [dI a] [] (.dat au) K =
 (cond (!(M.inR a 0 2)) (K (dI (-1:Int)) []) ((M.inR a 0 2=true)/\(M.inR (wrap64 (Z2-(M.sure a))) 0 2=true)/\K (dI (M.sure (wrap64 (Z2-(M.sure a))))) [])):=by kernel_rfl
theorem con229_ok:aN P 229 c229:=aP C229 func229 (kC con251_ok (kC con252_ok kN)) fun args hp K h0=>by
 obtain⟨a,rfl,rfl,hK⟩:=g1e h0
 have h:ok (F.tV a) (fun r=>K (dI r) []):=ak (F.AF a) hK
 refine⟨rfl,ann229,aq,(.dat au),(az (by kernel_rfl)),?_⟩
 ·rw[vc229]
  exact(oC h (fun _ h=>h) fun b_1 h=>⟨(bnf b_1),(oG h fun _ h=>h)⟩)
def c197:Con:=⟨[.dat TVS,.mv,.dat ax],fun args hp K=>hpN 0 .sh aa (fun values=>CA (fun a0 a1 a2=>iY TVS a0 fun row=>EV 0 a1 (iY ax a2 fun p=>(Sm TVS row)/\(Sm TVS values)/\(Sm ax p)/\(values.length<=1000)/\(M.takes p<=(values.length:Int))/\(1<=p.1/\p.1<=8)/\(M.ni p row.length)/\(LD (M.eG row values p) fun r=>K (.own 0 none) [(0,.arr .sh aa r)]))) args []) hp,.mv,false⟩
abbrev C197:Ctx:=cx [(150,c150),(224,c224),(225,c225),(226,c226),(227,c227),(228,c228),(229,c229),(230,c230)] 145 [] 0 true
def ann197:=an [[.fixRow 5 ax,kp 35],[kp 163],[kp 2211],[kp 6307],[kp 64],[kp 526499],[kp 64],[kp 536873122],[kp 64],[kp 281474976712866],[kp 64],[.keep [1,7,11,70]],[kp 64],[.keep [1,7,11,92]],[kp 64],[.keep [1,7,114]],[kp 64],[kp 64]] []
theorem vc197 (row:LV) (values:LV) (p:ax.D) (K:KA):vcT C197 aq ann197 f197 [.data TVS row,.own 0 none,.data ax p] [(0,.arr .sh aa values)] .raw K =
 (cond (decide (p.1=Z1)) (((values.length+[p.2.2.1].length) * 32<=lim)/\K (.own 0 none) [(0,.arr .sh aa (values++[p.2.2.1]))]) (cond (decide (p.1=Z2)) ((0<=p.2.1)/\(p.2.1<(row.length:Int))/\((values.length+[(nV row p.2.1)].length) * 32<=lim)/\K (.own 0 none) [(0,.arr .sh aa (values++[(nV row p.2.1)]))]) (cond (decide (p.1=Z3)) ((0<=Z0)/\(Z0<=wrap64 ((values.length:Int)-Z2))/\(wrap64 ((values.length:Int)-Z2)<=(values.length:Int))/\(wrap64 ((values.length:Int)-Z2)=wrap64 ((values.length:Int)-Z2))/\(0<=wrap64 ((values.length:Int)-Z2))/\(wrap64 ((values.length:Int)-Z2)<(values.length:Int))/\(0<=wrap64 ((values.length:Int)-Z1))/\(wrap64 ((values.length:Int)-Z1)<(values.length:Int))/\(Sm aa (nV values (wrap64 ((values.length:Int)-Z2))))/\(Sm aa (nV values (wrap64 ((values.length:Int)-Z1))))/\(LD (M.sum (nV values (wrap64 ((values.length:Int)-Z2))) (nV values (wrap64 ((values.length:Int)-Z1)))) fun r1=>(Z0=0)/\(((wrap64 ((values.length:Int)-Z2)).toNat+[r1].length) * 32<=lim)/\K (.own 0 none) [(0,.arr .sh aa (values.take (wrap64 ((values.length:Int)-Z2)).toNat++[r1]))])) (cond (decide (p.1=Z4)) ((0<=Z0)/\(Z0<=wrap64 ((values.length:Int)-Z2))/\(wrap64 ((values.length:Int)-Z2)<=(values.length:Int))/\(wrap64 ((values.length:Int)-Z2)=wrap64 ((values.length:Int)-Z2))/\(0<=wrap64 ((values.length:Int)-Z2))/\(wrap64 ((values.length:Int)-Z2)<(values.length:Int))/\(0<=wrap64 ((values.length:Int)-Z1))/\(wrap64 ((values.length:Int)-Z1)<(values.length:Int))/\(Sm aa (nV values (wrap64 ((values.length:Int)-Z2))))/\(Sm aa (nV values (wrap64 ((values.length:Int)-Z1))))/\(LD (M.valueOf (M.compare p.2.1 (nV values (wrap64 ((values.length:Int)-Z2))) (nV values (wrap64 ((values.length:Int)-Z1))))) fun r2=>(Z0=0)/\(((wrap64 ((values.length:Int)-Z2)).toNat+[r2].length) * 32<=lim)/\K (.own 0 none) [(0,.arr .sh aa (values.take (wrap64 ((values.length:Int)-Z2)).toNat++[r2]))])) (cond (decide (p.1=Z5)) ((0<=Z0)/\(Z0<=wrap64 ((values.length:Int)-Z2))/\(wrap64 ((values.length:Int)-Z2)<=(values.length:Int))/\(wrap64 ((values.length:Int)-Z2)=wrap64 ((values.length:Int)-Z2))/\(0<=wrap64 ((values.length:Int)-Z2))/\(wrap64 ((values.length:Int)-Z2)<(values.length:Int))/\(0<=wrap64 ((values.length:Int)-Z1))/\(wrap64 ((values.length:Int)-Z1)<(values.length:Int))/\(Sm aa (nV values (wrap64 ((values.length:Int)-Z2))))/\(Sm aa (nV values (wrap64 ((values.length:Int)-Z1))))/\(LD (M.valueOf (M.qP (M.bQ (nV values (wrap64 ((values.length:Int)-Z2)))) (M.bQ (nV values (wrap64 ((values.length:Int)-Z1)))))) fun r3=>(Z0=0)/\(((wrap64 ((values.length:Int)-Z2)).toNat+[r3].length) * 32<=lim)/\K (.own 0 none) [(0,.arr .sh aa (values.take (wrap64 ((values.length:Int)-Z2)).toNat++[r3]))])) (cond (decide (p.1=Z6)) ((0<=Z0)/\(Z0<=wrap64 ((values.length:Int)-Z2))/\(wrap64 ((values.length:Int)-Z2)<=(values.length:Int))/\(wrap64 ((values.length:Int)-Z2)=wrap64 ((values.length:Int)-Z2))/\(0<=wrap64 ((values.length:Int)-Z2))/\(wrap64 ((values.length:Int)-Z2)<(values.length:Int))/\(0<=wrap64 ((values.length:Int)-Z1))/\(wrap64 ((values.length:Int)-Z1)<(values.length:Int))/\(Sm aa (nV values (wrap64 ((values.length:Int)-Z2))))/\(Sm aa (nV values (wrap64 ((values.length:Int)-Z1))))/\(LD (M.valueOf (M.ze (M.bQ (nV values (wrap64 ((values.length:Int)-Z2)))) (M.bQ (nV values (wrap64 ((values.length:Int)-Z1)))))) fun r4=>(Z0=0)/\(((wrap64 ((values.length:Int)-Z2)).toNat+[r4].length) * 32<=lim)/\K (.own 0 none) [(0,.arr .sh aa (values.take (wrap64 ((values.length:Int)-Z2)).toNat++[r4]))])) (cond (decide (p.1=(7:Int))) ((0<=Z0)/\(Z0<=wrap64 ((values.length:Int)-Z1))/\(wrap64 ((values.length:Int)-Z1)<=(values.length:Int))/\(wrap64 ((values.length:Int)-Z1)=wrap64 ((values.length:Int)-Z1))/\(0<=wrap64 ((values.length:Int)-Z1))/\(wrap64 ((values.length:Int)-Z1)<(values.length:Int))/\(Sm aa (nV values (wrap64 ((values.length:Int)-Z1))))/\(LD (M.valueOf (M.rG (M.bQ (nV values (wrap64 ((values.length:Int)-Z1)))))) fun r5=>(Z0=0)/\(((wrap64 ((values.length:Int)-Z1)).toNat+[r5].length) * 32<=lim)/\K (.own 0 none) [(0,.arr .sh aa (values.take (wrap64 ((values.length:Int)-Z1)).toNat++[r5]))])) ((0<=Z0)/\(Z0<=wrap64 ((values.length:Int)-Z1))/\(wrap64 ((values.length:Int)-Z1)<=(values.length:Int))/\(wrap64 ((values.length:Int)-Z1)=wrap64 ((values.length:Int)-Z1))/\(0<=wrap64 ((values.length:Int)-Z1))/\(wrap64 ((values.length:Int)-Z1)<(values.length:Int))/\(LD (M.valueOf (M.bool (decide ((nV values (wrap64 ((values.length:Int)-Z1))).1=Z0)))) fun r6=>(Z0=0)/\(((wrap64 ((values.length:Int)-Z1)).toNat+[r6].length) * 32<=lim)/\K (.own 0 none) [(0,.arr .sh aa (values.take (wrap64 ((values.length:Int)-Z1)).toNat++[r6]))]))))))))):=by kernel_rfl
theorem con197_ok:aN P 197 c197:=aP C197 func197 (kC con150_ok (kC con224_ok (kC con225_ok (kC con226_ok (kC con227_ok (kC con228_ok (kC con229_ok (kC con230_ok kN)))))))) fun args hp K h0=>by
 unfold c197 at h0
 dsimp only at h0
 obtain⟨values,rfl,h00⟩:=ij (n:=0) (d:=.sh) (t:=aa) h0
 obtain⟨a0,a1,a2,rfl,_,h1⟩:=tP h00
 obtain⟨row,rfl,h2⟩:=bV h1
 obtain⟨rfl,h3⟩:=zh h2
 obtain⟨p,rfl,h4⟩:=bV h3
 obtain⟨h_row,h_values,h_p,p0,p1,p2,p3,hK⟩:=h4
 have h:ok (F.rU row values p) (fun r=>K (.own 0 none) [(0,.arr .sh aa r)]):=ak (F.Co row values p h_row h_values h_p p0 p1 p2 p3) (hK _ rfl)
 refine⟨rfl,ann197,aq,.raw,(az (by kernel_rfl)),?_⟩
 ·rw[vc197]
  exact(oC h (fun _ h=>⟨(rZ h_values (zS h_p.2.2.1) rfl),h⟩) fun _ h=>(oC h (fun _ h=>(oG h fun _ h=>(oG h fun _ h=>⟨(rZ h_values (zS (ay h_row p.2.1)) rfl),h⟩))) fun _ h=>(oC h (fun _ h=>⟨(Int.natCast_nonneg 0),(oG h fun _ h=>(oG h fun _ h=>⟨rfl,(oG h fun _ h=>(oG h fun _ h=>(oG h fun _ h=>(oG h fun _ h=>⟨(ay h_values (wrap64 ((values.length:Int)-Z2))),⟨(ay h_values (wrap64 ((values.length:Int)-Z1))),(oL h fun _ _ h=>⟨rfl,(oG h fun _ h=>h)⟩)⟩⟩))))⟩))⟩) fun _ h=>(oC h (fun _ h=>⟨(Int.natCast_nonneg 0),(oG h fun _ h=>(oG h fun _ h=>⟨rfl,(oG h fun _ h=>(oG h fun _ h=>(oG h fun _ h=>(oG h fun _ h=>⟨(ay h_values (wrap64 ((values.length:Int)-Z2))),⟨(ay h_values (wrap64 ((values.length:Int)-Z1))),(oL h fun _ _ h=>⟨rfl,(oG h fun _ h=>h)⟩)⟩⟩))))⟩))⟩) fun _ h=>(oC h (fun _ h=>⟨(Int.natCast_nonneg 0),(oG h fun _ h=>(oG h fun _ h=>⟨rfl,(oG h fun _ h=>(oG h fun _ h=>(oG h fun _ h=>(oG h fun _ h=>⟨(ay h_values (wrap64 ((values.length:Int)-Z2))),⟨(ay h_values (wrap64 ((values.length:Int)-Z1))),(oL h fun _ _ h=>⟨rfl,(oG h fun _ h=>h)⟩)⟩⟩))))⟩))⟩) fun _ h=>(oC h (fun _ h=>⟨(Int.natCast_nonneg 0),(oG h fun _ h=>(oG h fun _ h=>⟨rfl,(oG h fun _ h=>(oG h fun _ h=>(oG h fun _ h=>(oG h fun _ h=>⟨(ay h_values (wrap64 ((values.length:Int)-Z2))),⟨(ay h_values (wrap64 ((values.length:Int)-Z1))),(oL h fun _ _ h=>⟨rfl,(oG h fun _ h=>h)⟩)⟩⟩))))⟩))⟩) fun _ h=>(oC h (fun _ h=>⟨(Int.natCast_nonneg 0),(oG h fun _ h=>(oG h fun _ h=>⟨rfl,(oG h fun _ h=>(oG h fun _ h=>⟨(ay h_values (wrap64 ((values.length:Int)-Z1))),(oL h fun _ _ h=>⟨rfl,(oG h fun _ h=>h)⟩)⟩))⟩))⟩) fun _ h=>⟨(Int.natCast_nonneg 0),(oG h fun _ h=>(oG h fun _ h=>⟨rfl,(oG h fun _ h=>(oG h fun _ h=>(oL h fun _ _ h=>⟨rfl,(oG h fun _ h=>h)⟩)))⟩))⟩)))))))
def c149:Con:=⟨[.dat TVS,.dat TPS],fun args hp K=>g2 (pD TVS) (pD TPS) (fun row e=>(Sm TVS row)/\(Sm TPS e)/\(M.jh row.length e)/\(LD (M.eg row e) fun r=>K (.data aa r) [])) args hp,.plain,false⟩
abbrev C149:Ctx:=cx [(197,c197)] 24 [] 0 false
def ann149:=an [[kp 19],[kp 51],[kp 115],[kp 2163],[kp 115],[kp 115],[kp 16]] [[kp 48]]
abbrev s149_0 (row:LV) (e:LPt) (i0:Int) (v0:LV):St:=⟨[(0,.data TVS row),(1,.data TPS e),(4,.ptr 4 0),(5,.own 7 none),(6,dI i0)],[(4,.box [dI Z0,dI Z0,.data Ty.str (⟨#[]⟩:ByteArray)]),(7,.arr .sh aa v0)]⟩
abbrev LP149_0 (row:LV) (e:LPt) (m:Nat) (st_:St) (K:KX):Prop:=True/\bI (t:=ax) (s149_0 row e) e (F.ee row e) (fun v0:LV=>True) (aR (fun v0:LV=>True->K (.exit 0) (⟨[(4,.ptr 4 0),(5,.own 7 none)],[(4,.box [dI Z0,dI Z0,.data Ty.str (⟨#[]⟩:ByteArray)]),(7,.arr .sh aa v0)]⟩:St)) (fun _=>False)) m st_
def L149 (row:LV) (e:LPt):aW:=lp1 0 (LP149_0 row e)
theorem vc149 (row:LV) (e:LPt) (K:KA):vcT C149 (L149 row e) ann149 f149 [.data TVS row,.data TPS e] [] (.dat aa) K =
 (∃m_,True/\bI (t:=ax) (s149_0 row e) e (F.ee row e) (fun v0:LV=>True) (aR (fun v0:LV=>True->(0<=Z0)/\(Z0<(v0.length:Int))/\K (.data aa (nV v0 Z0)) []) (fun _=>False)) m_ (s149_0 row e Z0 [])):=by kernel_rfl
theorem lvc149_0 (row:LV) (e:LPt)  (i0:Int) (v0:LV) (m:Nat) (K:KX):lvT C149 (L149 row e) ann149 f149 0 0 (s149_0 row e i0 v0) m K =
 (cond (decide (i0<(e.length:Int))) ((0<=i0)/\(i0<(e.length:Int))/\(Sm TVS row)/\(Sm TVS v0)/\(Sm ax (nP e i0))/\(v0.length<=1000)/\(M.takes (nP e i0)<=(v0.length:Int))/\(1<=(nP e i0).1/\(nP e i0).1<=8)/\(M.ni (nP e i0) row.length)/\(LD (M.eG row v0 (nP e i0)) fun r1=>(nxT (LP149_0 row e) m K (s149_0 row e (wrap64 (i0+Z1)) r1)))) (K (.exit 0) (⟨[(4,.ptr 4 0),(5,.own 7 none)],[(4,.box [dI Z0,dI Z0,.data Ty.str (⟨#[]⟩:ByteArray)]),(7,.arr .sh aa v0)]⟩:St))):=by kernel_rfl
theorem con149_ok:aN P 149 c149:=aP C149 func149 (kC con197_ok kN) fun args hp K h0=>by
 obtain⟨row,e,rfl,rfl,h_row,h_e,p0,hK⟩:=g2e h0
 have h:ok (F.qk row e) (fun r=>K (.data aa r) []):=ak (F.yd row e h_row h_e p0) (hK _ rfl)
 refine⟨rfl,ann149,(L149 row e),(.dat aa),(aI (i0:=0) (by kernel_rfl) ?_),?_⟩
 ·rintro _ _ K ⟨hc0,i0,v0,rfl,hl0,rfl,hv0,h⟩
  exact cast (lvc149_0 _ _ _ _ _ _).symm (br (t:=ax) hl0 h (fun ht0 h=>⟨hl0,⟨ht0,⟨h_row,(oG h fun _ h=>⟨(ay h_e i0),(oG h fun _ h=>(oG h fun _ h=>(oG h fun _ h=>(oG h fun _ h=>(oL h fun _ _ h=>(aT (t:=ax) (fun _ hm=>⟨hc0,hm⟩) _ rfl hl0 ht0 (aM h_e) trivial h))))))⟩)⟩⟩⟩) fun h=>(h trivial))
 ·rw[vc149]
  exact(aZ (t:=ax) (fun m hm=>⟨trivial,hm⟩) _ rfl trivial (aF h (fun v0 h hv0=>⟨(Int.natCast_nonneg 0),(oG h fun _ h=>h)⟩) (fun _ h=>h.elim)))
def c151:Con:=⟨[.dat TVS,.dat (Ty.sl au)],fun args hp K=>g2 (pD TVS) (pD (Ty.sl au)) (fun row list=>(Sm TVS row)/\(Sm (Ty.sl au) list)/\(M.eI row list)/\(LD (M.taken row list) fun r=>K (.own 0 none) [(0,.arr .sh aa r)])) args hp,.plain,false⟩
abbrev C151:Ctx:=cx [] 25 [] 0 false
def ann151:=an [[kp 3],[kp 35],[kp 99],[kp 2147],[kp 99],[kp 99],[kp 16]] [[kp 32]]
abbrev s151_0 (row:LV) (list:LI) (i0:Int) (v0:LV):St:=⟨[(0,.data TVS row),(1,.data (Ty.sl au) list),(5,.own 7 none),(6,dI i0)],[(7,.arr .sh aa v0)]⟩
abbrev LP151_0 (row:LV) (list:LI) (m:Nat) (st_:St) (K:KX):Prop:=True/\bI (t:=au) (s151_0 row list) list (F.iD row list) (fun v0:LV=>True) (aR (fun v0:LV=>True->K (.exit 0) (⟨[(5,.own 7 none)],[(7,.arr .sh aa v0)]⟩:St)) (fun _=>False)) m st_
def L151 (row:LV) (list:LI):aW:=lp1 0 (LP151_0 row list)
theorem vc151 (row:LV) (list:LI) (K:KA):vcT C151 (L151 row list) ann151 f151 [.data TVS row,.data (Ty.sl au) list] [] .raw K =
 (∃m_,True/\bI (t:=au) (s151_0 row list) list (F.iD row list) (fun v0:LV=>True) (aR (fun v0:LV=>True->K (.own 0 none) [(0,.arr .sh aa v0)]) (fun _=>False)) m_ (s151_0 row list Z0 [])):=by kernel_rfl
theorem lvc151_0 (row:LV) (list:LI)  (i0:Int) (v0:LV) (m:Nat) (K:KX):lvT C151 (L151 row list) ann151 f151 0 0 (s151_0 row list i0 v0) m K =
 (cond (decide (i0<(list.length:Int))) ((0<=i0)/\(i0<(list.length:Int))/\(0<=(nI list i0))/\((nI list i0)<(row.length:Int))/\((v0.length+[(nV row (nI list i0))].length) * 32<=lim)/\(nxT (LP151_0 row list) m K (s151_0 row list (wrap64 (i0+Z1)) (v0++[(nV row (nI list i0))])))) (K (.exit 0) (⟨[(5,.own 7 none)],[(7,.arr .sh aa v0)]⟩:St))):=by kernel_rfl
theorem con151_ok:aN P 151 c151:=aP C151 func151 kN fun args hp K h0=>by
 obtain⟨row,list,rfl,rfl,h_row,h_list,p0,hK⟩:=g2e h0
 have h:ok (F.pP row list) (fun r=>K (.own 0 none) [(0,.arr .sh aa r)]):=ak (F.yw row list h_row h_list p0) (hK _ rfl)
 refine⟨rfl,ann151,(L151 row list),.raw,(aI (i0:=0) (by kernel_rfl) ?_),?_⟩
 ·rintro _ _ K ⟨hc0,i0,v0,rfl,hl0,rfl,hv0,h⟩
  exact cast (lvc151_0 _ _ _ _ _ _).symm (br (t:=au) hl0 h (fun ht0 h=>⟨hl0,⟨ht0,(oG h fun _ h=>(oG h fun _ h=>(oG h fun _ h=>(aT (t:=au) (fun _ hm=>⟨hc0,hm⟩) _ rfl hl0 ht0 (aM h_list) trivial h))))⟩⟩) fun h=>(h trivial))
 ·rw[vc151]
  exact(aZ (t:=au) (fun m hm=>⟨trivial,hm⟩) _ rfl trivial (aF h (fun v0 h hv0=>h) (fun _ h=>h.elim)))
def c152:Con:=⟨[.dat TVS],fun args hp K=>g1 (pD TVS) (fun values=>(Sm TVS values)/\K (dB (M.jZ values)) []) args hp,.plain,false⟩
abbrev C152:Ctx:=cx [] 16 [] 0 false
def ann152:=an [[kp 1],[kp 9],[kp 137],[kp 9],[kp 32777],[kp 4],[kp 4]] [[kp 0]]
abbrev s152_0 (values:LV) (i0:Int) (v0:Unit):St:=⟨[(0,.data TVS values),(3,dI i0)],[]⟩
abbrev LP152_0 (values:LV) (m:Nat) (st_:St) (K:KX):Prop:=True/\bI (t:=aa) (s152_0 values) values (F.iA values) (fun v0:Unit=>True) (aR (fun v0:Unit=>True->K (.exit 0) (⟨[],[]⟩:St)) (fun q0:Unit=>K .ret (⟨[(2,dB true)],[]⟩:St))) m st_
def L152 (values:LV):aW:=lp1 0 (LP152_0 values)
theorem vc152 (values:LV) (K:KA):vcT C152 (L152 values) ann152 f152 [.data TVS values] [] (.dat Ty.bool) K =
 (∃m_,True/\bI (t:=aa) (s152_0 values) values (F.iA values) (fun v0:Unit=>True) (aR (fun v0:Unit=>True->K (dB false) []) (fun q0:Unit=>K (dB true) [])) m_ (s152_0 values Z0 ())):=by kernel_rfl
theorem lvc152_0 (values:LV)  (i0:Int) (v0:Unit) (m:Nat) (K:KX):lvT C152 (L152 values) ann152 f152 0 0 (s152_0 values i0 v0) m K =
 (cond (decide (i0<(values.length:Int))) ((0<=i0)/\(i0<(values.length:Int))/\cond (decide ((nV values i0).1=Z0)) (K .ret (⟨[(2,dB true)],[]⟩:St)) (nxT (LP152_0 values) m K (s152_0 values (wrap64 (i0+Z1)) ()))) (K (.exit 0) (⟨[],[]⟩:St))):=by kernel_rfl
theorem con152_ok:aN P 152 c152:=aP C152 func152 kN fun args hp K h0=>by
 obtain⟨values,rfl,rfl,h_values,hK⟩:=g1e h0
 have h:ok (F.qc values) (fun r=>K (dB r) []):=ak (F.xK values h_values) hK
 refine⟨rfl,ann152,(L152 values),(.dat Ty.bool),(aI (i0:=0) (by kernel_rfl) ?_),?_⟩
 ·rintro _ _ K ⟨hc0,i0,v0,rfl,hl0,rfl,hv0,h⟩
  exact cast (lvc152_0 _ _ _ _ _).symm (br (t:=aa) hl0 h (fun ht0 h=>⟨hl0,⟨ht0,(oC h (fun _ h=>h) fun _ h=>(aT (t:=aa) (fun _ hm=>⟨hc0,hm⟩) _ rfl hl0 ht0 (aM h_values) trivial h))⟩⟩) fun h=>(h trivial))
 ·rw[vc152]
  exact(aZ (t:=aa) (fun m hm=>⟨trivial,hm⟩) _ rfl trivial (aF h (fun v0 h hv0=>h) (fun q0 h=>h)))
def c153:Con:=⟨[.dat TVS,.dat TVS],fun args hp K=>g2 (pD TVS) (pD TVS) (fun a b=>(Sm TVS a)/\(Sm TVS b)/\K (dB (decide (a=b))) []) args hp,.plain,false⟩
abbrev C153:Ctx:=cx [] 26 [] 0 false
def ann153:=an [[kp 3],[kp 1027],[kp 16],[kp 35],[kp 16419],[kp 35],[kp 33554467],[kp 16],[kp 16]] [[kp 0]]
abbrev s153_0 (a:LV) (b:LV) (i0:Int) (v0:Unit):St:=⟨[(0,.data TVS a),(1,.data TVS b),(5,dI i0)],[]⟩
abbrev LP153_0 (a:LV) (b:LV) (m:Nat) (st_:St) (K:KX):Prop:=True/\aY (s153_0 a b) Z0 (a.length:Int) (F.jf a b) (fun v0:Unit=>True) (aR (fun v0:Unit=>True->K (.exit 0) (⟨[],[]⟩:St)) (fun q0:Unit=>K .ret (⟨[(4,dB false)],[]⟩:St))) m st_
def L153 (a:LV) (b:LV):aW:=lp1 0 (LP153_0 a b)
theorem vc153 (a:LV) (b:LV) (K:KA):vcT C153 (L153 a b) ann153 f153 [.data TVS a,.data TVS b] [] (.dat Ty.bool) K =
 (cond (!decide ((a.length:Int)=(b.length:Int))) (K (dB false) []) (∃m_,True/\aY (s153_0 a b) Z0 (a.length:Int) (F.jf a b) (fun v0:Unit=>True) (aR (fun v0:Unit=>True->K (dB true) []) (fun q0:Unit=>K (dB false) [])) m_ (s153_0 a b Z0 ()))):=by kernel_rfl
theorem lvc153_0 (a:LV) (b:LV)  (i0:Int) (v0:Unit) (m:Nat) (K:KX):lvT C153 (L153 a b) ann153 f153 0 0 (s153_0 a b i0 v0) m K =
 (cond (decide (i0<(a.length:Int))) ((0<=i0)/\(i0<(a.length:Int))/\(0<=i0)/\(i0<(b.length:Int))/\cond (!(Ty.beq aa (nV a i0) (nV b i0))) (K .ret (⟨[(4,dB false)],[]⟩:St)) (nxT (LP153_0 a b) m K (s153_0 a b (wrap64 (i0+Z1)) ()))) (K (.exit 0) (⟨[],[]⟩:St))):=by kernel_rfl
theorem con153_ok:aN P 153 c153:=aP C153 func153 kN fun args hp K h0=>by
 obtain⟨a,b,rfl,rfl,h_a,h_b,hK⟩:=g2e h0
 have h:ok (F.xe a b) (fun r=>K (dB r) []):=ak (F.yL a b h_a h_b) hK
 refine⟨rfl,ann153,(L153 a b),(.dat Ty.bool),(aI (i0:=0) (by kernel_rfl) ?_),?_⟩
 ·rintro _ _ K ⟨hc0,i0,v0,rfl,hl0,rfl,hv0,h⟩
  exact cast (lvc153_0 _ _ _ _ _ _).symm (aL h (fun ht0 h=>⟨hl0,⟨ht0,⟨hl0,(oG h fun _ h=>(oC h (fun _ h=>h) fun _ h=>(aE (fun _ hm=>⟨hc0,hm⟩) _ rfl hl0 dG ht0 (aM h_a) trivial h)))⟩⟩⟩) fun h=>(h trivial))
 ·rw[vc153]
  exact(oC h (fun _ h=>h) fun _ h=>(aD (fun m hm=>⟨trivial,hm⟩) Z0 _ rfl (Int.natCast_nonneg 0) trivial (aF h (fun v0 h hv0=>h) (fun q0 h=>h))))
def c82:Con:=⟨[.dat TTb,.dat TBond],fun args hp K=>g2 (pD TTb) (pD TBond) (fun tables b=>(Sm TTb tables)/\(Sm TBond b)/\((M.aA tables&&M.aX tables b)=true)/\K (dI (M.broken tables b)) []) args hp,.bor,false⟩
abbrev C82:Ctx:=cx [(149,c149),(150,c150),(151,c151),(152,c152),(153,c153)] 110 [] 0 false
def ann82:=an [[.fixRow 3 TBond,kp 9],[kp 41],[kp 105],[kp 2097257],[kp 105],[kp 33554537],[kp 100663401],[kp 68719476841],[kp 16],[kp 274911461481],[kp 233],[.freeze 46,kp 489],[kp 18014398509482473],[kp 489],[kp 36893488147419103721],[kp 16],[.keep [0,3,5,6,67]],[kp 617],[kp 1641],[kp 3689],[kp 1237940039285380274899127913],[kp 3689],[kp 3689],[.keep [0,3,5,6,108]],[kp 16],[kp 16]] [[kp 0],[],[],[kp 105],[],[kp 1129]]
abbrev s82_0 (tables:LTb) (b:TBond.D) (i0:Int) (v0:Unit):St:=⟨[(0,.data TTb tables),(3,.adr TBond b),(5,.data (Ty.sl TVS) (nT tables b.2.1).2.1),(6,dI i0)],[]⟩
abbrev LP82_0 (tables:LTb) (b:TBond.D) (m:Nat) (st_:St) (K:KX):Prop:=True/\aY (s82_0 tables b) Z0 ((nT tables b.2.1).2.1.length:Int) (F.gj tables b) (fun v0:Unit=>True) (aR (fun v0:Unit=>True->K (.exit 0) (⟨[],[]⟩:St)) (fun q0:Int=>K .ret (⟨[(4,dI q0)],[]⟩:St))) m st_
abbrev s82_3 (tables:LTb) (b:TBond.D) (c3_0:Int) (c3_1:LV) (v3:Int):St:=⟨[(0,.data TTb tables),(3,.adr TBond b),(5,.data (Ty.sl TVS) (nT tables b.2.1).2.1),(6,dI c3_0),(7,.data TVS c3_1),(8,dI v3)],[]⟩
abbrev LP82_3 (tables:LTb) (b:TBond.D) (m:Nat) (st_:St) (K:KX):Prop:=∃c3_0:Int,∃c3_1:LV,(Sm TVS c3_1/\True)/\qt (s82_3 tables b c3_0 c3_1) (F.eC tables b c3_0 c3_1) (fun v3:Int=>True) (aR (fun e3:Unit=>True->K (.exit 3) (⟨[(0,.data TTb tables),(3,.adr TBond b),(5,.data (Ty.sl TVS) (nT tables b.2.1).2.1),(6,dI c3_0)],[]⟩:St)) (fun q3:Unit=>K .ret (⟨[(4,dI c3_0)],[]⟩:St))) m st_
abbrev s82_5 (tables:LTb) (b:TBond.D) (c5_0:Int) (c5_1:LV) (v5:Bool×Int):St:=⟨[(0,.data TTb tables),(3,.adr TBond b),(5,.data (Ty.sl TVS) (nT tables b.2.1).2.1),(6,dI c5_0),(9,.data TVS c5_1),(10,dB v5.1),(11,dI v5.2)],[]⟩
abbrev LP82_5 (tables:LTb) (b:TBond.D) (m:Nat) (st_:St) (K:KX):Prop:=∃c5_0:Int,∃c5_1:LV,(Sm TVS c5_1/\True)/\qt (s82_5 tables b c5_0 c5_1) (F.gp tables b c5_0 c5_1) (fun v5:Bool×Int=>True) (fun e5:Bool=>True->K (.exit 5) (⟨[(0,.data TTb tables),(3,.adr TBond b),(5,.data (Ty.sl TVS) (nT tables b.2.1).2.1),(6,dI c5_0),(10,dB e5)],[]⟩:St)) m st_
def L82 (tables:LTb) (b:TBond.D):aW:=fun id m st_ K=>match id with
 | 0=>LP82_0 tables b m st_ K
 | 3=>LP82_3 tables b m st_ K
 | 5=>LP82_5 tables b m st_ K
 | _=>False
theorem vc82 (tables:LTb) (b:TBond.D) (K:KA):vcT C82 (L82 tables b) ann82 f82 [.data TTb tables,.data TBond b] [] (.dat au) K =
 ((0<=b.2.1)/\(b.2.1<(tables.length:Int))/\(∃m_,True/\aY (s82_0 tables b) Z0 ((nT tables b.2.1).2.1.length:Int) (F.gj tables b) (fun v0:Unit=>True) (aR (fun v0:Unit=>True->K (dI (-1:Int)) []) (fun q0:Int=>K (dI q0) [])) m_ (s82_0 tables b Z0 ()))):=by kernel_rfl
theorem lvc82_0 (tables:LTb) (b:TBond.D)  (i0:Int) (v0:Unit) (m:Nat) (K:KX):lvT C82 (L82 tables b) ann82 f82 0 0 (s82_0 tables b i0 v0) m K =
 (cond (decide (i0<((nT tables b.2.1).2.1.length:Int))) (cond (decide (b.1=Z3)) ((0<=i0)/\(i0<((nT tables b.2.1).2.1.length:Int))/\(Sm TVS (nth (t:=TVS) (nT tables b.2.1).2.1 i0))/\(Sm TPS b.2.2.2.2.2.2.1)/\(M.jh (nth (t:=TVS) (nT tables b.2.1).2.1 i0).length b.2.2.2.2.2.2.1)/\(LD (M.eg (nth (t:=TVS) (nT tables b.2.1).2.1 i0) b.2.2.2.2.2.2.1) fun r1=>(LD (M.valueOf Z0) fun r2=>cond (Ty.beq aa r1 r2) (K .ret (⟨[(4,dI i0)],[]⟩:St)) (nxT (LP82_0 tables b) m K (s82_0 tables b (wrap64 (i0+Z1)) ()))))) (cond (decide (b.1=Z1)) ((0<=i0)/\(i0<((nT tables b.2.1).2.1.length:Int))/\(Sm TVS (nth (t:=TVS) (nT tables b.2.1).2.1 i0))/\(Sm (Ty.sl au) b.2.2.1)/\(M.eI (nth (t:=TVS) (nT tables b.2.1).2.1 i0) b.2.2.1)/\(LD (M.taken (nth (t:=TVS) (nT tables b.2.1).2.1 i0) b.2.2.1) fun r3=>(∃m_,∃c3_0:Int,∃c3_1:LV,(Sm TVS c3_1/\True)/\qt (s82_3 tables b c3_0 c3_1) (F.eC tables b c3_0 c3_1) (fun v3:Int=>True) (aR (fun e3:Unit=>True->(nxT (LP82_0 tables b) m K (s82_0 tables b (wrap64 (c3_0+Z1)) ()))) (fun q3:Unit=>K .ret (⟨[(4,dI c3_0)],[]⟩:St))) m_ (s82_3 tables b i0 r3 Z0)))) (cond (decide (b.1=Z2)) ((0<=i0)/\(i0<((nT tables b.2.1).2.1.length:Int))/\(Sm TVS (nth (t:=TVS) (nT tables b.2.1).2.1 i0))/\(Sm (Ty.sl au) b.2.2.1)/\(M.eI (nth (t:=TVS) (nT tables b.2.1).2.1 i0) b.2.2.1)/\(LD (M.taken (nth (t:=TVS) (nT tables b.2.1).2.1 i0) b.2.2.1) fun r4=>(Sm TVS r4)/\(∃m_,∃c5_0:Int,∃c5_1:LV,(Sm TVS c5_1/\True)/\qt (s82_5 tables b c5_0 c5_1) (F.gp tables b c5_0 c5_1) (fun v5:Bool×Int=>True) (fun e5:Bool=>True->cond (!e5) (K .ret (⟨[(4,dI c5_0)],[]⟩:St)) (nxT (LP82_0 tables b) m K (s82_0 tables b (wrap64 (c5_0+Z1)) ()))) m_ (s82_5 tables b i0 r4 ((M.jZ r4),Z0))))) (nxT (LP82_0 tables b) m K (s82_0 tables b (wrap64 (i0+Z1)) ()))))) (K (.exit 0) (⟨[],[]⟩:St))):=by kernel_rfl
abbrev S82l3_0 (tables:LTb) (b:TBond.D) (c3_0:Int) (c3_1:LV) (v3:Int) (m:Nat) (K:KX):Prop:=K (.exit 3) (⟨[(0,.data TTb tables),(3,.adr TBond b),(5,.data (Ty.sl TVS) (nT tables b.2.1).2.1),(6,dI c3_0)],[]⟩:St)
theorem lvc82_1 (tables:LTb) (b:TBond.D) (c3_0:Int) (c3_1:LV) (v3:Int) (m:Nat) (K:KX):lvT C82 (L82 tables b) ann82 f82 1 3 (s82_3 tables b c3_0 c3_1 v3) m K =
 (cond ((decide (v3<c3_0))==true) ((Sm TVS c3_1)/\cond (!(M.jZ c3_1)) ((0<=v3)/\(v3<((nT tables b.2.1).2.1.length:Int))/\(Sm TVS (nth (t:=TVS) (nT tables b.2.1).2.1 v3))/\(Sm (Ty.sl au) b.2.2.1)/\(M.eI (nth (t:=TVS) (nT tables b.2.1).2.1 v3) b.2.2.1)/\(LD (M.taken (nth (t:=TVS) (nT tables b.2.1).2.1 v3) b.2.2.1) fun r5=>(Sm TVS r5)/\(Sm TVS c3_1)/\cond (decide (r5=c3_1)) (K .ret (⟨[(4,dI c3_0)],[]⟩:St)) (nxT (LP82_3 tables b) m K (s82_3 tables b c3_0 c3_1 (wrap64 (v3+Z1)))))) (S82l3_0  tables b c3_0 c3_1 v3 m K)) (S82l3_0  tables b c3_0 c3_1 v3 m K)):=by kernel_rfl
abbrev S82l5_0 (tables:LTb) (b:TBond.D) (c5_0:Int) (c5_1:LV) (v5:Bool×Int) (m:Nat) (K:KX):Prop:=K (.exit 5) (⟨[(0,.data TTb tables),(3,.adr TBond b),(5,.data (Ty.sl TVS) (nT tables b.2.1).2.1),(6,dI c5_0),(10,dB v5.1)],[]⟩:St)
theorem lvc82_2 (tables:LTb) (b:TBond.D) (c5_0:Int) (c5_1:LV) (v5:Bool×Int) (m:Nat) (K:KX):lvT C82 (L82 tables b) ann82 f82 2 5 (s82_5 tables b c5_0 c5_1 v5) m K =
 ((0<=b.2.2.2.1)/\(b.2.2.2.1<(tables.length:Int))/\cond ((decide (v5.2<((nT tables b.2.2.2.1).2.1.length:Int)))==true) (cond (!v5.1) ((0<=b.2.2.2.1)/\(b.2.2.2.1<(tables.length:Int))/\(0<=v5.2)/\(v5.2<((nT tables b.2.2.2.1).2.1.length:Int))/\(Sm TVS (nth (t:=TVS) (nT tables b.2.2.2.1).2.1 v5.2))/\(Sm (Ty.sl au) b.2.2.2.2.1)/\(M.eI (nth (t:=TVS) (nT tables b.2.2.2.1).2.1 v5.2) b.2.2.2.2.1)/\(LD (M.taken (nth (t:=TVS) (nT tables b.2.2.2.1).2.1 v5.2) b.2.2.2.2.1) fun r6=>(Sm TVS r6)/\(Sm TVS c5_1)/\(nxT (LP82_5 tables b) m K (s82_5 tables b c5_0 c5_1 ((decide (r6=c5_1)),wrap64 (v5.2+Z1)))))) (S82l5_0  tables b c5_0 c5_1 v5 m K)) (S82l5_0  tables b c5_0 c5_1 v5 m K)):=by kernel_rfl
theorem con82_ok:aN P 82 c82:=aP C82 func82 (kC con149_ok (kC con150_ok (kC con151_ok (kC con152_ok (kC con153_ok kN))))) fun args hp K h0=>by
 obtain⟨tables,b,rfl,rfl,h_tables,h_b,p0,hK⟩:=g2e h0
 have h:ok (F.mC tables b) (fun r=>K (dI r) []):=ak (F.uI tables b h_tables h_b p0) hK
 refine⟨rfl,ann82,(L82 tables b),(.dat au),(Hs (i0:=0) (i1:=3) (i2:=5) (by kernel_rfl) ?_ ?_ ?_),?_⟩
 ·rintro _ _ K ⟨hc0,i0,v0,rfl,hl0,rfl,hv0,h⟩
  exact cast (lvc82_0 _ _ _ _ _ _).symm (aL h (fun ht0 h=>(oC h (fun _ h=>⟨hl0,⟨ht0,⟨(ay (ay h_tables b.2.1).2.1 i0),⟨h_b.2.2.2.2.2.2.1,(oG h fun _ h=>(oL h fun _ _ h=>(oL h fun _ _ h=>(oC h (fun _ h=>h) fun _ h=>(aE (fun _ hm=>⟨hc0,hm⟩) _ rfl hl0 dG ht0 (aM (ay h_tables b.2.1).2.1) trivial h)))))⟩⟩⟩⟩) fun _ h=>(oC h (fun _ h=>⟨hl0,⟨ht0,⟨(ay (ay h_tables b.2.1).2.1 i0),⟨h_b.2.2.1,(oG h fun _ h=>(oL h fun r3 er3 h=>(kG (fun m hm=>⟨i0,r3,⟨(gI er3 (M.fO (ay (ay h_tables b.2.1).2.1 i0) h_b.2.2.1)),trivial⟩,hm⟩) _ rfl trivial (aF h (fun e3 h hv3=>(aE (fun _ hm=>⟨hc0,hm⟩) _ rfl hl0 dG ht0 (aM (ay h_tables b.2.1).2.1) trivial h)) (fun q3 h=>h)))))⟩⟩⟩⟩) fun _ h=>(oC h (fun _ h=>⟨hl0,⟨ht0,⟨(ay (ay h_tables b.2.1).2.1 i0),⟨h_b.2.2.1,(oG h fun _ h=>(oL h fun r4 er4 h=>⟨(gI er4 (M.fO (ay (ay h_tables b.2.1).2.1 i0) h_b.2.2.1)),(kG (fun m hm=>⟨i0,r4,⟨(gI er4 (M.fO (ay (ay h_tables b.2.1).2.1 i0) h_b.2.2.1)),trivial⟩,hm⟩) _ rfl trivial (yH h (fun e5 h hv5=>(oC h (fun _ h=>h) fun _ h=>(aE (fun _ hm=>⟨hc0,hm⟩) _ rfl hl0 dG ht0 (aM (ay h_tables b.2.1).2.1) trivial h)))))⟩))⟩⟩⟩⟩) fun _ h=>(aE (fun _ hm=>⟨hc0,hm⟩) _ rfl hl0 dG ht0 (aM (ay h_tables b.2.1).2.1) trivial h))))) fun h=>(h trivial))
 ·rintro _ _ K ⟨c3_0,c3_1,hc3,v3,rfl,hv3,h⟩
  exact cast (lvc82_1 _ _ _ _ _ _ _).symm (me h (fun m1 hm3 h=>(oC h (fun _ h=>⟨hc3.1,(oC h (fun _ h=>(oG h fun _ h=>(oG h fun _ h=>⟨(ay (ay h_tables b.2.1).2.1 v3),⟨h_b.2.2.1,(oG h fun _ h=>(oL h fun _ er5 h=>⟨(gI er5 (M.fO (ay (ay h_tables b.2.1).2.1 v3) h_b.2.2.1)),⟨hc3.1,(oC h (fun _ h=>h) fun _ h=>(mw (fun _ hm=>⟨c3_0,c3_1,hc3,hm⟩) hm3 _ rfl trivial h))⟩⟩))⟩⟩))) fun _ h=>((qH h :) trivial))⟩) fun _ h=>((qH h :) trivial))))
 ·rintro _ _ K ⟨c5_0,c5_1,hc5,v5,rfl,hv5,h⟩
  exact cast (lvc82_2 _ _ _ _ _ _ _).symm (me h (fun m1 hm5 h=>(oG h fun g1 h=>(oG h fun g2 h=>(oC h (fun _ h=>(oC h (fun _ h=>⟨g1,⟨g2,(oG h fun _ h=>(oG h fun _ h=>⟨(ay (ay h_tables b.2.2.2.1).2.1 v5.2),⟨h_b.2.2.2.2.1,(oG h fun _ h=>(oL h fun _ er6 h=>⟨(gI er6 (M.fO (ay (ay h_tables b.2.2.2.1).2.1 v5.2) h_b.2.2.2.2.1)),⟨hc5.1,(mw (fun _ hm=>⟨c5_0,c5_1,hc5,hm⟩) hm5 _ rfl trivial h)⟩⟩))⟩⟩))⟩⟩) fun _ h=>((qH h :) trivial))) fun _ h=>((qH h :) trivial))))))
 ·rw[vc82]
  exact(oG h fun _ h=>(oG h fun _ h=>(aD (fun m hm=>⟨trivial,hm⟩) Z0 _ rfl (Int.natCast_nonneg 0) trivial (aF h (fun v0 h hv0=>h) (fun q0 h=>h)))))
def c109:Con:=⟨[.dat TTb,.dat TBond],fun args hp K=>g2 (pD TTb) (pD TBond) (fun tables b=>(Sm TTb tables)/\(Sm TBond b)/\K (dI (M.de tables b)) []) args hp,.bor,false⟩
abbrev C109:Ctx:=cx [(80,c80),(82,c82)] 12 [] 0 false
def ann109:=an [[.fixRow 3 TBond,kp 9],[kp 265],[kp 16],[kp 16]] []
theorem vc109 (tables:LTb) (b:TBond.D) (K:KA):vcT C109 aq ann109 f109 [.data TTb tables,.data TBond b] [] (.dat au) K =
 ((Sm TTb tables)/\(Sm TBond b)/\cond (!(M.aA tables&&M.aX tables b)) (K (dI (-2:Int)) []) ((Sm TTb tables)/\(Sm TBond b)/\((M.aA tables&&M.aX tables b)=true)/\K (dI (M.broken tables b)) [])):=by kernel_rfl
theorem con109_ok:aN P 109 c109:=aP C109 func109 (kC con80_ok (kC con82_ok kN)) fun args hp K h0=>by
 obtain⟨tables,b,rfl,rfl,h_tables,h_b,hK⟩:=g2e h0
 have h:ok (F.kW tables b) (fun r=>K (dI r) []):=ak (F.tu tables b h_tables h_b) hK
 refine⟨rfl,ann109,aq,(.dat au),(az (by kernel_rfl)),?_⟩
 ·rw[vc109]
  exact⟨h_tables,⟨h_b,(oC h (fun _ h=>h) fun b_1 h=>⟨h_tables,⟨h_b,⟨(bnf b_1),h⟩⟩⟩)⟩⟩
def c49:Con:=⟨[.dat TTb,.dat (Ty.sl TBond)],fun args hp K=>g2 (pD TTb) (pD (Ty.sl TBond)) (fun tables bonds=>(Sm TTb tables)/\(Sm (Ty.sl TBond) bonds)/\K (dB (M.bA tables bonds)) []) args hp,.bor,false⟩
abbrev C49:Ctx:=cx [(109,c109)] 22 [] 0 false
def ann49:=an [[kp 3],[kp 35],[kp 547],[kp 35],[kp 262179],[kp 16],[kp 16]] [[kp 2]]
abbrev s49_0 (tables:LTb) (bonds:(List TBond.D)) (i0:Int) (v0:Unit):St:=⟨[(0,.data TTb tables),(1,.data (Ty.sl TBond) bonds),(5,dI i0)],[]⟩
abbrev LP49_0 (tables:LTb) (bonds:(List TBond.D)) (m:Nat) (st_:St) (K:KX):Prop:=True/\bI (t:=TBond) (s49_0 tables bonds) bonds (F.gi tables bonds) (fun v0:Unit=>True) (aR (fun v0:Unit=>True->K (.exit 0) (⟨[(1,.data (Ty.sl TBond) bonds)],[]⟩:St)) (fun q0:Unit=>K .ret (⟨[(4,dB false)],[]⟩:St))) m st_
def L49 (tables:LTb) (bonds:(List TBond.D)):aW:=lp1 0 (LP49_0 tables bonds)
theorem vc49 (tables:LTb) (bonds:(List TBond.D)) (K:KA):vcT C49 (L49 tables bonds) ann49 f49 [.data TTb tables,.data (Ty.sl TBond) bonds] [] (.dat Ty.bool) K =
 (∃m_,True/\bI (t:=TBond) (s49_0 tables bonds) bonds (F.gi tables bonds) (fun v0:Unit=>True) (aR (fun v0:Unit=>True->K (dB (decide ((bonds.length:Int)<=Z4))) []) (fun q0:Unit=>K (dB false) [])) m_ (s49_0 tables bonds Z0 ())):=by kernel_rfl
theorem lvc49_0 (tables:LTb) (bonds:(List TBond.D))  (i0:Int) (v0:Unit) (m:Nat) (K:KX):lvT C49 (L49 tables bonds) ann49 f49 0 0 (s49_0 tables bonds i0 v0) m K =
 (cond (decide (i0<(bonds.length:Int))) ((0<=i0)/\(i0<(bonds.length:Int))/\(Sm TTb tables)/\(Sm TBond (nth (t:=TBond) bonds i0))/\cond (!decide ((M.de tables (nth (t:=TBond) bonds i0))=(-1:Int))) (K .ret (⟨[(4,dB false)],[]⟩:St)) (nxT (LP49_0 tables bonds) m K (s49_0 tables bonds (wrap64 (i0+Z1)) ()))) (K (.exit 0) (⟨[(1,.data (Ty.sl TBond) bonds)],[]⟩:St))):=by kernel_rfl
theorem con49_ok:aN P 49 c49:=aP C49 func49 (kC con109_ok kN) fun args hp K h0=>by
 obtain⟨tables,bonds,rfl,rfl,h_tables,h_bonds,hK⟩:=g2e h0
 have h:ok (F.mh tables bonds) (fun r=>K (dB r) []):=ak (F.uL tables bonds h_tables h_bonds) hK
 refine⟨rfl,ann49,(L49 tables bonds),(.dat Ty.bool),(aI (i0:=0) (by kernel_rfl) ?_),?_⟩
 ·rintro _ _ K ⟨hc0,i0,v0,rfl,hl0,rfl,hv0,h⟩
  exact cast (lvc49_0 _ _ _ _ _ _).symm (br (t:=TBond) hl0 h (fun ht0 h=>⟨hl0,⟨ht0,⟨h_tables,⟨(ay h_bonds i0),(oC h (fun _ h=>h) fun _ h=>(aT (t:=TBond) (fun _ hm=>⟨hc0,hm⟩) _ rfl hl0 ht0 (aM h_bonds) trivial h))⟩⟩⟩⟩) fun h=>(h trivial))
 ·rw[vc49]
  exact(aZ (t:=TBond) (fun m hm=>⟨trivial,hm⟩) _ rfl trivial (aF h (fun v0 h hv0=>h) (fun q0 h=>h)))
def c110:Con:=⟨[.dat TVS],fun args hp K=>g1 (pD TVS) (fun row=>(Sm TVS row)/\(LD row fun r=>K (.own 0 none) [(0,.arr .sh aa r)])) args hp,.bor,false⟩
abbrev C110:Ctx:=cx [] 6 [] 0 false
def ann110:=an [[kp 1],[kp 4]] []
theorem vc110 (row:LV) (K:KA):vcT C110 aq ann110 f110 [.data TVS row] [] .raw K =
 (((([]:List aa.D).length+row.length) * 32<=lim)/\K (.own 0 none) [(0,.arr .sh aa ([]++row))]):=by kernel_rfl
theorem con110_ok:aN P 110 c110:=aP C110 func110 kN fun args hp K h0=>by
 obtain⟨row,rfl,rfl,h_row,hK⟩:=g1e h0
 have h:ok (F.zj row) (fun r=>K (.own 0 none) [(0,.arr .sh aa r)]):=ak (F.AW row h_row) (hK _ rfl)
 refine⟨rfl,ann110,aq,.raw,(az (by kernel_rfl)),?_⟩
 ·rw[vc110]
  exact⟨(rZ (Ao aa) h_row rfl),h⟩
def c50:Con:=⟨[.dat TTb],fun args hp K=>g1 (pD TTb) (fun tables=>(Sm TTb tables)/\(LD tables fun r=>K (.own 0 none) [(0,.arr .dp TTable r)])) args hp,.bor,false⟩
abbrev C50:Ctx:=cx [(110,c110)] 51 [] 0 true
def ann50:=an [[kp 1],[kp 9],[kp 25],[kp 2073],[kp 25],[kp 57],[.mineC .dp 5 1 800081 TVS,kp 121],[kp 536871033],[kp 121],[kp 121],[kp 25],[kp 4]] [[kp 8],[],[kp 57]]
abbrev s50_0 (tables:LTb) (i0:Int) (v0:LTb):St:=⟨[(0,.data TTb tables),(3,.own 7 none),(4,dI i0)],[(7,.arr .dp TTable v0)]⟩
abbrev LP50_0 (tables:LTb) (m:Nat) (st_:St) (K:KX):Prop:=True/\aY (s50_0 tables) Z0 (tables.length:Int) (F.gd tables) (fun v0:LTb=>True) (aR (fun v0:LTb=>True->K (.exit 0) (⟨[(3,.own 7 none)],[(7,.arr .dp TTable v0)]⟩:St)) (fun _=>False)) m st_
abbrev s50_2 (tables:LTb) (c2_0:Int) (c2_1:LTb) (c2_2:LC) (v2:Int×(List LV)):St:=⟨[(0,.data TTb tables),(3,.own 7 none),(4,dI c2_0),(5,.ptr 5 0),(6,dI v2.1)],[(7,.arr .dp TTable c2_1),(5,.box [.own 14 none,.own 800081 none]),(14,.arr .sh ai c2_2),(800081,.arr .dp TVS v2.2)]⟩
abbrev LP50_2 (tables:LTb) (m:Nat) (st_:St) (K:KX):Prop:=∃c2_0:Int,∃c2_1:LTb,∃c2_2:LC,True/\qt (s50_2 tables c2_0 c2_1 c2_2) (F.ew tables c2_0 c2_1 c2_2) (fun v2:Int×(List LV)=>True) (fun e2:(List LV)=>True->K (.exit 2) (⟨[(0,.data TTb tables),(3,.own 7 none),(4,dI c2_0),(5,.ptr 5 0)],[(7,.arr .dp TTable c2_1),(5,.box [.own 14 none,.own 800081 none]),(14,.arr .sh ai c2_2),(800081,.arr .dp TVS e2)]⟩:St)) m st_
def L50 (tables:LTb):aW:=lp2 0 (LP50_0 tables) 2 (LP50_2 tables)
theorem vc50 (tables:LTb) (K:KA):vcT C50 (L50 tables) ann50 f50 [.data TTb tables] [] .raw K =
 (∃m_,True/\aY (s50_0 tables) Z0 (tables.length:Int) (F.gd tables) (fun v0:LTb=>True) (aR (fun v0:LTb=>True->K (.own 0 none) [(0,.arr .dp TTable v0)]) (fun _=>False)) m_ (s50_0 tables Z0 [])):=by kernel_rfl
theorem lvc50_0 (tables:LTb)  (i0:Int) (v0:LTb) (m:Nat) (K:KX):lvT C50 (L50 tables) ann50 f50 0 0 (s50_0 tables i0 v0) m K =
 (cond (decide (i0<(tables.length:Int))) ((0<=i0)/\(i0<(tables.length:Int))/\((([]:List ai.D).length+(nT tables i0).1.length) * 16<=lim)/\(∃m_,∃c2_0:Int,∃c2_1:LTb,∃c2_2:LC,True/\qt (s50_2 tables c2_0 c2_1 c2_2) (F.ew tables c2_0 c2_1 c2_2) (fun v2:Int×(List LV)=>True) (fun e2:(List LV)=>True->((c2_1.length+[(c2_2,(e2,()))].length) * 48<=lim)/\(nxT (LP50_0 tables) m K (s50_0 tables (wrap64 (c2_0+Z1)) (c2_1++[(c2_2,(e2,()))])))) m_ (s50_2 tables i0 v0 ([]++(nT tables i0).1) (Z0,[])))) (K (.exit 0) (⟨[(3,.own 7 none)],[(7,.arr .dp TTable v0)]⟩:St))):=by kernel_rfl
theorem lvc50_1 (tables:LTb) (c2_0:Int) (c2_1:LTb) (c2_2:LC) (v2:Int×(List LV)) (m:Nat) (K:KX):lvT C50 (L50 tables) ann50 f50 1 2 (s50_2 tables c2_0 c2_1 c2_2 v2) m K =
 ((0<=c2_0)/\(c2_0<(tables.length:Int))/\cond (decide (v2.1<((nT tables c2_0).2.1.length:Int))) ((0<=c2_0)/\(c2_0<(tables.length:Int))/\(0<=v2.1)/\(v2.1<((nT tables c2_0).2.1.length:Int))/\(Sm TVS (nth (t:=TVS) (nT tables c2_0).2.1 v2.1))/\(LD (nth (t:=TVS) (nT tables c2_0).2.1 v2.1) fun r1=>((v2.2.length+[r1].length) * 24<=lim)/\(nxT (LP50_2 tables) m K (s50_2 tables c2_0 c2_1 c2_2 (wrap64 (v2.1+Z1),(v2.2++[r1])))))) (K (.exit 2) (⟨[(0,.data TTb tables),(3,.own 7 none),(4,dI c2_0),(5,.ptr 5 0)],[(7,.arr .dp TTable c2_1),(5,.box [.own 14 none,.own 800081 none]),(14,.arr .sh ai c2_2),(800081,.arr .dp TVS v2.2)]⟩:St))):=by kernel_rfl
theorem con50_ok:aN P 50 c50:=aP C50 func50 (kC con110_ok kN) fun args hp K h0=>by
 obtain⟨tables,rfl,rfl,h_tables,hK⟩:=g1e h0
 have h:ok (F.mg tables) (fun r=>K (.own 0 none) [(0,.arr .dp TTable r)]):=ak (F.uT tables h_tables) (hK _ rfl)
 refine⟨rfl,ann50,(L50 tables),.raw,(HJ (i0:=0) (i1:=2) (by kernel_rfl) ?_ ?_),?_⟩
 ·rintro _ _ K ⟨hc0,i0,v0,rfl,hl0,rfl,hv0,h⟩
  exact cast (lvc50_0 _ _ _ _ _).symm (aL h (fun ht0 h=>⟨hl0,⟨ht0,⟨(rZ (Ao ai) (ay h_tables i0).1 rfl),(kG (fun m hm=>⟨i0,v0,([]++(nT tables i0).1),trivial,hm⟩) _ rfl trivial (yH h (fun e2 h hv2=>(oG h fun _ h=>(aE (fun _ hm=>⟨hc0,hm⟩) _ rfl hl0 dG ht0 (aM h_tables) trivial h)))))⟩⟩⟩) fun h=>(h trivial))
 ·rintro _ _ K ⟨c2_0,c2_1,c2_2,hc2,v2,rfl,hv2,h⟩
  exact cast (lvc50_1 _ _ _ _ _ _ _).symm (me h (fun m1 hm2 h=>(oG h fun g1 h=>(oG h fun g2 h=>(oC h (fun _ h=>⟨g1,⟨g2,(oG h fun _ h=>(oG h fun _ h=>⟨(ay (ay h_tables c2_0).2.1 v2.1),(oL h fun _ _ h=>(oG h fun _ h=>(mw (fun _ hm=>⟨c2_0,c2_1,c2_2,hc2,hm⟩) hm2 _ rfl trivial h)))⟩))⟩⟩) fun _ h=>((qH h :) trivial))))))
 ·rw[vc50]
  exact(aD (fun m hm=>⟨trivial,hm⟩) Z0 _ rfl (Int.natCast_nonneg 0) trivial (aF h (fun v0 h hv0=>h) (fun _ h=>h.elim)))
def c145:Con:=⟨[.lent TVS,.dat TVS],fun args hp K=>g2 (pB TVS) (pD TVS) (fun rows row=>(Sm (Ty.sl TVS) rows)/\(Sm TVS row)/\K (dI (M.cz rows row:Int)) []) args hp,.plain,false⟩
abbrev C145:Ctx:=cx [(153,c153)] 22 [] 0 false
def ann145:=an [[kp 3],[kp 35],[kp 99],[kp 1123],[kp 99],[kp 262243],[kp 99],[kp 16]] [[kp 32]]
abbrev s145_0 (rows:(List LV)) (row:LV) (i0:Int) (v0:Int):St:=⟨[(0,.brw TVS rows),(1,.data TVS row),(5,dI v0),(6,dI i0)],[]⟩
abbrev LP145_0 (rows:(List LV)) (row:LV) (m:Nat) (st_:St) (K:KX):Prop:=True/\bI (t:=TVS) (s145_0 rows row) rows (F.fP rows row) (fun v0:Int=>True) (aR (fun v0:Int=>True->K (.exit 0) (⟨[(5,dI v0)],[]⟩:St)) (fun _=>False)) m st_
def L145 (rows:(List LV)) (row:LV):aW:=lp1 0 (LP145_0 rows row)
theorem vc145 (rows:(List LV)) (row:LV) (K:KA):vcT C145 (L145 rows row) ann145 f145 [.brw TVS rows,.data TVS row] [] (.dat au) K =
 (∃m_,True/\bI (t:=TVS) (s145_0 rows row) rows (F.fP rows row) (fun v0:Int=>True) (aR (fun v0:Int=>True->K (dI v0) []) (fun _=>False)) m_ (s145_0 rows row Z0 Z0)):=by kernel_rfl
theorem lvc145_0 (rows:(List LV)) (row:LV)  (i0:Int) (v0:Int) (m:Nat) (K:KX):lvT C145 (L145 rows row) ann145 f145 0 0 (s145_0 rows row i0 v0) m K =
 (cond (decide (i0<(rows.length:Int))) ((0<=i0)/\(i0<(rows.length:Int))/\(Sm TVS (nth (t:=TVS) rows i0))/\(Sm TVS row)/\cond (decide ((nth (t:=TVS) rows i0)=row)) (nxT (LP145_0 rows row) m K (s145_0 rows row (wrap64 (i0+Z1)) (wrap64 (v0+Z1)))) (nxT (LP145_0 rows row) m K (s145_0 rows row (wrap64 (i0+Z1)) v0))) (K (.exit 0) (⟨[(5,dI v0)],[]⟩:St))):=by kernel_rfl
theorem con145_ok:aN P 145 c145:=aP C145 func145 (kC con153_ok kN) fun args hp K h0=>by
 obtain⟨rows,row,rfl,rfl,h_rows,h_row,hK⟩:=g2e h0
 have h:ok (F.pE rows row) (fun r=>K (dI r) []):=ak (F.yx rows row h_rows h_row) hK
 refine⟨rfl,ann145,(L145 rows row),(.dat au),(aI (i0:=0) (by kernel_rfl) ?_),?_⟩
 ·rintro _ _ K ⟨hc0,i0,v0,rfl,hl0,rfl,hv0,h⟩
  exact cast (lvc145_0 _ _ _ _ _ _).symm (br (t:=TVS) hl0 h (fun ht0 h=>⟨hl0,⟨ht0,⟨(ay h_rows i0),⟨h_row,(oC h (fun _ h=>(aT (t:=TVS) (fun _ hm=>⟨hc0,hm⟩) _ rfl hl0 ht0 (aM h_rows) trivial h)) fun _ h=>(aT (t:=TVS) (fun _ hm=>⟨hc0,hm⟩) _ rfl hl0 ht0 (aM h_rows) trivial h))⟩⟩⟩⟩) fun h=>(h trivial))
 ·rw[vc145]
  exact(aZ (t:=TVS) (fun m hm=>⟨trivial,hm⟩) _ rfl trivial (aF h (fun v0 h hv0=>h) (fun _ h=>h.elim)))
def c79:Con:=⟨[.dat TTb,.dat TChange],fun args hp K=>g2 (pD TTb) (pD TChange) (fun tables c=>(Sm TTb tables)/\(Sm TChange c)/\K (dB (M.bf tables c)) []) args hp,.bor,false⟩
abbrev C79:Ctx:=cx [(48,c48),(143,c143),(144,c144),(145,c145)] 46 [] 0 false
def ann79:=an [[.fixRow 3 TChange,kp 9],[kp 536870921],[kp 16],[kp 40],[kp 137438953512],[kp 16],[kp 16]] []
theorem vc79 (tables:LTb) (c:TChange.D) (K:KA):vcT C79 aq ann79 f79 [.data TTb tables,.data TChange c] [] (.dat Ty.bool) K =
 ((Sm TTb tables)/\cond ((!(M.aA tables))==false) (cond ((!(M.inR c.1 Z0 (wrap64 ((tables.length:Int)-Z1))))==false) ((0<=c.1)/\(c.1<(tables.length:Int))/\(Sm TCS (nT tables c.1).1)/\(Sm TVS c.2.1)/\cond (!(M.bH (nT tables c.1).1 c.2.1)) (K (dB false) []) ((0<=c.1)/\(c.1<(tables.length:Int))/\cond c.2.2.1 (K (dB (decide (((nT tables c.1).2.1.length:Int)<Z6))) []) ((Sm (Ty.sl TVS) (nT tables c.1).2.1)/\(Sm TVS c.2.1)/\K (dB (decide (Z0<(M.cz (nT tables c.1).2.1 c.2.1:Int)))) []))) (K (dB false) [])) (K (dB false) [])):=by kernel_rfl
theorem con79_ok:aN P 79 c79:=aP C79 func79 (kC con48_ok (kC con143_ok (kC con144_ok (kC con145_ok kN)))) fun args hp K h0=>by
 obtain⟨tables,c,rfl,rfl,h_tables,h_c,hK⟩:=g2e h0
 have h:ok (F.nK tables c) (fun r=>K (dB r) []):=ak (F.wH tables c h_tables h_c) hK
 refine⟨rfl,ann79,aq,(.dat Ty.bool),(az (by kernel_rfl)),?_⟩
 ·rw[vc79]
  exact⟨h_tables,(oC h (fun _ h=>(oC h (fun b_2 h=>⟨(jD (bnf (bgt b_2))),⟨(ov (bnf (bgt b_2))),⟨(ay h_tables c.1).1,⟨h_c.2.1,(oC h (fun _ h=>h) fun _ h=>⟨(jD (bnf (bgt b_2))),⟨(ov (bnf (bgt b_2))),(oC h (fun _ h=>h) fun _ h=>⟨(ay h_tables c.1).2.1,⟨h_c.2.1,h⟩⟩)⟩⟩)⟩⟩⟩⟩) fun _ h=>h)) fun _ h=>h)⟩
def c111:Con:=⟨[.dat (Ty.sl TVS),.dat (Ty.sl TVS)],fun args hp K=>g2 (pD (Ty.sl TVS)) (pD (Ty.sl TVS)) (fun a b=>(Sm (Ty.sl TVS) a)/\(Sm (Ty.sl TVS) b)/\(LD (M.mH a b) fun r=>K (.own 0 none) [(0,.arr .dp TVS r)])) args hp,.bor,false⟩
abbrev C111:Ctx:=cx [(110,c110),(145,c145)] 45 [] 0 true
def ann111:=an [[kp 3],[kp 35],[.weak 9,kp 99],[kp 227],[kp 8419],[kp 227],[kp 268435683],[kp 227],[kp 227],[kp 16]] [[kp 32]]
abbrev s111_0 (a:(List LV)) (b:(List LV)) (i0:Int) (v0:(List LV)×(List LV)):St:=⟨[(0,.data (Ty.sl TVS) a),(1,.data (Ty.sl TVS) b),(5,.own 8 none),(6,.own 9 none),(7,dI i0)],[(8,.arr .dp TVS v0.1),(9,.arr .sh TVS v0.2)]⟩
abbrev LP111_0 (a:(List LV)) (b:(List LV)) (m:Nat) (st_:St) (K:KX):Prop:=True/\bI (t:=TVS) (s111_0 a b) a (F.gX a b) (fun v0:(List LV)×(List LV)=>True) (aR (fun v0:(List LV)×(List LV)=>True->K (.exit 0) (⟨[(5,.own 8 none)],[(8,.arr .dp TVS v0.1)]⟩:St)) (fun _=>False)) m st_
def L111 (a:(List LV)) (b:(List LV)):aW:=lp1 0 (LP111_0 a b)
theorem vc111 (a:(List LV)) (b:(List LV)) (K:KA):vcT C111 (L111 a b) ann111 f111 [.data (Ty.sl TVS) a,.data (Ty.sl TVS) b] [] .raw K =
 (∃m_,True/\bI (t:=TVS) (s111_0 a b) a (F.gX a b) (fun v0:(List LV)×(List LV)=>True) (aR (fun v0:(List LV)×(List LV)=>True->K (.own 0 none) [(0,.arr .dp TVS v0.1)]) (fun _=>False)) m_ (s111_0 a b Z0 ([],[]))):=by kernel_rfl
theorem lvc111_0 (a:(List LV)) (b:(List LV))  (i0:Int) (v0:(List LV)×(List LV)) (m:Nat) (K:KX):lvT C111 (L111 a b) ann111 f111 0 0 (s111_0 a b i0 v0) m K =
 (cond (decide (i0<(a.length:Int))) ((0<=i0)/\(i0<(a.length:Int))/\(0<=i0)/\(i0<(a.length:Int))/\(Sm (Ty.sl TVS) v0.2)/\(Sm TVS (nth (t:=TVS) a i0))/\(Sm (Ty.sl TVS) b)/\(Sm TVS (nth (t:=TVS) a i0))/\cond (decide ((M.cz v0.2 (nth (t:=TVS) a i0):Int)<(M.cz b (nth (t:=TVS) a i0):Int))) ((0<=i0)/\(i0<(a.length:Int))/\((v0.2.length+[(nth (t:=TVS) a i0)].length) * 24<=lim)/\(nxT (LP111_0 a b) m K (s111_0 a b (wrap64 (i0+Z1)) (v0.1,(v0.2++[(nth (t:=TVS) a i0)]))))) ((0<=i0)/\(i0<(a.length:Int))/\(Sm TVS (nth (t:=TVS) a i0))/\(LD (nth (t:=TVS) a i0) fun r1=>((v0.1.length+[r1].length) * 24<=lim)/\(nxT (LP111_0 a b) m K (s111_0 a b (wrap64 (i0+Z1)) ((v0.1++[r1]),v0.2)))))) (K (.exit 0) (⟨[(5,.own 8 none)],[(8,.arr .dp TVS v0.1)]⟩:St))):=by kernel_rfl
theorem con111_ok:aN P 111 c111:=aP C111 func111 (kC con110_ok (kC con145_ok kN)) fun args hp K h0=>by
 obtain⟨a,b,rfl,rfl,h_a,h_b,hK⟩:=g2e h0
 have h:ok (F.oa a b) (fun r=>K (.own 0 none) [(0,.arr .dp TVS r)]):=ak (F.vN a b h_a h_b) (hK _ rfl)
 refine⟨rfl,ann111,(L111 a b),.raw,(aI (i0:=0) (by kernel_rfl) ?_),?_⟩
 ·rintro _ _ K ⟨hc0,i0,v0,rfl,hl0,rfl,hv0,h⟩
  exact cast (lvc111_0 _ _ _ _ _ _).symm (br (t:=TVS) hl0 h (fun ht0 h=>⟨hl0,⟨ht0,⟨hl0,⟨ht0,(oG h fun _ h=>⟨(ay h_a i0),⟨h_b,⟨(ay h_a i0),(oC h (fun _ h=>⟨hl0,⟨ht0,(oG h fun _ h=>(aT (t:=TVS) (fun _ hm=>⟨hc0,hm⟩) _ rfl hl0 ht0 (aM h_a) trivial h))⟩⟩) fun _ h=>⟨hl0,⟨ht0,⟨(ay h_a i0),(oL h fun _ _ h=>(oG h fun _ h=>(aT (t:=TVS) (fun _ hm=>⟨hc0,hm⟩) _ rfl hl0 ht0 (aM h_a) trivial h)))⟩⟩⟩)⟩⟩⟩)⟩⟩⟩⟩) fun h=>(h trivial))
 ·rw[vc111]
  exact(aZ (t:=TVS) (fun m hm=>⟨trivial,hm⟩) _ rfl trivial (aF h (fun v0 h hv0=>h) (fun _ h=>h.elim)))
def c51:Con:=⟨[.dat TTb,.dat TChange],fun args hp K=>g2 (pD TTb) (pD TChange) (fun tables c=>(Sm TTb tables)/\(Sm TChange c)/\(LD (cond (M.bf tables c) (M.bu tables c) [],M.bf tables c) fun r=>K (.tup [.own 0 none,dB r.2]) [(0,.arr .dp TTable r.1)])) args hp,.bor,false⟩
abbrev C51:Ctx:=cx [(50,c50),(79,c79),(110,c110),(111,c111)] 48 [] 0 true
def ann51:=an [[.fixRow 3 TChange,kp 9],[kp 1033],[kp 48],[kp 72],[kp 32840],[kp 64],[kp 64],[kp 48]] []
theorem vc51 (tables:LTb) (c:TChange.D) (K:KA):vcT C51 aq ann51 f51 [.data TTb tables,.data TChange c] [] .raw K =
 ((Sm TTb tables)/\(Sm TChange c)/\cond (!(M.bf tables c)) (K (.tup [.own 0 none,dB false]) [(0,.arr .dp TTable [])]) ((Sm TTb tables)/\(LD tables fun r1=>cond c.2.2.1 ((0<=c.1)/\(c.1<(r1.length:Int))/\(Sm TVS c.2.1)/\(LD c.2.1 fun r2=>(((nT r1 c.1).2.1.length+[r2].length) * 24<=lim)/\(0<=c.1)/\(c.1<((r1.set c.1.toNat ((nT r1 c.1).1,([],()))).length:Int))/\(c.1=c.1)/\(let y1:LTb:=((r1.set c.1.toNat ((nT r1 c.1).1,([],()))).set c.1.toNat ((nT (r1.set c.1.toNat ((nT r1 c.1).1,([],()))) c.1).1,(((nT r1 c.1).2.1++[r2]),())));K (.tup [.own 0 none,dB true]) [(0,.arr .dp TTable y1)]))) ((0<=c.1)/\(c.1<(r1.length:Int))/\(Sm (Ty.sl TVS) (nT r1 c.1).2.1)/\(Sm (Ty.sl TVS) [c.2.1])/\(LD (M.mH (nT r1 c.1).2.1 [c.2.1]) fun r3=>(0<=c.1)/\(c.1<(r1.length:Int))/\K (.tup [.own 0 none,dB true]) [(0,.arr .dp TTable (r1.set c.1.toNat ((nT r1 c.1).1,(r3,()))))]))))):=by kernel_rfl
theorem con51_ok:aN P 51 c51:=aP C51 func51 (kC con50_ok (kC con79_ok (kC con110_ok (kC con111_ok kN)))) fun args hp K h0=>by
 obtain⟨tables,c,rfl,rfl,h_tables,h_c,hK⟩:=g2e h0
 have h:ok (F.jI tables c) (fun r=>K (.tup [.own 0 none,dB r.2]) [(0,.arr .dp TTable r.1)]):=ak (F.su tables c h_tables h_c) (hK _ rfl)
 refine⟨rfl,ann51,aq,.raw,(az (by kernel_rfl)),?_⟩
 ·rw[vc51]
  exact⟨h_tables,⟨h_c,(oC h (fun _ h=>h) fun _ h=>⟨h_tables,(oL h fun _ _ h=>(oC h (fun _ h=>(oG h fun g1 h=>(oG h fun _ h=>⟨h_c.2.1,(oL h fun _ _ h=>(oG h fun _ h=>⟨g1,(oG h fun _ h=>⟨rfl,(have h:=fI h _ rfl;h)⟩)⟩))⟩))) fun _ h=>(oG h fun g2 h=>(oG h fun g3 h=>(oG h fun _ h=>⟨(zS h_c.2.1),(oL h fun _ _ h=>⟨g2,⟨g3,h⟩⟩)⟩)))))⟩)⟩⟩
def c12:Con:=⟨[.dat TTb,.dat (Ty.sl TBond),.dat (Ty.sl TChange)],fun args hp K=>g3 (pD TTb) (pD (Ty.sl TBond)) (pD (Ty.sl TChange)) (fun tables bonds changes=>(Sm TTb tables)/\(Sm (Ty.sl TBond) bonds)/\(Sm (Ty.sl TChange) changes)/\(LD (M.cE tables bonds changes) fun r=>K (.tup [.data TTb r.1,dB r.2]) [])) args hp,.plain,false⟩
abbrev C12:Ctx:=cx [(48,c48),(49,c49),(50,c50),(51,c51)] 52 [] 0 false
def ann12:=an [[kp 7],[kp 33554439],[kp 192],[.weak 28,kp 262],[kp 774],[kp 4294968070],[.ren 8 28,kp 774],[.weak 41,kp 3846],[kp 562949953423110],[kp 774],[kp 192]] [[kp 256]]
abbrev s12_0 (tables:LTb) (bonds:(List TBond.D)) (changes:(List TChange.D)) (i0:Int) (v0:LTb):St:=⟨[(1,.data (Ty.sl TBond) bonds),(2,.data (Ty.sl TChange) changes),(8,.own 28 none),(9,dI i0)],[(28,.arr .sh TTable v0)]⟩
abbrev LP12_0 (tables:LTb) (bonds:(List TBond.D)) (changes:(List TChange.D)) (m:Nat) (st_:St) (K:KX):Prop:=True/\bI (t:=TChange) (s12_0 tables bonds changes) changes (F.dR tables bonds changes) (fun v0:LTb=>True) (aR (fun v0:LTb=>True->K (.exit 0) (⟨[(8,.own 28 none)],[(28,.arr .sh TTable v0)]⟩:St)) (fun _=>False)) m st_
def L12 (tables:LTb) (bonds:(List TBond.D)) (changes:(List TChange.D)):aW:=lp1 0 (LP12_0 tables bonds changes)
theorem vc12 (tables:LTb) (bonds:(List TBond.D)) (changes:(List TChange.D)) (K:KA):vcT C12 (L12 tables bonds changes) ann12 f12 [.data TTb tables,.data (Ty.sl TBond) bonds,.data (Ty.sl TChange) changes] [] (.tup [TTb,Ty.bool]) K =
 ((Sm TTb tables)/\cond ((!(M.aA tables))==false) ((Sm TTb tables)/\(Sm (Ty.sl TBond) bonds)/\cond ((!(M.bA tables bonds))==false) (cond (decide ((8:Int)<(changes.length:Int))) (K (.tup [.data TTb [],dB false]) []) ((Sm TTb tables)/\(LD tables fun r1=>(∃m_,True/\bI (t:=TChange) (s12_0 tables bonds changes) changes (F.dR tables bonds changes) (fun v0:LTb=>True) (aR (fun v0:LTb=>True->K (.tup [.data TTb v0,dB true]) []) (fun _=>False)) m_ (s12_0 tables bonds changes Z0 r1))))) (K (.tup [.data TTb [],dB false]) [])) (K (.tup [.data TTb [],dB false]) [])):=by kernel_rfl
theorem lvc12_0 (tables:LTb) (bonds:(List TBond.D)) (changes:(List TChange.D))  (i0:Int) (v0:LTb) (m:Nat) (K:KX):lvT C12 (L12 tables bonds changes) ann12 f12 0 0 (s12_0 tables bonds changes i0 v0) m K =
 (cond (decide (i0<(changes.length:Int))) ((0<=i0)/\(i0<(changes.length:Int))/\(Sm TTb v0)/\(Sm TChange (nth (t:=TChange) changes i0))/\(LD (cond (M.bf v0 (nth (t:=TChange) changes i0)) (M.bu v0 (nth (t:=TChange) changes i0)) [],M.bf v0 (nth (t:=TChange) changes i0)) fun r2=>cond (r2.2==true) ((Sm TTb r2.1)/\(Sm (Ty.sl TBond) bonds)/\cond (M.bA r2.1 bonds) (nxT (LP12_0 tables bonds changes) m K (s12_0 tables bonds changes (wrap64 (i0+Z1)) r2.1)) (nxT (LP12_0 tables bonds changes) m K (s12_0 tables bonds changes (wrap64 (i0+Z1)) v0))) (nxT (LP12_0 tables bonds changes) m K (s12_0 tables bonds changes (wrap64 (i0+Z1)) v0)))) (K (.exit 0) (⟨[(8,.own 28 none)],[(28,.arr .sh TTable v0)]⟩:St))):=by kernel_rfl
theorem con12_ok:aN P 12 c12:=aP C12 func12 (kC con48_ok (kC con49_ok (kC con50_ok (kC con51_ok kN)))) fun args hp K h0=>by
 obtain⟨tables,bonds,changes,rfl,rfl,h_tables,h_bonds,h_changes,hK⟩:=g3e h0
 have h:ok (F.kP tables bonds changes) (fun r=>K (.tup [.data TTb r.1,dB r.2]) []):=ak (F.tr tables bonds changes h_tables h_bonds h_changes) (hK _ rfl)
 refine⟨rfl,ann12,(L12 tables bonds changes),(.tup [TTb,Ty.bool]),(aI (i0:=0) (by kernel_rfl) ?_),?_⟩
 ·rintro _ _ K ⟨hc0,i0,v0,rfl,hl0,rfl,hv0,h⟩
  exact cast (lvc12_0 _ _ _ _ _ _ _).symm (br (t:=TChange) hl0 h (fun ht0 h=>⟨hl0,⟨ht0,(oG h fun _ h=>⟨(ay h_changes i0),(oL h fun _ _ h=>(oC h (fun _ h=>(oG h fun _ h=>⟨h_bonds,(oC h (fun _ h=>(aT (t:=TChange) (fun _ hm=>⟨hc0,hm⟩) _ rfl hl0 ht0 (aM h_changes) trivial h)) fun _ h=>(aT (t:=TChange) (fun _ hm=>⟨hc0,hm⟩) _ rfl hl0 ht0 (aM h_changes) trivial h))⟩)) fun _ h=>(aT (t:=TChange) (fun _ hm=>⟨hc0,hm⟩) _ rfl hl0 ht0 (aM h_changes) trivial h)))⟩)⟩⟩) fun h=>(h trivial))
 ·rw[vc12]
  exact⟨h_tables,(oC h (fun _ h=>⟨h_tables,⟨h_bonds,(oC h (fun _ h=>(oC h (fun _ h=>h) fun _ h=>⟨h_tables,(oL h fun _ _ h=>(aZ (t:=TChange) (fun m hm=>⟨trivial,hm⟩) _ rfl trivial (aF h (fun v0 h hv0=>h) (fun _ h=>h.elim))))⟩)) fun _ h=>h)⟩⟩) fun _ h=>h)⟩
def c179:Con:=⟨[.dat ai],fun args hp K=>g1 (pD ai) (fun x=>(LD x fun r=>K (.data ai r) [])) args hp,.plain,false⟩
abbrev C179:Ctx:=cx [] 11 [] 0 false
def ann179:=an [[.fixRow 1 ai,kp 6],[kp 14],[kp 14],[kp 12],[kp 4]] []
theorem vc179 (x:ai.D) (K:KA):vcT C179 aq ann179 f179 [.data ai x] [] (.dat ai) K =
 (K (.data ai x) []):=by kernel_rfl
theorem con179_ok:aN P 179 c179:=aP C179 func179 kN fun args hp K h0=>by
 obtain⟨x,rfl,rfl,hK⟩:=g1e h0
 have h:ok (F.sM x) (fun r=>K (.data ai r) []):=ak (F.wm x) (hK _ rfl)
 refine⟨rfl,ann179,aq,(.dat ai),(az (by kernel_rfl)),?_⟩
 ·rw[vc179]
  exact h
def c112:Con:=⟨[.dat TCS],fun args hp K=>g1 (pD TCS) (fun x=>(Sm TCS x)/\(LD x fun r=>K (.own 0 none) [(0,.arr .sh ai r)])) args hp,.plain,false⟩
abbrev C112:Ctx:=cx [(179,c179)] 23 [] 0 false
def ann112:=an [[kp 1],[kp 9],[kp 25],[kp 2073],[kp 25],[kp 25],[kp 4]] [[kp 8]]
abbrev s112_0 (x:LC) (i0:Int) (v0:LC):St:=⟨[(0,.data TCS x),(3,.own 7 none),(4,dI i0)],[(7,.arr .sh ai v0)]⟩
abbrev LP112_0 (x:LC) (m:Nat) (st_:St) (K:KX):Prop:=True/\aY (s112_0 x) Z0 (x.length:Int) (F.gm x) (fun v0:LC=>True) (aR (fun v0:LC=>True->K (.exit 0) (⟨[(3,.own 7 none)],[(7,.arr .sh ai v0)]⟩:St)) (fun _=>False)) m st_
def L112 (x:LC):aW:=lp1 0 (LP112_0 x)
theorem vc112 (x:LC) (K:KA):vcT C112 (L112 x) ann112 f112 [.data TCS x] [] .raw K =
 (((x.length:Int)=(x.length:Int))/\(0<=(x.length:Int))/\((x.length:Int) * 16<=(lim:Int))/\(∃m_,True/\aY (s112_0 x) Z0 (x.length:Int) (F.gm x) (fun v0:LC=>True) (aR (fun v0:LC=>True->K (.own 0 none) [(0,.arr .sh ai v0)]) (fun _=>False)) m_ (s112_0 x Z0 (List.replicate (x.length:Int).toNat (Z0,(false,())))))):=by kernel_rfl
theorem lvc112_0 (x:LC)  (i0:Int) (v0:LC) (m:Nat) (K:KX):lvT C112 (L112 x) ann112 f112 0 0 (s112_0 x i0 v0) m K =
 (cond (decide (i0<(x.length:Int))) ((0<=i0)/\(i0<(x.length:Int))/\(LD (nC x i0) fun r1=>(0<=i0)/\(i0<(v0.length:Int))/\(nxT (LP112_0 x) m K (s112_0 x (wrap64 (i0+Z1)) (v0.set i0.toNat r1))))) (K (.exit 0) (⟨[(3,.own 7 none)],[(7,.arr .sh ai v0)]⟩:St))):=by kernel_rfl
theorem con112_ok:aN P 112 c112:=aP C112 func112 (kC con179_ok kN) fun args hp K h0=>by
 obtain⟨x,rfl,rfl,h_x,hK⟩:=g1e h0
 have h:ok (F.mU x) (fun r=>K (.own 0 none) [(0,.arr .sh ai r)]):=ak (F.vo x h_x) (hK _ rfl)
 refine⟨rfl,ann112,(L112 x),.raw,(aI (i0:=0) (by kernel_rfl) ?_),?_⟩
 ·rintro _ _ K ⟨hc0,i0,v0,rfl,hl0,rfl,hv0,h⟩
  exact cast (lvc112_0 _ _ _ _ _).symm (aL h (fun ht0 h=>⟨hl0,⟨ht0,(oL h fun _ _ h=>⟨hl0,(oG h fun _ h=>(aE (fun _ hm=>⟨hc0,hm⟩) _ rfl hl0 dG ht0 (aM h_x) trivial h))⟩)⟩⟩) fun h=>(h trivial))
 ·rw[vc112]
  exact⟨rfl,⟨(Int.natCast_nonneg _),⟨(nx h_x rfl),(aD (fun m hm=>⟨trivial,hm⟩) Z0 _ rfl (Int.natCast_nonneg 0) trivial (aF h (fun v0 h hv0=>h) (fun _ h=>h.elim)))⟩⟩⟩
def c154:Con:=⟨[.dat aa],fun args hp K=>g1 (pD aa) (fun x=>(Sm aa x)/\(LD x fun r=>K (.data aa r) [])) args hp,.plain,false⟩
abbrev C154:Ctx:=cx [] 14 [] 0 false
def ann154:=an [[.fixRow 1 aa,kp 6],[kp 14],[kp 14],[kp 14],[kp 12],[kp 4]] []
theorem vc154 (x:aa.D) (K:KA):vcT C154 aq ann154 f154 [.data aa x] [] (.dat aa) K =
 (K (.data aa x) []):=by kernel_rfl
theorem con154_ok:aN P 154 c154:=aP C154 func154 kN fun args hp K h0=>by
 obtain⟨x,rfl,rfl,h_x,hK⟩:=g1e h0
 have h:ok (F.vf x) (fun r=>K (.data aa r) []):=ak (F.xE x h_x) (hK _ rfl)
 refine⟨rfl,ann154,aq,(.dat aa),(az (by kernel_rfl)),?_⟩
 ·rw[vc154]
  exact h
def c83:Con:=⟨[.dat TVS],fun args hp K=>g1 (pD TVS) (fun x=>(Sm TVS x)/\(LD x fun r=>K (.own 0 none) [(0,.arr .sh aa r)])) args hp,.plain,false⟩
abbrev C83:Ctx:=cx [(154,c154)] 23 [] 0 false
def ann83:=an [[kp 1],[kp 9],[kp 25],[kp 2073],[kp 25],[kp 25],[kp 4]] [[kp 8]]
abbrev s83_0 (x:LV) (i0:Int) (v0:LV):St:=⟨[(0,.data TVS x),(3,.own 7 none),(4,dI i0)],[(7,.arr .sh aa v0)]⟩
abbrev LP83_0 (x:LV) (m:Nat) (st_:St) (K:KX):Prop:=True/\aY (s83_0 x) Z0 (x.length:Int) (F.gU x) (fun v0:LV=>True) (aR (fun v0:LV=>True->K (.exit 0) (⟨[(3,.own 7 none)],[(7,.arr .sh aa v0)]⟩:St)) (fun _=>False)) m st_
def L83 (x:LV):aW:=lp1 0 (LP83_0 x)
theorem vc83 (x:LV) (K:KA):vcT C83 (L83 x) ann83 f83 [.data TVS x] [] .raw K =
 (((x.length:Int)=(x.length:Int))/\(0<=(x.length:Int))/\((x.length:Int) * 32<=(lim:Int))/\(∃m_,True/\aY (s83_0 x) Z0 (x.length:Int) (F.gU x) (fun v0:LV=>True) (aR (fun v0:LV=>True->K (.own 0 none) [(0,.arr .sh aa v0)]) (fun _=>False)) m_ (s83_0 x Z0 (List.replicate (x.length:Int).toNat (Z0,(Z0,((⟨#[]⟩:ByteArray),()))))))):=by kernel_rfl
theorem lvc83_0 (x:LV)  (i0:Int) (v0:LV) (m:Nat) (K:KX):lvT C83 (L83 x) ann83 f83 0 0 (s83_0 x i0 v0) m K =
 (cond (decide (i0<(x.length:Int))) ((0<=i0)/\(i0<(x.length:Int))/\(Sm aa (nV x i0))/\(LD (nV x i0) fun r1=>(0<=i0)/\(i0<(v0.length:Int))/\(nxT (LP83_0 x) m K (s83_0 x (wrap64 (i0+Z1)) (v0.set i0.toNat r1))))) (K (.exit 0) (⟨[(3,.own 7 none)],[(7,.arr .sh aa v0)]⟩:St))):=by kernel_rfl
theorem con83_ok:aN P 83 c83:=aP C83 func83 (kC con154_ok kN) fun args hp K h0=>by
 obtain⟨x,rfl,rfl,h_x,hK⟩:=g1e h0
 have h:ok (F.nB x) (fun r=>K (.own 0 none) [(0,.arr .sh aa r)]):=ak (F.wu x h_x) (hK _ rfl)
 refine⟨rfl,ann83,(L83 x),.raw,(aI (i0:=0) (by kernel_rfl) ?_),?_⟩
 ·rintro _ _ K ⟨hc0,i0,v0,rfl,hl0,rfl,hv0,h⟩
  exact cast (lvc83_0 _ _ _ _ _).symm (aL h (fun ht0 h=>⟨hl0,⟨ht0,⟨(ay h_x i0),(oL h fun _ _ h=>⟨hl0,(oG h fun _ h=>(aE (fun _ hm=>⟨hc0,hm⟩) _ rfl hl0 dG ht0 (aM h_x) trivial h))⟩)⟩⟩⟩) fun h=>(h trivial))
 ·rw[vc83]
  exact⟨rfl,⟨(Int.natCast_nonneg _),⟨(nx h_x rfl),(aD (fun m hm=>⟨trivial,hm⟩) Z0 _ rfl (Int.natCast_nonneg 0) trivial (aF h (fun v0 h hv0=>h) (fun _ h=>h.elim)))⟩⟩⟩
def c113:Con:=⟨[.dat (Ty.sl TVS)],fun args hp K=>g1 (pD (Ty.sl TVS)) (fun x=>(Sm (Ty.sl TVS) x)/\(LD x fun r=>K (.own 0 none) [(0,.arr .dp TVS r)])) args hp,.plain,false⟩
abbrev C113:Ctx:=cx [(83,c83)] 23 [] 0 true
def ann113:=an [[kp 1],[kp 9],[kp 25],[kp 2073],[kp 25],[kp 25],[kp 4]] [[kp 8]]
abbrev s113_0 (x:(List LV)) (i0:Int) (v0:(List LV)):St:=⟨[(0,.data (Ty.sl TVS) x),(3,.own 7 none),(4,dI i0)],[(7,.arr .dp TVS v0)]⟩
abbrev LP113_0 (x:(List LV)) (m:Nat) (st_:St) (K:KX):Prop:=True/\aY (s113_0 x) Z0 (x.length:Int) (F.gn x) (fun v0:(List LV)=>True) (aR (fun v0:(List LV)=>True->K (.exit 0) (⟨[(3,.own 7 none)],[(7,.arr .dp TVS v0)]⟩:St)) (fun _=>False)) m st_
def L113 (x:(List LV)):aW:=lp1 0 (LP113_0 x)
theorem vc113 (x:(List LV)) (K:KA):vcT C113 (L113 x) ann113 f113 [.data (Ty.sl TVS) x] [] .raw K =
 (((x.length:Int)=(x.length:Int))/\(0<=(x.length:Int))/\((x.length:Int) * 24<=(lim:Int))/\(∃m_,True/\aY (s113_0 x) Z0 (x.length:Int) (F.gn x) (fun v0:(List LV)=>True) (aR (fun v0:(List LV)=>True->K (.own 0 none) [(0,.arr .dp TVS v0)]) (fun _=>False)) m_ (s113_0 x Z0 (List.replicate (x.length:Int).toNat [])))):=by kernel_rfl
theorem lvc113_0 (x:(List LV))  (i0:Int) (v0:(List LV)) (m:Nat) (K:KX):lvT C113 (L113 x) ann113 f113 0 0 (s113_0 x i0 v0) m K =
 (cond (decide (i0<(x.length:Int))) ((0<=i0)/\(i0<(x.length:Int))/\(Sm TVS (nth (t:=TVS) x i0))/\(LD (nth (t:=TVS) x i0) fun r1=>(0<=i0)/\(i0<(v0.length:Int))/\(nxT (LP113_0 x) m K (s113_0 x (wrap64 (i0+Z1)) (v0.set i0.toNat r1))))) (K (.exit 0) (⟨[(3,.own 7 none)],[(7,.arr .dp TVS v0)]⟩:St))):=by kernel_rfl
theorem con113_ok:aN P 113 c113:=aP C113 func113 (kC con83_ok kN) fun args hp K h0=>by
 obtain⟨x,rfl,rfl,h_x,hK⟩:=g1e h0
 have h:ok (F.mc x) (fun r=>K (.own 0 none) [(0,.arr .dp TVS r)]):=ak (F.vw x h_x) (hK _ rfl)
 refine⟨rfl,ann113,(L113 x),.raw,(aI (i0:=0) (by kernel_rfl) ?_),?_⟩
 ·rintro _ _ K ⟨hc0,i0,v0,rfl,hl0,rfl,hv0,h⟩
  exact cast (lvc113_0 _ _ _ _ _).symm (aL h (fun ht0 h=>⟨hl0,⟨ht0,⟨(ay h_x i0),(oL h fun _ _ h=>⟨hl0,(oG h fun _ h=>(aE (fun _ hm=>⟨hc0,hm⟩) _ rfl hl0 dG ht0 (aM h_x) trivial h))⟩)⟩⟩⟩) fun h=>(h trivial))
 ·rw[vc113]
  exact⟨rfl,⟨(Int.natCast_nonneg _),⟨(nx h_x rfl),(aD (fun m hm=>⟨trivial,hm⟩) Z0 _ rfl (Int.natCast_nonneg 0) trivial (aF h (fun v0 h hv0=>h) (fun _ h=>h.elim)))⟩⟩⟩
abbrev C52:Ctx:=cx [(112,c112),(113,c113)] 13 [] 200000 true
def T52:Inl:=xT C52 (fun _=>[]) (dJ f52) f52.results.toList
theorem inlOk52:yq P 52 T52:=Db C52 func52 (kC con112_ok (kC con113_ok kN))
def c13:Con:=⟨[.dat TTb],fun args hp K=>g1 (pD TTb) (fun x=>(Sm TTb x)/\(LD x fun r=>K (.own 0 none) [(0,.arr .dp TTable r)])) args hp,.plain,false⟩
abbrev C13:Ctx:=cx [] 23 [(52,T52)] 0 true
def ann13:=an [[kp 1],[kp 9],[kp 25],[kp 2073],[kp 25],[kp 25],[kp 4]] [[kp 8]]
abbrev s13_0 (x:LTb) (i0:Int) (v0:LTb):St:=⟨[(0,.data TTb x),(3,.own 7 none),(4,dI i0)],[(7,.arr .dp TTable v0)]⟩
abbrev LP13_0 (x:LTb) (m:Nat) (st_:St) (K:KX):Prop:=True/\aY (s13_0 x) Z0 (x.length:Int) (F.gV x) (fun v0:LTb=>True) (aR (fun v0:LTb=>True->K (.exit 0) (⟨[(3,.own 7 none)],[(7,.arr .dp TTable v0)]⟩:St)) (fun _=>False)) m st_
def L13 (x:LTb):aW:=lp1 0 (LP13_0 x)
theorem vc13 (x:LTb) (K:KA):vcT C13 (L13 x) ann13 f13 [.data TTb x] [] .raw K =
 (((x.length:Int)=(x.length:Int))/\(0<=(x.length:Int))/\((x.length:Int) * 48<=(lim:Int))/\(∃m_,True/\aY (s13_0 x) Z0 (x.length:Int) (F.gV x) (fun v0:LTb=>True) (aR (fun v0:LTb=>True->K (.own 0 none) [(0,.arr .dp TTable v0)]) (fun _=>False)) m_ (s13_0 x Z0 (List.replicate (x.length:Int).toNat ([],([],())))))):=by kernel_rfl
theorem lvc13_0 (x:LTb)  (i0:Int) (v0:LTb) (m:Nat) (K:KX):lvT C13 (L13 x) ann13 f13 0 0 (s13_0 x i0 v0) m K =
 (cond (decide (i0<(x.length:Int))) ((0<=i0)/\(i0<(x.length:Int))/\(Sm TCS (nT x i0).1)/\(LD (nT x i0).1 fun r1=>(Sm (Ty.sl TVS) (nT x i0).2.1)/\(LD (nT x i0).2.1 fun r2=>(0<=i0)/\(i0<(v0.length:Int))/\(nxT (LP13_0 x) m K (s13_0 x (wrap64 (i0+Z1)) (v0.set i0.toNat (r1,(r2,())))))))) (K (.exit 0) (⟨[(3,.own 7 none)],[(7,.arr .dp TTable v0)]⟩:St))):=by kernel_rfl
theorem con13_ok:aN P 13 c13:=aP C13 func13 (kI inlOk52 kN) fun args hp K h0=>by
 obtain⟨x,rfl,rfl,h_x,hK⟩:=g1e h0
 have h:ok (F.nH x) (fun r=>K (.own 0 none) [(0,.arr .dp TTable r)]):=ak (F.vY x h_x) (hK _ rfl)
 refine⟨rfl,ann13,(L13 x),.raw,(aI (i0:=0) (by kernel_rfl) ?_),?_⟩
 ·rintro _ _ K ⟨hc0,i0,v0,rfl,hl0,rfl,hv0,h⟩
  exact cast (lvc13_0 _ _ _ _ _).symm (aL h (fun ht0 h=>⟨hl0,⟨ht0,⟨(ay h_x i0).1,(oL h fun _ _ h=>⟨(ay h_x i0).2.1,(oL h fun _ _ h=>⟨hl0,(oG h fun _ h=>(aE (fun _ hm=>⟨hc0,hm⟩) _ rfl hl0 dG ht0 (aM h_x) trivial h))⟩)⟩)⟩⟩⟩) fun h=>(h trivial))
 ·rw[vc13]
  exact⟨rfl,⟨(Int.natCast_nonneg _),⟨(nx h_x rfl),(aD (fun m hm=>⟨trivial,hm⟩) Z0 _ rfl (Int.natCast_nonneg 0) trivial (aF h (fun v0 h hv0=>h) (fun _ h=>h.elim)))⟩⟩⟩
def c114:Con:=⟨[.dat (Ty.sl au)],fun args hp K=>g1 (pD (Ty.sl au)) (fun x=>(Sm (Ty.sl au) x)/\(LD x fun r=>K (.own 0 none) [(0,.arr .sh au r)])) args hp,.plain,false⟩
abbrev C114:Ctx:=cx [] 22 [] 0 false
def ann114:=an [[kp 1],[kp 9],[kp 25],[kp 2073],[kp 25],[kp 25],[kp 4]] [[kp 8]]
abbrev s114_0 (x:LI) (i0:Int) (v0:LI):St:=⟨[(0,.data (Ty.sl au) x),(3,.own 7 none),(4,dI i0)],[(7,.arr .sh au v0)]⟩
abbrev LP114_0 (x:LI) (m:Nat) (st_:St) (K:KX):Prop:=True/\aY (s114_0 x) Z0 (x.length:Int) (F.je x) (fun v0:LI=>True) (aR (fun v0:LI=>True->K (.exit 0) (⟨[(3,.own 7 none)],[(7,.arr .sh au v0)]⟩:St)) (fun _=>False)) m st_
def L114 (x:LI):aW:=lp1 0 (LP114_0 x)
theorem vc114 (x:LI) (K:KA):vcT C114 (L114 x) ann114 f114 [.data (Ty.sl au) x] [] .raw K =
 (((x.length:Int)=(x.length:Int))/\(0<=(x.length:Int))/\((x.length:Int) * 8<=(lim:Int))/\(∃m_,True/\aY (s114_0 x) Z0 (x.length:Int) (F.je x) (fun v0:LI=>True) (aR (fun v0:LI=>True->K (.own 0 none) [(0,.arr .sh au v0)]) (fun _=>False)) m_ (s114_0 x Z0 (List.replicate (x.length:Int).toNat Z0)))):=by kernel_rfl
theorem lvc114_0 (x:LI)  (i0:Int) (v0:LI) (m:Nat) (K:KX):lvT C114 (L114 x) ann114 f114 0 0 (s114_0 x i0 v0) m K =
 (cond (decide (i0<(x.length:Int))) ((0<=i0)/\(i0<(x.length:Int))/\(0<=i0)/\(i0<(v0.length:Int))/\(nxT (LP114_0 x) m K (s114_0 x (wrap64 (i0+Z1)) (v0.set i0.toNat (nI x i0))))) (K (.exit 0) (⟨[(3,.own 7 none)],[(7,.arr .sh au v0)]⟩:St))):=by kernel_rfl
theorem con114_ok:aN P 114 c114:=aP C114 func114 kN fun args hp K h0=>by
 obtain⟨x,rfl,rfl,h_x,hK⟩:=g1e h0
 have h:ok (F.rq x) (fun r=>K (.own 0 none) [(0,.arr .sh au r)]):=ak (F.zf x h_x) (hK _ rfl)
 refine⟨rfl,ann114,(L114 x),.raw,(aI (i0:=0) (by kernel_rfl) ?_),?_⟩
 ·rintro _ _ K ⟨hc0,i0,v0,rfl,hl0,rfl,hv0,h⟩
  exact cast (lvc114_0 _ _ _ _ _).symm (aL h (fun ht0 h=>⟨hl0,⟨ht0,⟨hl0,(oG h fun _ h=>(aE (fun _ hm=>⟨hc0,hm⟩) _ rfl hl0 dG ht0 (aM h_x) trivial h))⟩⟩⟩) fun h=>(h trivial))
 ·rw[vc114]
  exact⟨rfl,⟨(Int.natCast_nonneg _),⟨(nx h_x rfl),(aD (fun m hm=>⟨trivial,hm⟩) Z0 _ rfl (Int.natCast_nonneg 0) trivial (aF h (fun v0 h hv0=>h) (fun _ h=>h.elim)))⟩⟩⟩
def c180:Con:=⟨[.dat ax],fun args hp K=>g1 (pD ax) (fun x=>(Sm ax x)/\(LD x fun r=>K (.data ax r) [])) args hp,.plain,false⟩
abbrev C180:Ctx:=cx [(154,c154)] 15 [] 0 false
def ann180:=an [[.fixRow 1 ax,kp 6],[kp 14],[kp 14],[kp 14],[kp 12],[kp 4]] []
theorem vc180 (x:ax.D) (K:KA):vcT C180 aq ann180 f180 [.data ax x] [] (.dat ax) K =
 ((Sm aa x.2.2.1)/\(LD x.2.2.1 fun r1=>K (.data ax (x.1,(x.2.1,(r1,())))) [])):=by kernel_rfl
theorem con180_ok:aN P 180 c180:=aP C180 func180 (kC con154_ok kN) fun args hp K h0=>by
 obtain⟨x,rfl,rfl,h_x,hK⟩:=g1e h0
 have h:ok (F.xw x) (fun r=>K (.data ax r) []):=ak (F.zB x h_x) (hK _ rfl)
 refine⟨rfl,ann180,aq,(.dat ax),(az (by kernel_rfl)),?_⟩
 ·rw[vc180]
  exact⟨h_x.2.2.1,(oL h fun _ _ h=>h)⟩
def c115:Con:=⟨[.dat TPS],fun args hp K=>g1 (pD TPS) (fun x=>(Sm TPS x)/\(LD x fun r=>K (.own 0 none) [(0,.arr .sh ax r)])) args hp,.plain,false⟩
abbrev C115:Ctx:=cx [(180,c180)] 23 [] 0 false
def ann115:=an [[kp 1],[kp 9],[kp 25],[kp 2073],[kp 25],[kp 25],[kp 4]] [[kp 8]]
abbrev s115_0 (x:LPt) (i0:Int) (v0:LPt):St:=⟨[(0,.data TPS x),(3,.own 7 none),(4,dI i0)],[(7,.arr .sh ax v0)]⟩
abbrev LP115_0 (x:LPt) (m:Nat) (st_:St) (K:KX):Prop:=True/\aY (s115_0 x) Z0 (x.length:Int) (F.iH x) (fun v0:LPt=>True) (aR (fun v0:LPt=>True->K (.exit 0) (⟨[(3,.own 7 none)],[(7,.arr .sh ax v0)]⟩:St)) (fun _=>False)) m st_
def L115 (x:LPt):aW:=lp1 0 (LP115_0 x)
theorem vc115 (x:LPt) (K:KA):vcT C115 (L115 x) ann115 f115 [.data TPS x] [] .raw K =
 (((x.length:Int)=(x.length:Int))/\(0<=(x.length:Int))/\((x.length:Int) * 48<=(lim:Int))/\(∃m_,True/\aY (s115_0 x) Z0 (x.length:Int) (F.iH x) (fun v0:LPt=>True) (aR (fun v0:LPt=>True->K (.own 0 none) [(0,.arr .sh ax v0)]) (fun _=>False)) m_ (s115_0 x Z0 (List.replicate (x.length:Int).toNat (Z0,(Z0,((Z0,(Z0,((⟨#[]⟩:ByteArray),()))),()))))))):=by kernel_rfl
theorem lvc115_0 (x:LPt)  (i0:Int) (v0:LPt) (m:Nat) (K:KX):lvT C115 (L115 x) ann115 f115 0 0 (s115_0 x i0 v0) m K =
 (cond (decide (i0<(x.length:Int))) ((0<=i0)/\(i0<(x.length:Int))/\(Sm ax (nP x i0))/\(LD (nP x i0) fun r1=>(0<=i0)/\(i0<(v0.length:Int))/\(nxT (LP115_0 x) m K (s115_0 x (wrap64 (i0+Z1)) (v0.set i0.toNat r1))))) (K (.exit 0) (⟨[(3,.own 7 none)],[(7,.arr .sh ax v0)]⟩:St))):=by kernel_rfl
theorem con115_ok:aN P 115 c115:=aP C115 func115 (kC con180_ok kN) fun args hp K h0=>by
 obtain⟨x,rfl,rfl,h_x,hK⟩:=g1e h0
 have h:ok (F.pe x) (fun r=>K (.own 0 none) [(0,.arr .sh ax r)]):=ak (F.xM x h_x) (hK _ rfl)
 refine⟨rfl,ann115,(L115 x),.raw,(aI (i0:=0) (by kernel_rfl) ?_),?_⟩
 ·rintro _ _ K ⟨hc0,i0,v0,rfl,hl0,rfl,hv0,h⟩
  exact cast (lvc115_0 _ _ _ _ _).symm (aL h (fun ht0 h=>⟨hl0,⟨ht0,⟨(ay h_x i0),(oL h fun _ _ h=>⟨hl0,(oG h fun _ h=>(aE (fun _ hm=>⟨hc0,hm⟩) _ rfl hl0 dG ht0 (aM h_x) trivial h))⟩)⟩⟩⟩) fun h=>(h trivial))
 ·rw[vc115]
  exact⟨rfl,⟨(Int.natCast_nonneg _),⟨(nx h_x rfl),(aD (fun m hm=>⟨trivial,hm⟩) Z0 _ rfl (Int.natCast_nonneg 0) trivial (aF h (fun v0 h hv0=>h) (fun _ h=>h.elim)))⟩⟩⟩
abbrev C53:Ctx:=cx [(114,c114),(115,c115)] 29 [] 200000 true
def T53:Inl:=xT C53 (fun _=>[]) (dJ f53) f53.results.toList
theorem inlOk53:yq P 53 T53:=Db C53 func53 (kC con114_ok (kC con115_ok kN))
def c14:Con:=⟨[.dat (Ty.sl TBond)],fun args hp K=>g1 (pD (Ty.sl TBond)) (fun x=>(Sm (Ty.sl TBond) x)/\(LD x fun r=>K (.own 0 none) [(0,.arr .dp TBond r)])) args hp,.plain,false⟩
abbrev C14:Ctx:=cx [] 23 [(53,T53)] 0 true
def ann14:=an [[kp 1],[kp 9],[kp 25],[kp 2073],[kp 25],[kp 25],[kp 4]] [[kp 8]]
abbrev s14_0 (x:(List TBond.D)) (i0:Int) (v0:(List TBond.D)):St:=⟨[(0,.data (Ty.sl TBond) x),(3,.own 7 none),(4,dI i0)],[(7,.arr .dp TBond v0)]⟩
abbrev LP14_0 (x:(List TBond.D)) (m:Nat) (st_:St) (K:KX):Prop:=True/\aY (s14_0 x) Z0 (x.length:Int) (F.iG x) (fun v0:(List TBond.D)=>True) (aR (fun v0:(List TBond.D)=>True->K (.exit 0) (⟨[(3,.own 7 none)],[(7,.arr .dp TBond v0)]⟩:St)) (fun _=>False)) m st_
def L14 (x:(List TBond.D)):aW:=lp1 0 (LP14_0 x)
theorem vc14 (x:(List TBond.D)) (K:KA):vcT C14 (L14 x) ann14 f14 [.data (Ty.sl TBond) x] [] .raw K =
 (((x.length:Int)=(x.length:Int))/\(0<=(x.length:Int))/\((x.length:Int) * 104<=(lim:Int))/\(∃m_,True/\aY (s14_0 x) Z0 (x.length:Int) (F.iG x) (fun v0:(List TBond.D)=>True) (aR (fun v0:(List TBond.D)=>True->K (.own 0 none) [(0,.arr .dp TBond v0)]) (fun _=>False)) m_ (s14_0 x Z0 (List.replicate (x.length:Int).toNat (Z0,(Z0,([],(Z0,([],(false,([],()))))))))))):=by kernel_rfl
theorem lvc14_0 (x:(List TBond.D))  (i0:Int) (v0:(List TBond.D)) (m:Nat) (K:KX):lvT C14 (L14 x) ann14 f14 0 0 (s14_0 x i0 v0) m K =
 (cond (decide (i0<(x.length:Int))) ((0<=i0)/\(i0<(x.length:Int))/\(Sm (Ty.sl au) (nth (t:=TBond) x i0).2.2.1)/\(LD (nth (t:=TBond) x i0).2.2.1 fun r1=>(Sm (Ty.sl au) (nth (t:=TBond) x i0).2.2.2.2.1)/\(LD (nth (t:=TBond) x i0).2.2.2.2.1 fun r2=>(Sm TPS (nth (t:=TBond) x i0).2.2.2.2.2.2.1)/\(LD (nth (t:=TBond) x i0).2.2.2.2.2.2.1 fun r3=>(0<=i0)/\(i0<(v0.length:Int))/\(let y1:(List TBond.D):=(v0.set i0.toNat ((nth (t:=TBond) x i0).1,((nth (t:=TBond) x i0).2.1,(r1,((nth (t:=TBond) x i0).2.2.2.1,(r2,((nth (t:=TBond) x i0).2.2.2.2.2.1,(r3,()))))))));(nxT (LP14_0 x) m K (s14_0 x (wrap64 (i0+Z1)) y1))))))) (K (.exit 0) (⟨[(3,.own 7 none)],[(7,.arr .dp TBond v0)]⟩:St))):=by kernel_rfl
theorem con14_ok:aN P 14 c14:=aP C14 func14 (kI inlOk53 kN) fun args hp K h0=>by
 obtain⟨x,rfl,rfl,h_x,hK⟩:=g1e h0
 have h:ok (F.pz x) (fun r=>K (.own 0 none) [(0,.arr .dp TBond r)]):=ak (F.xN x h_x) (hK _ rfl)
 refine⟨rfl,ann14,(L14 x),.raw,(aI (i0:=0) (by kernel_rfl) ?_),?_⟩
 ·rintro _ _ K ⟨hc0,i0,v0,rfl,hl0,rfl,hv0,h⟩
  exact cast (lvc14_0 _ _ _ _ _).symm (aL h (fun ht0 h=>⟨hl0,⟨ht0,⟨(ay h_x i0).2.2.1,(oL h fun _ _ h=>⟨(ay h_x i0).2.2.2.2.1,(oL h fun _ _ h=>⟨(ay h_x i0).2.2.2.2.2.2.1,(oL h fun _ _ h=>⟨hl0,(oG h fun _ h=>(have h:=fI h _ rfl;(aE (fun _ hm=>⟨hc0,hm⟩) _ rfl hl0 dG ht0 (aM h_x) trivial h)))⟩)⟩)⟩)⟩⟩⟩) fun h=>(h trivial))
 ·rw[vc14]
  exact⟨rfl,⟨(Int.natCast_nonneg _),⟨(nx h_x rfl),(aD (fun m hm=>⟨trivial,hm⟩) Z0 _ rfl (Int.natCast_nonneg 0) trivial (aF h (fun v0 h hv0=>h) (fun _ h=>h.elim)))⟩⟩⟩
abbrev C36:Ctx:=cx [(83,c83)] 15 [] 200000 true
def T36:Inl:=xT C36 (fun _=>[]) (dJ f36) f36.results.toList
theorem inlOk36:yq P 36 T36:=Db C36 func36 (kC con83_ok kN)
def c15:Con:=⟨[.dat (Ty.sl TChange)],fun args hp K=>g1 (pD (Ty.sl TChange)) (fun x=>(Sm (Ty.sl TChange) x)/\(LD x fun r=>K (.own 0 none) [(0,.arr .dp TChange r)])) args hp,.plain,false⟩
abbrev C15:Ctx:=cx [] 23 [(36,T36)] 0 true
def ann15:=an [[kp 1],[kp 9],[kp 25],[kp 2073],[kp 25],[kp 25],[kp 4]] [[kp 8]]
abbrev s15_0 (x:(List TChange.D)) (i0:Int) (v0:(List TChange.D)):St:=⟨[(0,.data (Ty.sl TChange) x),(3,.own 7 none),(4,dI i0)],[(7,.arr .dp TChange v0)]⟩
abbrev LP15_0 (x:(List TChange.D)) (m:Nat) (st_:St) (K:KX):Prop:=True/\aY (s15_0 x) Z0 (x.length:Int) (F.ga x) (fun v0:(List TChange.D)=>True) (aR (fun v0:(List TChange.D)=>True->K (.exit 0) (⟨[(3,.own 7 none)],[(7,.arr .dp TChange v0)]⟩:St)) (fun _=>False)) m st_
def L15 (x:(List TChange.D)):aW:=lp1 0 (LP15_0 x)
theorem vc15 (x:(List TChange.D)) (K:KA):vcT C15 (L15 x) ann15 f15 [.data (Ty.sl TChange) x] [] .raw K =
 (((x.length:Int)=(x.length:Int))/\(0<=(x.length:Int))/\((x.length:Int) * 40<=(lim:Int))/\(∃m_,True/\aY (s15_0 x) Z0 (x.length:Int) (F.ga x) (fun v0:(List TChange.D)=>True) (aR (fun v0:(List TChange.D)=>True->K (.own 0 none) [(0,.arr .dp TChange v0)]) (fun _=>False)) m_ (s15_0 x Z0 (List.replicate (x.length:Int).toNat (Z0,([],(false,()))))))):=by kernel_rfl
theorem lvc15_0 (x:(List TChange.D))  (i0:Int) (v0:(List TChange.D)) (m:Nat) (K:KX):lvT C15 (L15 x) ann15 f15 0 0 (s15_0 x i0 v0) m K =
 (cond (decide (i0<(x.length:Int))) ((0<=i0)/\(i0<(x.length:Int))/\(Sm TVS (nth (t:=TChange) x i0).2.1)/\(LD (nth (t:=TChange) x i0).2.1 fun r1=>(0<=i0)/\(i0<(v0.length:Int))/\(let y1:(List TChange.D):=(v0.set i0.toNat ((nth (t:=TChange) x i0).1,(r1,(nth (t:=TChange) x i0).2.2)));(nxT (LP15_0 x) m K (s15_0 x (wrap64 (i0+Z1)) y1))))) (K (.exit 0) (⟨[(3,.own 7 none)],[(7,.arr .dp TChange v0)]⟩:St))):=by kernel_rfl
theorem con15_ok:aN P 15 c15:=aP C15 func15 (kI inlOk36 kN) fun args hp K h0=>by
 obtain⟨x,rfl,rfl,h_x,hK⟩:=g1e h0
 have h:ok (F.mI x) (fun r=>K (.own 0 none) [(0,.arr .dp TChange r)]):=ak (F.uZ x h_x) (hK _ rfl)
 refine⟨rfl,ann15,(L15 x),.raw,(aI (i0:=0) (by kernel_rfl) ?_),?_⟩
 ·rintro _ _ K ⟨hc0,i0,v0,rfl,hl0,rfl,hv0,h⟩
  exact cast (lvc15_0 _ _ _ _ _).symm (aL h (fun ht0 h=>⟨hl0,⟨ht0,⟨(ay h_x i0).2.1,(oL h fun _ _ h=>⟨hl0,(oG h fun _ h=>(have h:=fI h _ rfl;(aE (fun _ hm=>⟨hc0,hm⟩) _ rfl hl0 dG ht0 (aM h_x) trivial h)))⟩)⟩⟩⟩) fun h=>(h trivial))
 ·rw[vc15]
  exact⟨rfl,⟨(Int.natCast_nonneg _),⟨(nx h_x rfl),(aD (fun m hm=>⟨trivial,hm⟩) Z0 _ rfl (Int.natCast_nonneg 0) trivial (aF h (fun v0 h hv0=>h) (fun _ h=>h.elim)))⟩⟩⟩
def c132:Con:=⟨[.dat au,.dat au,.dat au],fun args hp K=>g3 (pD au) (pD au) (pD au) (fun n low high=>K (dB (M.inR n low high)) []) args hp,.plain,false⟩
abbrev C132:Ctx:=cx [] 15 [] 0 false
def ann132:=an [[kp 7],[kp 64]] []
theorem vc132 (n:Int) (low:Int) (high:Int) (K:KA):vcT C132 aq ann132 f132 [dI n,dI low,dI high] [] (.dat Ty.bool) K =
 (cond ((decide (low<=n))==true) (K (dB (decide (n<=high))) []) (K (dB false) [])):=by kernel_rfl
theorem con132_ok:aN P 132 c132:=aP C132 func132 kN fun args hp K h0=>by
 obtain⟨n,low,high,rfl,rfl,hK⟩:=g3e h0
 have h:ok (F.qd n low high) (fun r=>K (dB r) []):=ak (F.xQ n low high) hK
 refine⟨rfl,ann132,aq,(.dat Ty.bool),(az (by kernel_rfl)),?_⟩
 ·rw[vc132]
  exact(oC h (fun _ h=>h) fun _ h=>h)
def c137:Con:=⟨[.dat ai],fun args hp K=>g1 (pD ai) (fun c=>K (dB (!M.dH c)) []) args hp,.plain,false⟩
abbrev C137:Ctx:=cx [(132,c132)] 7 [] 0 false
def ann137:=an [[.fixRow 1 ai,kp 2],[kp 4]] []
theorem vc137 (c:ai.D) (K:KA):vcT C137 aq ann137 f137 [.data ai c] [] (.dat Ty.bool) K =
 (K (dB (!(M.inR c.1 Z1 Z3))) []):=by kernel_rfl
theorem con137_ok:aN P 137 c137:=aP C137 func137 (kC con132_ok kN) fun args hp K h0=>by
 obtain⟨c,rfl,rfl,hK⟩:=g1e h0
 have h:ok (F.oR c) (fun r=>K (dB r) []):=ak (F.sx c) hK
 refine⟨rfl,ann137,aq,(.dat Ty.bool),(az (by kernel_rfl)),?_⟩
 ·rw[vc137]
  exact h
def c193:Con:=⟨[.lent ai,.any],fun args hp K=>args2 (fun a0 a1=>ig ai a0 fun xs=>gC 137 a1 (sI ((Sm TCS xs)/\K (dI (M.idx (t:=ai) (fun e=>!M.dH e) xs)) []))) args hp,.plain,false⟩
abbrev C193:Ctx:=cx [(137,c137)] 19 [] 0 false
def ann193:=an [[kp 3],[kp 387],[kp 899],[kp 419],[kp 65955],[kp 16],[kp 387],[kp 16]] [[kp 0]]
abbrev s193_0 (xs:LC) (i0:Int) (v0:Unit):St:=⟨[(0,.brw ai xs),(1,.fn 137 []),(7,dI (xs.length:Int)),(8,dI i0)],[]⟩
abbrev LP193_0 (xs:LC) (m:Nat) (st_:St) (K:KX):Prop:=True/\aY (s193_0 xs) Z0 (xs.length:Int) (F.cw xs) (fun v0:Unit=>True) (aR (fun v0:Unit=>True->K (.exit 0) (⟨[],[]⟩:St)) (fun q0:Int=>K .ret (⟨[(4,dI q0)],[]⟩:St))) m st_
def L193 (xs:LC):aW:=lp1 0 (LP193_0 xs)
theorem vc193 (xs:LC) (K:KA):vcT C193 (L193 xs) ann193 f193 [.brw ai xs,.fn 137 []] [] (.dat au) K =
 (∃m_,True/\aY (s193_0 xs) Z0 (xs.length:Int) (F.cw xs) (fun v0:Unit=>True) (aR (fun v0:Unit=>True->K (dI (-1:Int)) []) (fun q0:Int=>K (dI q0) [])) m_ (s193_0 xs Z0 ())):=by kernel_rfl
theorem lvc193_0 (xs:LC)  (i0:Int) (v0:Unit) (m:Nat) (K:KX):lvT C193 (L193 xs) ann193 f193 0 0 (s193_0 xs i0 v0) m K =
 (cond (decide (i0<(xs.length:Int))) ((0<=i0)/\(i0<(xs.length:Int))/\cond (!M.dH (nC xs i0)) (K .ret (⟨[(4,dI i0)],[]⟩:St)) (nxT (LP193_0 xs) m K (s193_0 xs (wrap64 (i0+Z1)) ()))) (K (.exit 0) (⟨[],[]⟩:St))):=by kernel_rfl
theorem con193_ok:aN P 193 c193:=aP C193 func193 (kC con137_ok kN) fun args hp K h0=>by
 obtain⟨a0,a1,rfl,rfl,h1⟩:=bt h0
 obtain⟨xs,rfl,h2⟩:=bS h1
 obtain⟨cs1,rfl,h3⟩:=bN h2
 obtain⟨rfl,h4⟩:=gw h3
 obtain⟨h_xs,hK⟩:=h4
 have h:ok (F.gy xs) (fun r=>K (dI r) []):=ak (F.kF xs h_xs) hK
 refine⟨rfl,ann193,(L193 xs),(.dat au),(aI (i0:=0) (by kernel_rfl) ?_),?_⟩
 ·rintro _ _ K ⟨hc0,i0,v0,rfl,hl0,rfl,hv0,h⟩
  exact cast (lvc193_0 _ _ _ _ _).symm (aL h (fun ht0 h=>⟨hl0,⟨ht0,(oC h (fun _ h=>h) fun _ h=>(aE (fun _ hm=>⟨hc0,hm⟩) _ rfl hl0 dG ht0 (aM h_xs) trivial h))⟩⟩) fun h=>(h trivial))
 ·rw[vc193]
  exact(aD (fun m hm=>⟨trivial,hm⟩) Z0 _ rfl (Int.natCast_nonneg 0) trivial (aF h (fun v0 h hv0=>h) (fun q0 h=>h)))
def c136:Con:=⟨[.lent ai,.any],fun args hp K=>args2 (fun a0 a1=>ig ai a0 fun xs=>gC 137 a1 (sI ((Sm TCS xs)/\K (dB (List.any xs (fun e=>!M.dH e))) []))) args hp,.plain,false⟩
abbrev C136:Ctx:=cx [(137,c137),(193,c193)] 9 [] 0 false
def ann136:=an [[kp 3],[kp 16]] []
theorem vc136 (xs:LC) (K:KA):vcT C136 aq ann136 f136 [.brw ai xs,.fn 137 []] [] (.dat Ty.bool) K =
 ((Sm TCS xs)/\K (dB (decide (Z0<=(M.idx (t:=ai) (fun e=>!M.dH e) xs)))) []):=by kernel_rfl
theorem con136_ok:aN P 136 c136:=aP C136 func136 (kC con137_ok (kC con193_ok kN)) fun args hp K h0=>by
 obtain⟨a0,a1,rfl,rfl,h1⟩:=bt h0
 obtain⟨xs,rfl,h2⟩:=bS h1
 obtain⟨cs1,rfl,h3⟩:=bN h2
 obtain⟨rfl,h4⟩:=gw h3
 obtain⟨h_xs,hK⟩:=h4
 have h:ok (F.dw xs) (fun r=>K (dB r) []):=ak (F.jm xs h_xs) hK
 refine⟨rfl,ann136,aq,(.dat Ty.bool),(az (by kernel_rfl)),?_⟩
 ·rw[vc136]
  exact⟨h_xs,h⟩
def c75:Con:=⟨[.dat TCS],fun args hp K=>g1 (pD TCS) (fun columns=>(Sm TCS columns)/\K (dB (M.bD columns)) []) args hp,.plain,false⟩
abbrev C75:Ctx:=cx [(136,c136)] 11 [] 0 false
def ann75:=an [[kp 1],[kp 4]] []
theorem vc75 (columns:LC) (K:KA):vcT C75 aq ann75 f75 [.data TCS columns] [] (.dat Ty.bool) K =
 (cond ((decide ((columns.length:Int)<=Z4))==true) ((Sm TCS columns)/\K (dB (!(List.any columns (fun e=>!M.dH e)))) []) (K (dB false) [])):=by kernel_rfl
theorem con75_ok:aN P 75 c75:=aP C75 func75 (kC con136_ok kN) fun args hp K h0=>by
 obtain⟨columns,rfl,rfl,h_columns,hK⟩:=g1e h0
 have h:ok (F.mM columns) (fun r=>K (dB r) []):=ak (F.vA columns h_columns) hK
 refine⟨rfl,ann75,aq,(.dat Ty.bool),(az (by kernel_rfl)),?_⟩
 ·rw[vc75]
  exact(oC h (fun _ h=>⟨h_columns,h⟩) fun _ h=>h)
def c200:Con:=⟨[.dat aa],fun args hp K=>g1 (pD aa) (fun v=>(Sm aa v)/\K (dB (decide (v.1=0))) []) args hp,.plain,false⟩
abbrev C200:Ctx:=cx [] 6 [] 0 false
def ann200:=an [[.fixRow 1 aa,kp 2],[kp 4]] []
theorem vc200 (v:aa.D) (K:KA):vcT C200 aq ann200 f200 [.data aa v] [] (.dat Ty.bool) K =
 (K (dB (decide (v.1=Z0))) []):=by kernel_rfl
theorem con200_ok:aN P 200 c200:=aP C200 func200 kN fun args hp K h0=>by
 obtain⟨v,rfl,rfl,h_v,hK⟩:=g1e h0
 have h:ok (F.mq v) (fun r=>K (dB r) []):=ak (F.qy v h_v) hK
 refine⟨rfl,ann200,aq,(.dat Ty.bool),(az (by kernel_rfl)),?_⟩
 ·rw[vc200]
  exact h
def c189:Con:=⟨[.dat Ty.str],fun args hp K=>g1 (pD Ty.str) (fun s=>(Sm Ty.str s)/\K (dB (M.lower (bJ s))) []) args hp,.plain,false⟩
abbrev C189:Ctx:=cx [(132,c132)] 17 [] 0 false
def ann189:=an [[kp 1],[kp 448],[kp 960],[kp 464],[kp 33216],[kp 4],[kp 448],[kp 4]] [[kp 0]]
abbrev s189_0 (s:ByteArray) (i0:Int) (v0:Unit):St:=⟨[(6,.data TBy (bJ s)),(7,dI ((bJ s).length:Int)),(8,dI i0)],[]⟩
abbrev LP189_0 (s:ByteArray) (m:Nat) (st_:St) (K:KX):Prop:=True/\bI (t:=(Ty.int .u8)) (s189_0 s) (bJ s) (F.iJ s) (fun v0:Unit=>True) (aR (fun v0:Unit=>True->K (.exit 0) (⟨[],[]⟩:St)) (fun q0:Unit=>K .ret (⟨[(2,dB false)],[]⟩:St))) m st_
def L189 (s:ByteArray):aW:=lp1 0 (LP189_0 s)
theorem vc189 (s:ByteArray) (K:KA):vcT C189 (L189 s) ann189 f189 [.data Ty.str s] [] (.dat Ty.bool) K =
 (∃m_,True/\bI (t:=(Ty.int .u8)) (s189_0 s) (bJ s) (F.iJ s) (fun v0:Unit=>True) (aR (fun v0:Unit=>True->K (dB true) []) (fun q0:Unit=>K (dB false) [])) m_ (s189_0 s Z0 ())):=by kernel_rfl
theorem lvc189_0 (s:ByteArray)  (i0:Int) (v0:Unit) (m:Nat) (K:KX):lvT C189 (L189 s) ann189 f189 0 0 (s189_0 s i0 v0) m K =
 (cond (decide (i0<((bJ s).length:Int))) ((0<=i0)/\(i0<((bJ s).length:Int))/\cond (!(M.inR (wrap64 (nth (t:=(Ty.int .u8)) (bJ s) i0)) (97:Int) (122:Int))) (K .ret (⟨[(2,dB false)],[]⟩:St)) (nxT (LP189_0 s) m K (s189_0 s (wrap64 (i0+Z1)) ()))) (K (.exit 0) (⟨[],[]⟩:St))):=by kernel_rfl
theorem con189_ok:aN P 189 c189:=aP C189 func189 (kC con132_ok kN) fun args hp K h0=>by
 obtain⟨s,rfl,rfl,h_s,hK⟩:=g1e h0
 have h:ok (F.qo s) (fun r=>K (dB r) []):=ak (F.xU s h_s) hK
 refine⟨rfl,ann189,(L189 s),(.dat Ty.bool),(aI (i0:=0) (by kernel_rfl) ?_),?_⟩
 ·rintro _ _ K ⟨hc0,i0,v0,rfl,hl0,rfl,hv0,h⟩
  exact cast (lvc189_0 _ _ _ _ _).symm (br (t:=(Ty.int .u8)) hl0 h (fun ht0 h=>⟨hl0,⟨ht0,(oC h (fun _ h=>h) fun _ h=>(aT (t:=(Ty.int .u8)) (fun _ hm=>⟨hc0,hm⟩) _ rfl hl0 ht0 (aM (GS h_s)) trivial h))⟩⟩) fun h=>(h trivial))
 ·rw[vc189]
  exact(aZ (t:=(Ty.int .u8)) (fun m hm=>⟨trivial,hm⟩) _ rfl trivial (aF h (fun v0 h hv0=>h) (fun q0 h=>h)))
def c131:Con:=⟨[.dat aa],fun args hp K=>g1 (pD aa) (fun v=>(Sm aa v)/\K (dB (M.aO v)) []) args hp,.plain,false⟩
abbrev C131:Ctx:=cx [(132,c132),(189,c189)] 46 [] 0 false
def ann131:=an [[.fixRow 1 aa,kp 2],[kp 18],[kp 50],[kp 4],[kp 1042],[kp 4],[kp 1048594],[kp 4],[.keep [1,36]],[kp 4],[kp 4]] []
theorem vc131 (v:aa.D) (K:KA):vcT C131 aq ann131 f131 [.data aa v] [] (.dat Ty.bool) K =
 (cond (decide (v.1=Z0)) (K (dB (Ty.beq aa v (Z0,(Z0,((⟨#[]⟩:ByteArray),()))))) []) (cond (decide (v.1=Z1)) (cond ((decide (v.2.2.1=(⟨#[]⟩:ByteArray)))==true) (K (dB (M.inR v.2.1 (-9999:Int) (9999:Int))) []) (K (dB false) [])) (cond (decide (v.1=Z2)) (cond ((decide (v.2.1=Z0))==true) (cond ((decide ((v.2.2.1.size:Int)<=Z6))==true) ((Sm Ty.str v.2.2.1)/\K (dB (M.lower (bJ v.2.2.1))) []) (K (dB false) [])) (K (dB false) [])) (cond (decide (v.1=Z3)) (cond ((decide (v.2.2.1=(⟨#[]⟩:ByteArray)))==true) (K (dB (M.inR v.2.1 Z0 Z1)) []) (K (dB false) [])) (K (dB false) []))))):=by kernel_rfl
theorem con131_ok:aN P 131 c131:=aP C131 func131 (kC con132_ok (kC con189_ok kN)) fun args hp K h0=>by
 obtain⟨v,rfl,rfl,h_v,hK⟩:=g1e h0
 have h:ok (F.nA v) (fun r=>K (dB r) []):=ak (F.vZ v h_v) hK
 refine⟨rfl,ann131,aq,(.dat Ty.bool),(az (by kernel_rfl)),?_⟩
 ·rw[vc131]
  exact(oC h (fun _ h=>h) fun _ h=>(oC h (fun _ h=>(oC h (fun _ h=>h) fun _ h=>h)) fun _ h=>(oC h (fun _ h=>(oC h (fun _ h=>(oC h (fun _ h=>⟨h_v.2.2.1,h⟩) fun _ h=>h)) fun _ h=>h)) fun _ h=>(oC h (fun _ h=>(oC h (fun _ h=>h) fun _ h=>h)) fun _ h=>h))))
def c211:Con:=⟨[.dat aa],fun args hp K=>g1 (pD aa) (fun v=>(Sm aa v)/\K (dB (!M.aO v)) []) args hp,.plain,false⟩
abbrev C211:Ctx:=cx [(131,c131)] 6 [] 0 false
def ann211:=an [[.fixRow 1 aa,kp 2],[kp 4]] []
theorem vc211 (v:aa.D) (K:KA):vcT C211 aq ann211 f211 [.data aa v] [] (.dat Ty.bool) K =
 ((Sm aa v)/\K (dB (!(M.aO v))) []):=by kernel_rfl
theorem con211_ok:aN P 211 c211:=aP C211 func211 (kC con131_ok kN) fun args hp K h0=>by
 obtain⟨v,rfl,rfl,h_v,hK⟩:=g1e h0
 have h:ok (F.vu v) (fun r=>K (dB r) []):=ak (F.xV v h_v) hK
 refine⟨rfl,ann211,aq,(.dat Ty.bool),(az (by kernel_rfl)),?_⟩
 ·rw[vc211]
  exact⟨h_v,h⟩
def c231:Con:=⟨[.lent aa,.any],fun args hp K=>(args2 (fun a0 a1=>ig aa a0 fun xs=>gC 200 a1 (sI ((Sm TVS xs)/\K (dI (M.idx (t:=aa) (fun e=>decide (e.1=0)) xs)) []))) args hp)\/(args2 (fun a0 a1=>ig aa a0 fun xs=>gC 211 a1 (sI ((Sm TVS xs)/\K (dI (M.idx (t:=aa) (fun e=>!M.aO e) xs)) []))) args hp),.plain,false⟩
abbrev C231:Ctx:=cx [(200,c200),(211,c211)] 19 [] 0 false
def ann231_v0:=an [[kp 3],[kp 387],[kp 899],[kp 419],[kp 65955],[kp 16],[kp 387],[kp 16]] [[kp 0]]
abbrev s231_0_v0 (xs:LV) (i0:Int) (v0:Unit):St:=⟨[(0,.brw aa xs),(1,.fn 200 []),(7,dI (xs.length:Int)),(8,dI i0)],[]⟩
abbrev LP231_0_v0 (xs:LV) (m:Nat) (st_:St) (K:KX):Prop:=True/\aY (s231_0_v0 xs) Z0 (xs.length:Int) (F.bY xs) (fun v0:Unit=>True) (aR (fun v0:Unit=>True->K (.exit 0) (⟨[],[]⟩:St)) (fun q0:Int=>K .ret (⟨[(4,dI q0)],[]⟩:St))) m st_
def L231_v0 (xs:LV):aW:=lp1 0 (LP231_0_v0 xs)
theorem vc231_v0 (xs:LV) (K:KA):vcT C231 (L231_v0 xs) ann231_v0 f231 [.brw aa xs,.fn 200 []] [] (.dat au) K =
 (∃m_,True/\aY (s231_0_v0 xs) Z0 (xs.length:Int) (F.bY xs) (fun v0:Unit=>True) (aR (fun v0:Unit=>True->K (dI (-1:Int)) []) (fun q0:Int=>K (dI q0) [])) m_ (s231_0_v0 xs Z0 ())):=by kernel_rfl
theorem lvc231_0_v0 (xs:LV)  (i0:Int) (v0:Unit) (m:Nat) (K:KX):lvT C231 (L231_v0 xs) ann231_v0 f231 0 0 (s231_0_v0 xs i0 v0) m K =
 (cond (decide (i0<(xs.length:Int))) ((0<=i0)/\(i0<(xs.length:Int))/\(Sm aa (nV xs i0))/\cond (decide ((nV xs i0).1=0)) (K .ret (⟨[(4,dI i0)],[]⟩:St)) (nxT (LP231_0_v0 xs) m K (s231_0_v0 xs (wrap64 (i0+Z1)) ()))) (K (.exit 0) (⟨[],[]⟩:St))):=by kernel_rfl
def ann231_v1:=an [[kp 3],[kp 387],[kp 899],[kp 419],[kp 65955],[kp 16],[kp 387],[kp 16]] [[kp 0]]
abbrev s231_0_v1 (xs:LV) (i0:Int) (v0:Unit):St:=⟨[(0,.brw aa xs),(1,.fn 211 []),(7,dI (xs.length:Int)),(8,dI i0)],[]⟩
abbrev LP231_0_v1 (xs:LV) (m:Nat) (st_:St) (K:KX):Prop:=True/\aY (s231_0_v1 xs) Z0 (xs.length:Int) (F.cS xs) (fun v0:Unit=>True) (aR (fun v0:Unit=>True->K (.exit 0) (⟨[],[]⟩:St)) (fun q0:Int=>K .ret (⟨[(4,dI q0)],[]⟩:St))) m st_
def L231_v1 (xs:LV):aW:=lp1 0 (LP231_0_v1 xs)
theorem vc231_v1 (xs:LV) (K:KA):vcT C231 (L231_v1 xs) ann231_v1 f231 [.brw aa xs,.fn 211 []] [] (.dat au) K =
 (∃m_,True/\aY (s231_0_v1 xs) Z0 (xs.length:Int) (F.cS xs) (fun v0:Unit=>True) (aR (fun v0:Unit=>True->K (dI (-1:Int)) []) (fun q0:Int=>K (dI q0) [])) m_ (s231_0_v1 xs Z0 ())):=by kernel_rfl
theorem lvc231_0_v1 (xs:LV)  (i0:Int) (v0:Unit) (m:Nat) (K:KX):lvT C231 (L231_v1 xs) ann231_v1 f231 0 0 (s231_0_v1 xs i0 v0) m K =
 (cond (decide (i0<(xs.length:Int))) ((0<=i0)/\(i0<(xs.length:Int))/\(Sm aa (nV xs i0))/\cond (!M.aO (nV xs i0)) (K .ret (⟨[(4,dI i0)],[]⟩:St)) (nxT (LP231_0_v1 xs) m K (s231_0_v1 xs (wrap64 (i0+Z1)) ()))) (K (.exit 0) (⟨[],[]⟩:St))):=by kernel_rfl
theorem con231_ok:aN P 231 c231:=aP C231 func231 (kC con200_ok (kC con211_ok kN)) fun args hp K h0=>by
 rcases h0 with h0 | h0
 ·obtain⟨a0,a1,rfl,rfl,h1⟩:=bt h0
  obtain⟨xs,rfl,h2⟩:=bS h1
  obtain⟨cs1,rfl,h3⟩:=bN h2
  obtain⟨rfl,h4⟩:=gw h3
  obtain⟨h_xs,hK⟩:=h4
  have h:ok (F.fM xs) (fun r=>K (dI r) []):=ak (F.jt xs h_xs) hK
  refine⟨rfl,ann231_v0,(L231_v0 xs),(.dat au),(aI (i0:=0) (by kernel_rfl) ?_),?_⟩
  ·rintro _ _ K ⟨hc0,i0,v0,rfl,hl0,rfl,hv0,h⟩
   exact cast (lvc231_0_v0 _ _ _ _ _).symm (aL h (fun ht0 h=>⟨hl0,⟨ht0,⟨(ay h_xs i0),(oC h (fun _ h=>h) fun _ h=>(aE (fun _ hm=>⟨hc0,hm⟩) _ rfl hl0 dG ht0 (aM h_xs) trivial h))⟩⟩⟩) fun h=>(h trivial))
  ·rw[vc231_v0]
   exact(aD (fun m hm=>⟨trivial,hm⟩) Z0 _ rfl (Int.natCast_nonneg 0) trivial (aF h (fun v0 h hv0=>h) (fun q0 h=>h)))
 ·obtain⟨a0,a1,rfl,rfl,h1⟩:=bt h0
  obtain⟨xs,rfl,h2⟩:=bS h1
  obtain⟨cs1,rfl,h3⟩:=bN h2
  obtain⟨rfl,h4⟩:=gw h3
  obtain⟨h_xs,hK⟩:=h4
  have h:ok (F.jq xs) (fun r=>K (dI r) []):=ak (F.mY xs h_xs) hK
  refine⟨rfl,ann231_v1,(L231_v1 xs),(.dat au),(aI (i0:=0) (by kernel_rfl) ?_),?_⟩
  ·rintro _ _ K ⟨hc0,i0,v0,rfl,hl0,rfl,hv0,h⟩
   exact cast (lvc231_0_v1 _ _ _ _ _).symm (aL h (fun ht0 h=>⟨hl0,⟨ht0,⟨(ay h_xs i0),(oC h (fun _ h=>h) fun _ h=>(aE (fun _ hm=>⟨hc0,hm⟩) _ rfl hl0 dG ht0 (aM h_xs) trivial h))⟩⟩⟩) fun h=>(h trivial))
  ·rw[vc231_v1]
   exact(aD (fun m hm=>⟨trivial,hm⟩) Z0 _ rfl (Int.natCast_nonneg 0) trivial (aF h (fun v0 h hv0=>h) (fun q0 h=>h)))
def c199:Con:=⟨[.lent aa,.any],fun args hp K=>(args2 (fun a0 a1=>ig aa a0 fun xs=>gC 200 a1 (sI ((Sm TVS xs)/\K (dB (List.any xs (fun e=>decide (e.1=0)))) []))) args hp)\/(args2 (fun a0 a1=>ig aa a0 fun xs=>gC 211 a1 (sI ((Sm TVS xs)/\K (dB (List.any xs (fun e=>!M.aO e))) []))) args hp),.plain,false⟩
abbrev C199:Ctx:=cx [(200,c200),(211,c211),(231,c231)] 9 [] 0 false
def ann199_v0:=an [[kp 3],[kp 16]] []
theorem vc199_v0 (xs:LV) (K:KA):vcT C199 aq ann199_v0 f199 [.brw aa xs,.fn 200 []] [] (.dat Ty.bool) K =
 (((Sm TVS xs)/\K (dB (decide (Z0<=(M.idx (t:=aa) (fun e=>decide (e.1=0)) xs)))) [])\/False):=by kernel_rfl
def ann199_v1:=an [[kp 3],[kp 16]] []
theorem vc199_v1 (xs:LV) (K:KA):vcT C199 aq ann199_v1 f199 [.brw aa xs,.fn 211 []] [] (.dat Ty.bool) K =
 (False\/((Sm TVS xs)/\K (dB (decide (Z0<=(M.idx (t:=aa) (fun e=>!M.aO e) xs)))) [])):=by kernel_rfl
theorem con199_ok:aN P 199 c199:=aP C199 func199 (kC con200_ok (kC con211_ok (kC con231_ok kN))) fun args hp K h0=>by
 rcases h0 with h0 | h0
 ·obtain⟨a0,a1,rfl,rfl,h1⟩:=bt h0
  obtain⟨xs,rfl,h2⟩:=bS h1
  obtain⟨cs1,rfl,h3⟩:=bN h2
  obtain⟨rfl,h4⟩:=gw h3
  obtain⟨h_xs,hK⟩:=h4
  have h:ok (F.cR xs) (fun r=>K (dB r) []):=ak (F.iO xs h_xs) hK
  refine⟨rfl,ann199_v0,aq,(.dat Ty.bool),(az (by kernel_rfl)),?_⟩
  ·rw[vc199_v0]
   exact(Or.inl (⟨h_xs,h⟩))
 ·obtain⟨a0,a1,rfl,rfl,h1⟩:=bt h0
  obtain⟨xs,rfl,h2⟩:=bS h1
  obtain⟨cs1,rfl,h3⟩:=bN h2
  obtain⟨rfl,h4⟩:=gw h3
  obtain⟨h_xs,hK⟩:=h4
  have h:ok (F.dZ xs) (fun r=>K (dB r) []):=ak (F.kK xs h_xs) hK
  refine⟨rfl,ann199_v1,aq,(.dat Ty.bool),(az (by kernel_rfl)),?_⟩
  ·rw[vc199_v1]
   exact(Or.inr (⟨h_xs,h⟩))
def c168:Con:=⟨[.dat TVS],fun args hp K=>g1 (pD TVS) (fun row=>(Sm TVS row)/\K (dB (M.oD row)) []) args hp,.plain,false⟩
abbrev C168:Ctx:=cx [(199,c199)] 11 [] 0 false
def ann168:=an [[kp 1],[kp 4]] []
theorem vc168 (row:LV) (K:KA):vcT C168 aq ann168 f168 [.data TVS row] [] (.dat Ty.bool) K =
 (cond ((decide ((row.length:Int)<=Z4))==true) (False\/((Sm TVS row)/\K (dB (!(List.any row (fun e=>!M.aO e)))) [])) (K (dB false) [])):=by kernel_rfl
theorem con168_ok:aN P 168 c168:=aP C168 func168 (kC con199_ok kN) fun args hp K h0=>by
 obtain⟨row,rfl,rfl,h_row,hK⟩:=g1e h0
 have h:ok (F.tC row) (fun r=>K (dB r) []):=ak (F.AJ row h_row) hK
 refine⟨rfl,ann168,aq,(.dat Ty.bool),(az (by kernel_rfl)),?_⟩
 ·rw[vc168]
  exact(oC h (fun _ h=>(Or.inr (⟨h_row,h⟩))) fun _ h=>h)
def c100:Con:=⟨[.dat TCS,.dat TVS],fun args hp K=>g2 (pD TCS) (pD TVS) (fun columns row=>(Sm TCS columns)/\(Sm TVS row)/\K (dB (M.bH columns row)) []) args hp,.plain,false⟩
abbrev C100:Ctx:=cx [(75,c75),(168,c168)] 51 [] 0 false
def ann100:=an [[kp 3],[kp 2097155],[kp 16],[kp 29360129],[kp 62914561],[.fixRow 6 aa,kp 29360225],[kp 562949982781441],[kp 16],[kp 29360129],[kp 16]] [[kp 0]]
abbrev s100_0 (columns:LC) (row:LV) (i0:Int) (v0:Unit):St:=⟨[(0,.data TCS columns),(22,.data TVS row),(23,dI (row.length:Int)),(24,dI i0)],[]⟩
abbrev LP100_0 (columns:LC) (row:LV) (m:Nat) (st_:St) (K:KX):Prop:=True/\aY (s100_0 columns row) Z0 (row.length:Int) (F.iC columns row) (fun v0:Unit=>True) (aR (fun v0:Unit=>True->K (.exit 0) (⟨[],[]⟩:St)) (fun q0:Unit=>K .ret (⟨[(4,dB false)],[]⟩:St))) m st_
def L100 (columns:LC) (row:LV):aW:=lp1 0 (LP100_0 columns row)
theorem vc100 (columns:LC) (row:LV) (K:KA):vcT C100 (L100 columns row) ann100 f100 [.data TCS columns,.data TVS row] [] (.dat Ty.bool) K =
 ((Sm TCS columns)/\cond ((!(M.bD columns))==false) ((Sm TVS row)/\cond ((!(M.oD row))==false) (cond (!decide ((row.length:Int)=(columns.length:Int))) (K (dB false) []) (∃m_,True/\aY (s100_0 columns row) Z0 (row.length:Int) (F.iC columns row) (fun v0:Unit=>True) (aR (fun v0:Unit=>True->K (dB true) []) (fun q0:Unit=>K (dB false) [])) m_ (s100_0 columns row Z0 ()))) (K (dB false) [])) (K (dB false) [])):=by kernel_rfl
theorem lvc100_0 (columns:LC) (row:LV)  (i0:Int) (v0:Unit) (m:Nat) (K:KX):lvT C100 (L100 columns row) ann100 f100 0 0 (s100_0 columns row i0 v0) m K =
 (cond (decide (i0<(row.length:Int))) ((0<=i0)/\(i0<(row.length:Int))/\(0<=i0)/\(i0<(columns.length:Int))/\cond ((!decide ((nV row i0).1=(nC columns i0).1))==true) (cond ((!decide ((nV row i0).1=Z0))==false) ((0<=i0)/\(i0<(columns.length:Int))/\cond (!(nC columns i0).2.1) (K .ret (⟨[(4,dB false)],[]⟩:St)) (nxT (LP100_0 columns row) m K (s100_0 columns row (wrap64 (i0+Z1)) ()))) (K .ret (⟨[(4,dB false)],[]⟩:St))) (nxT (LP100_0 columns row) m K (s100_0 columns row (wrap64 (i0+Z1)) ()))) (K (.exit 0) (⟨[],[]⟩:St))):=by kernel_rfl
theorem con100_ok:aN P 100 c100:=aP C100 func100 (kC con75_ok (kC con168_ok kN)) fun args hp K h0=>by
 obtain⟨columns,row,rfl,rfl,h_columns,h_row,hK⟩:=g2e h0
 have h:ok (F.qh columns row) (fun r=>K (dB r) []):=ak (F.ya columns row h_columns h_row) hK
 refine⟨rfl,ann100,(L100 columns row),(.dat Ty.bool),(aI (i0:=0) (by kernel_rfl) ?_),?_⟩
 ·rintro _ _ K ⟨hc0,i0,v0,rfl,hl0,rfl,hv0,h⟩
  exact cast (lvc100_0 _ _ _ _ _ _).symm (aL h (fun ht0 h=>⟨hl0,⟨ht0,⟨hl0,(oG h fun g1 h=>(oC h (fun _ h=>(oC h (fun _ h=>⟨hl0,⟨g1,(oC h (fun _ h=>h) fun _ h=>(aE (fun _ hm=>⟨hc0,hm⟩) _ rfl hl0 dG ht0 (aM h_row) trivial h))⟩⟩) fun _ h=>h)) fun _ h=>(aE (fun _ hm=>⟨hc0,hm⟩) _ rfl hl0 dG ht0 (aM h_row) trivial h)))⟩⟩⟩) fun h=>(h trivial))
 ·rw[vc100]
  exact⟨h_columns,(oC h (fun _ h=>⟨h_row,(oC h (fun _ h=>(oC h (fun _ h=>h) fun _ h=>(aD (fun m hm=>⟨trivial,hm⟩) Z0 _ rfl (Int.natCast_nonneg 0) trivial (aF h (fun v0 h hv0=>h) (fun q0 h=>h))))) fun _ h=>h)⟩) fun _ h=>h)⟩
def c139:Con:=⟨[.dat TVS,.any],fun args hp K=>g2 (pD TVS) (pR TCS) (fun r columns=>(Sm TVS r)/\(Sm TCS columns)/\K (dB (!M.bH columns r)) []) args hp,.plain,false⟩
abbrev C139:Ctx:=cx [(100,c100)] 8 [] 0 false
def ann139:=an [[kp 3],[kp 8]] []
theorem vc139 (r:LV) (columns:LC) (K:KA):vcT C139 aq ann139 f139 [.data TVS r,.ref (.data TCS columns)] [] (.dat Ty.bool) K =
 ((Sm TCS columns)/\(Sm TVS r)/\K (dB (!(M.bH columns r))) []):=by kernel_rfl
theorem con139_ok:aN P 139 c139:=aP C139 func139 (kC con100_ok kN) fun args hp K h0=>by
 obtain⟨r,columns,rfl,rfl,h_r,h_columns,hK⟩:=g2e h0
 have h:ok (F.sQ r columns) (fun r=>K (dB r) []):=ak (F.wC r columns h_r h_columns) hK
 refine⟨rfl,ann139,aq,(.dat Ty.bool),(az (by kernel_rfl)),?_⟩
 ·rw[vc139]
  exact⟨h_columns,⟨h_r,h⟩⟩
def c158:Con:=⟨[.lent aa,.lent aa],fun args hp K=>g2 (pB aa) (pB aa) (fun xs ys=>(Sm TVS xs)/\(Sm TVS ys)/\K (dB (decide (xs=ys))) []) args hp,.plain,false⟩
abbrev C158:Ctx:=cx [] 26 [] 0 false
def ann158:=an [[kp 3],[kp 1027],[kp 16],[kp 12291],[kp 28675],[kp 12323],[kp 16789507],[kp 16],[kp 12291],[kp 16]] [[kp 0]]
abbrev s158_0 (xs:LV) (ys:LV) (i0:Int) (v0:Unit):St:=⟨[(0,.brw aa xs),(1,.brw aa ys),(12,dI (xs.length:Int)),(13,dI i0)],[]⟩
abbrev LP158_0 (xs:LV) (ys:LV) (m:Nat) (st_:St) (K:KX):Prop:=True/\aY (s158_0 xs ys) Z0 (xs.length:Int) (F.iB xs ys) (fun v0:Unit=>True) (aR (fun v0:Unit=>True->K (.exit 0) (⟨[],[]⟩:St)) (fun q0:Unit=>K .ret (⟨[(4,dB false)],[]⟩:St))) m st_
def L158 (xs:LV) (ys:LV):aW:=lp1 0 (LP158_0 xs ys)
theorem vc158 (xs:LV) (ys:LV) (K:KA):vcT C158 (L158 xs ys) ann158 f158 [.brw aa xs,.brw aa ys] [] (.dat Ty.bool) K =
 (cond (!decide ((xs.length:Int)=(ys.length:Int))) (K (dB false) []) (∃m_,True/\aY (s158_0 xs ys) Z0 (xs.length:Int) (F.iB xs ys) (fun v0:Unit=>True) (aR (fun v0:Unit=>True->K (dB true) []) (fun q0:Unit=>K (dB false) [])) m_ (s158_0 xs ys Z0 ()))):=by kernel_rfl
theorem lvc158_0 (xs:LV) (ys:LV)  (i0:Int) (v0:Unit) (m:Nat) (K:KX):lvT C158 (L158 xs ys) ann158 f158 0 0 (s158_0 xs ys i0 v0) m K =
 (cond (decide (i0<(xs.length:Int))) ((0<=i0)/\(i0<(xs.length:Int))/\(0<=i0)/\(i0<(ys.length:Int))/\cond (!(Ty.beq aa (nV xs i0) (nV ys i0))) (K .ret (⟨[(4,dB false)],[]⟩:St)) (nxT (LP158_0 xs ys) m K (s158_0 xs ys (wrap64 (i0+Z1)) ()))) (K (.exit 0) (⟨[],[]⟩:St))):=by kernel_rfl
theorem con158_ok:aN P 158 c158:=aP C158 func158 kN fun args hp K h0=>by
 obtain⟨xs,ys,rfl,rfl,h_xs,h_ys,hK⟩:=g2e h0
 have h:ok (F.vp xs ys) (fun r=>K (dB r) []):=ak (F.yc xs ys h_xs h_ys) hK
 refine⟨rfl,ann158,(L158 xs ys),(.dat Ty.bool),(aI (i0:=0) (by kernel_rfl) ?_),?_⟩
 ·rintro _ _ K ⟨hc0,i0,v0,rfl,hl0,rfl,hv0,h⟩
  exact cast (lvc158_0 _ _ _ _ _ _).symm (aL h (fun ht0 h=>⟨hl0,⟨ht0,⟨hl0,(oG h fun _ h=>(oC h (fun _ h=>h) fun _ h=>(aE (fun _ hm=>⟨hc0,hm⟩) _ rfl hl0 dG ht0 (aM h_xs) trivial h)))⟩⟩⟩) fun h=>(h trivial))
 ·rw[vc158]
  exact(oC h (fun _ h=>h) fun _ h=>(aD (fun m hm=>⟨trivial,hm⟩) Z0 _ rfl (Int.natCast_nonneg 0) trivial (aF h (fun v0 h hv0=>h) (fun q0 h=>h))))
def c191:Con:=⟨[.dat TVS,.any],fun args hp K=>g2 (pD TVS) (pR TVS) (fun r row=>(Sm TVS r)/\(Sm TVS row)/\K (dB (decide (r=row))) []) args hp,.plain,false⟩
abbrev C191:Ctx:=cx [(158,c158)] 7 [] 0 false
def ann191:=an [[kp 3],[kp 8]] []
theorem vc191 (r:LV) (row:LV) (K:KA):vcT C191 aq ann191 f191 [.data TVS r,.ref (.data TVS row)] [] (.dat Ty.bool) K =
 ((Sm TVS r)/\(Sm TVS row)/\K (dB (decide (r=row))) []):=by kernel_rfl
theorem con191_ok:aN P 191 c191:=aP C191 func191 (kC con158_ok kN) fun args hp K h0=>by
 obtain⟨r,row,rfl,rfl,h_r,h_row,hK⟩:=g2e h0
 have h:ok (F.uX r row) (fun r=>K (dB r) []):=ak (F.xY r row h_r h_row) hK
 refine⟨rfl,ann191,aq,(.dat Ty.bool),(az (by kernel_rfl)),?_⟩
 ·rw[vc191]
  exact⟨h_r,⟨h_row,h⟩⟩
abbrev C192:Ctx:=cx [] 9 [] 400000 true
def T192:Inl:=xT C192 (fun _=>[]) (dJ f192) f192.results.toList
theorem inlOk192:yq P 192 T192:=Db C192 func192 kN
def c134:Con:=⟨[.dat TVS],fun args hp K=>g1 (pD TVS) (fun xs=>(Sm TVS xs)/\(LD xs fun r=>K (.clp 0 (r.length:Int)) [(0,.arr .sh aa r)])) args hp,.bor,false⟩
abbrev C134:Ctx:=cx [] 9 [(192,T192)] 0 true
def ann134:=an [[kp 1],[kp 33],[.clip 2,kp 4],[kp 4]] []
theorem vc134 (xs:LV) (K:KA):vcT C134 aq ann134 f134 [.data TVS xs] [] .raw K =
 (cond (decide ((xs.length:Int)=Z0)) (K (.clp 0 (([]:List aa.D).length:Int)) [(0,.arr .sh aa ([]:List aa.D))]) ((xs.length * 32<=lim)/\(0<=Z0)/\(Z0<=(xs.length:Int))/\((xs.length:Int)<=(xs.length:Int))/\((xs.length:Int)=(xs.length:Int))/\(Z0=0)/\K (.clp 0 ((xs.take (xs.length:Int).toNat).length:Int)) [(0,.arr .sh aa (xs.take (xs.length:Int).toNat))])):=by kernel_rfl
theorem con134_ok:aN P 134 c134:=aP C134 func134 (kI inlOk192 kN) fun args hp K h0=>by
 obtain⟨xs,rfl,rfl,h_xs,hK⟩:=g1e h0
 have h:ok (F.vD xs) (fun r=>K (.clp 0 (r.length:Int)) [(0,.arr .sh aa r)]):=ak (F.xW xs h_xs) (hK _ rfl)
 refine⟨rfl,ann134,aq,.raw,(az (by kernel_rfl)),?_⟩
 ·rw[vc134]
  exact(oC h (fun _ h=>h) fun _ h=>⟨(DN h_xs rfl),⟨(Int.natCast_nonneg 0),⟨(Int.natCast_nonneg _),⟨(Int.le_refl _),⟨rfl,⟨rfl,h⟩⟩⟩⟩⟩⟩)
def c198:Con:=⟨[.dat TVS,.dat (Ty.sl au)],fun args hp K=>g2 (pD TVS) (pD (Ty.sl au)) (fun row list=>(Sm TVS row)/\(Sm (Ty.sl au) list)/\(M.eI row list)/\(LD (M.taken row list) fun r=>K (.data TVS r) [])) args hp,.plain,false⟩
abbrev C198:Ctx:=cx [(134,c134)] 24 [] 0 false
def ann198:=an [[kp 3],[kp 35],[kp 1825],[kp 3873],[kp 1953],[kp 1825],[kp 1825],[.freeze 23,kp 16]] [[kp 32]]
abbrev s198_0 (row:LV) (list:LI) (i0:Int) (v0:LV):St:=⟨[(0,.data TVS row),(5,.own 5 none),(8,.data (Ty.sl au) list),(9,dI (list.length:Int)),(10,dI i0)],[(5,.arr .sh aa v0)]⟩
abbrev LP198_0 (row:LV) (list:LI) (m:Nat) (st_:St) (K:KX):Prop:=True/\bI (t:=au) (s198_0 row list) list (F.jW row list) (fun v0:LV=>True) (aR (fun v0:LV=>True->K (.exit 0) (⟨[(5,.own 5 none)],[(5,.arr .sh aa v0)]⟩:St)) (fun _=>False)) m st_
def L198 (row:LV) (list:LI):aW:=lp1 0 (LP198_0 row list)
theorem vc198 (row:LV) (list:LI) (K:KA):vcT C198 (L198 row list) ann198 f198 [.data TVS row,.data (Ty.sl au) list] [] (.dat TVS) K =
 (∃m_,True/\bI (t:=au) (s198_0 row list) list (F.jW row list) (fun v0:LV=>True) (aR (fun v0:LV=>True->(Sm TVS v0)/\(LD v0 fun r1=>K (.data TVS (aB r1 (some (Z0,(r1.length:Int))))) [])) (fun _=>False)) m_ (s198_0 row list Z0 [])):=by kernel_rfl
theorem lvc198_0 (row:LV) (list:LI)  (i0:Int) (v0:LV) (m:Nat) (K:KX):lvT C198 (L198 row list) ann198 f198 0 0 (s198_0 row list i0 v0) m K =
 (cond (decide (i0<(list.length:Int))) ((0<=i0)/\(i0<(list.length:Int))/\(0<=(nI list i0))/\((nI list i0)<(row.length:Int))/\((v0.length+[(nV row (nI list i0))].length) * 32<=lim)/\(nxT (LP198_0 row list) m K (s198_0 row list (wrap64 (i0+Z1)) (v0++[(nV row (nI list i0))])))) (K (.exit 0) (⟨[(5,.own 5 none)],[(5,.arr .sh aa v0)]⟩:St))):=by kernel_rfl
theorem con198_ok:aN P 198 c198:=aP C198 func198 (kC con134_ok kN) fun args hp K h0=>by
 obtain⟨row,list,rfl,rfl,h_row,h_list,p0,hK⟩:=g2e h0
 have h:ok (F.tM row list) (fun r=>K (.data TVS r) []):=ak (F.AG row list h_row h_list p0) (hK _ rfl)
 refine⟨rfl,ann198,(L198 row list),(.dat TVS),(aI (i0:=0) (by kernel_rfl) ?_),?_⟩
 ·rintro _ _ K ⟨hc0,i0,v0,rfl,hl0,rfl,hv0,h⟩
  exact cast (lvc198_0 _ _ _ _ _ _).symm (br (t:=au) hl0 h (fun ht0 h=>⟨hl0,⟨ht0,(oG h fun _ h=>(oG h fun _ h=>(oG h fun _ h=>(aT (t:=au) (fun _ hm=>⟨hc0,hm⟩) _ rfl hl0 ht0 (aM h_list) trivial h))))⟩⟩) fun h=>(h trivial))
 ·rw[vc198]
  exact(aZ (t:=au) (fun m hm=>⟨trivial,hm⟩) _ rfl trivial (aF h (fun v0 h hv0=>(oG h fun _ h=>(oL h fun _ _ h=>h))) (fun _ h=>h.elim)))
def c202:Con:=⟨[.dat TVS,.any,.any],fun args hp K=>g3 (pD TVS) (pR (Ty.sl au)) (pR TVS) (fun r list key=>(Sm TVS r)/\(Sm (Ty.sl au) list)/\(Sm TVS key)/\(M.eI r list)/\K (dB (decide (M.taken r list=key))) []) args hp,.plain,false⟩
abbrev C202:Ctx:=cx [(158,c158),(198,c198)] 10 [] 0 false
def ann202:=an [[kp 7],[kp 16]] []
theorem vc202 (r:LV) (list:LI) (key:LV) (K:KA):vcT C202 aq ann202 f202 [.data TVS r,.ref (.data (Ty.sl au) list),.ref (.data TVS key)] [] (.dat Ty.bool) K =
 ((Sm TVS r)/\(Sm (Ty.sl au) list)/\(M.eI r list)/\(LD (M.taken r list) fun r1=>(Sm TVS r1)/\(Sm TVS key)/\K (dB (decide (r1=key))) [])):=by kernel_rfl
theorem con202_ok:aN P 202 c202:=aP C202 func202 (kC con158_ok (kC con198_ok kN)) fun args hp K h0=>by
 obtain⟨r,list,key,rfl,rfl,h_r,h_list,h_key,p0,hK⟩:=g3e h0
 have h:ok (F.kH r list key) (fun r=>K (dB r) []):=ak (F.oE r list key h_r h_list h_key p0) hK
 refine⟨rfl,ann202,aq,(.dat Ty.bool),(az (by kernel_rfl)),?_⟩
 ·rw[vc202]
  exact⟨h_r,⟨h_list,⟨p0,(oL h fun _ er1 h=>⟨(gI er1 (M.fO h_r h_list)),⟨h_key,h⟩⟩)⟩⟩⟩
def c190:Con:=⟨[.lent TVS,.any],fun args hp K=>(args2 (fun a0 a1=>ig TVS a0 fun xs=>gC 191 a1 (oM (fun b1_0=>lD TVS b1_0 fun k0=>(Sm (Ty.sl TVS) xs)/\(Sm TVS k0)/\K (dI (M.idx (t:=TVS) (fun e=>decide (e=k0)) xs)) []))) args hp)\/(args2 (fun a0 a1=>ig TVS a0 fun xs=>gC 139 a1 (oM (fun b1_0=>lD TCS b1_0 fun k0=>(Sm (Ty.sl TVS) xs)/\(Sm TCS k0)/\K (dI (M.idx (t:=TVS) (fun e=>!M.bH k0 e) xs)) []))) args hp)\/(args2 (fun a0 a1=>ig TVS a0 fun xs=>gC 202 a1 (EB (fun b1_0 b1_1=>lD (Ty.sl au) b1_0 fun k0=>lD TVS b1_1 fun k1=>(Sm (Ty.sl TVS) xs)/\(Sm (Ty.sl au) k0)/\(Sm TVS k1)/\(∀e∈xs,M.eI e k0)/\K (dI (M.idx (t:=TVS) (fun e=>decide (M.taken e k0=k1)) xs)) []))) args hp),.plain,false⟩
abbrev C190:Ctx:=cx [(139,c139),(191,c191),(202,c202)] 19 [] 0 false
def ann190_v0:=an [[kp 3],[kp 387],[kp 899],[kp 419],[kp 65955],[kp 16],[kp 387],[kp 16]] [[kp 0]]
abbrev s190_0_v0 (xs:(List LV)) (k0:LV) (i0:Int) (v0:Unit):St:=⟨[(0,.brw TVS xs),(1,.fn 191 [.ref (.data TVS k0)]),(7,dI (xs.length:Int)),(8,dI i0)],[]⟩
abbrev LP190_0_v0 (xs:(List LV)) (k0:LV) (m:Nat) (st_:St) (K:KX):Prop:=True/\aY (s190_0_v0 xs k0) Z0 (xs.length:Int) (F.cT xs k0) (fun v0:Unit=>True) (aR (fun v0:Unit=>True->K (.exit 0) (⟨[],[]⟩:St)) (fun q0:Int=>K .ret (⟨[(4,dI q0)],[]⟩:St))) m st_
def L190_v0 (xs:(List LV)) (k0:LV):aW:=lp1 0 (LP190_0_v0 xs k0)
theorem vc190_v0 (xs:(List LV)) (k0:LV) (K:KA):vcT C190 (L190_v0 xs k0) ann190_v0 f190 [.brw TVS xs,.fn 191 [.ref (.data TVS k0)]] [] (.dat au) K =
 (∃m_,True/\aY (s190_0_v0 xs k0) Z0 (xs.length:Int) (F.cT xs k0) (fun v0:Unit=>True) (aR (fun v0:Unit=>True->K (dI (-1:Int)) []) (fun q0:Int=>K (dI q0) [])) m_ (s190_0_v0 xs k0 Z0 ())):=by kernel_rfl
theorem lvc190_0_v0 (xs:(List LV)) (k0:LV)  (i0:Int) (v0:Unit) (m:Nat) (K:KX):lvT C190 (L190_v0 xs k0) ann190_v0 f190 0 0 (s190_0_v0 xs k0 i0 v0) m K =
 (cond (decide (i0<(xs.length:Int))) ((0<=i0)/\(i0<(xs.length:Int))/\(Sm TVS (nth (t:=TVS) xs i0))/\(Sm TVS k0)/\cond (decide ((nth (t:=TVS) xs i0)=k0)) (K .ret (⟨[(4,dI i0)],[]⟩:St)) (nxT (LP190_0_v0 xs k0) m K (s190_0_v0 xs k0 (wrap64 (i0+Z1)) ()))) (K (.exit 0) (⟨[],[]⟩:St))):=by kernel_rfl
def ann190_v1:=an [[kp 3],[kp 387],[kp 899],[kp 419],[kp 65955],[kp 16],[kp 387],[kp 16]] [[kp 0]]
abbrev s190_0_v1 (xs:(List LV)) (k0:LC) (i0:Int) (v0:Unit):St:=⟨[(0,.brw TVS xs),(1,.fn 139 [.ref (.data TCS k0)]),(7,dI (xs.length:Int)),(8,dI i0)],[]⟩
abbrev LP190_0_v1 (xs:(List LV)) (k0:LC) (m:Nat) (st_:St) (K:KX):Prop:=True/\aY (s190_0_v1 xs k0) Z0 (xs.length:Int) (F.cN xs k0) (fun v0:Unit=>True) (aR (fun v0:Unit=>True->K (.exit 0) (⟨[],[]⟩:St)) (fun q0:Int=>K .ret (⟨[(4,dI q0)],[]⟩:St))) m st_
def L190_v1 (xs:(List LV)) (k0:LC):aW:=lp1 0 (LP190_0_v1 xs k0)
theorem vc190_v1 (xs:(List LV)) (k0:LC) (K:KA):vcT C190 (L190_v1 xs k0) ann190_v1 f190 [.brw TVS xs,.fn 139 [.ref (.data TCS k0)]] [] (.dat au) K =
 (∃m_,True/\aY (s190_0_v1 xs k0) Z0 (xs.length:Int) (F.cN xs k0) (fun v0:Unit=>True) (aR (fun v0:Unit=>True->K (dI (-1:Int)) []) (fun q0:Int=>K (dI q0) [])) m_ (s190_0_v1 xs k0 Z0 ())):=by kernel_rfl
theorem lvc190_0_v1 (xs:(List LV)) (k0:LC)  (i0:Int) (v0:Unit) (m:Nat) (K:KX):lvT C190 (L190_v1 xs k0) ann190_v1 f190 0 0 (s190_0_v1 xs k0 i0 v0) m K =
 (cond (decide (i0<(xs.length:Int))) ((0<=i0)/\(i0<(xs.length:Int))/\(Sm TVS (nth (t:=TVS) xs i0))/\(Sm TCS k0)/\cond (!M.bH k0 (nth (t:=TVS) xs i0)) (K .ret (⟨[(4,dI i0)],[]⟩:St)) (nxT (LP190_0_v1 xs k0) m K (s190_0_v1 xs k0 (wrap64 (i0+Z1)) ()))) (K (.exit 0) (⟨[],[]⟩:St))):=by kernel_rfl
def ann190_v2:=an [[kp 3],[kp 387],[kp 899],[kp 419],[kp 65955],[kp 16],[kp 387],[kp 16]] [[kp 0]]
abbrev s190_0_v2 (xs:(List LV)) (k0:LI) (k1:LV) (i0:Int) (v0:Unit):St:=⟨[(0,.brw TVS xs),(1,.fn 202 [.ref (.data (Ty.sl au) k0),.ref (.data TVS k1)]),(7,dI (xs.length:Int)),(8,dI i0)],[]⟩
abbrev LP190_0_v2 (xs:(List LV)) (k0:LI) (k1:LV) (m:Nat) (st_:St) (K:KX):Prop:=True/\aY (s190_0_v2 xs k0 k1) Z0 (xs.length:Int) (F.bT xs k0 k1) (fun v0:Unit=>True) (aR (fun v0:Unit=>True->K (.exit 0) (⟨[],[]⟩:St)) (fun q0:Int=>K .ret (⟨[(4,dI q0)],[]⟩:St))) m st_
def L190_v2 (xs:(List LV)) (k0:LI) (k1:LV):aW:=lp1 0 (LP190_0_v2 xs k0 k1)
theorem vc190_v2 (xs:(List LV)) (k0:LI) (k1:LV) (K:KA):vcT C190 (L190_v2 xs k0 k1) ann190_v2 f190 [.brw TVS xs,.fn 202 [.ref (.data (Ty.sl au) k0),.ref (.data TVS k1)]] [] (.dat au) K =
 (∃m_,True/\aY (s190_0_v2 xs k0 k1) Z0 (xs.length:Int) (F.bT xs k0 k1) (fun v0:Unit=>True) (aR (fun v0:Unit=>True->K (dI (-1:Int)) []) (fun q0:Int=>K (dI q0) [])) m_ (s190_0_v2 xs k0 k1 Z0 ())):=by kernel_rfl
theorem lvc190_0_v2 (xs:(List LV)) (k0:LI) (k1:LV)  (i0:Int) (v0:Unit) (m:Nat) (K:KX):lvT C190 (L190_v2 xs k0 k1) ann190_v2 f190 0 0 (s190_0_v2 xs k0 k1 i0 v0) m K =
 (cond (decide (i0<(xs.length:Int))) ((0<=i0)/\(i0<(xs.length:Int))/\(Sm TVS (nth (t:=TVS) xs i0))/\(Sm (Ty.sl au) k0)/\(Sm TVS k1)/\(M.eI (nth (t:=TVS) xs i0) k0)/\cond (decide (M.taken (nth (t:=TVS) xs i0) k0=k1)) (K .ret (⟨[(4,dI i0)],[]⟩:St)) (nxT (LP190_0_v2 xs k0 k1) m K (s190_0_v2 xs k0 k1 (wrap64 (i0+Z1)) ()))) (K (.exit 0) (⟨[],[]⟩:St))):=by kernel_rfl
theorem con190_ok:aN P 190 c190:=aP C190 func190 (kC con139_ok (kC con191_ok (kC con202_ok kN))) fun args hp K h0=>by
 rcases h0 with h0 | h0 | h0
 ·obtain⟨a0,a1,rfl,rfl,h1⟩:=bt h0
  obtain⟨xs,rfl,h2⟩:=bS h1
  obtain⟨cs1,rfl,h3⟩:=bN h2
  obtain⟨b1_0,rfl,h4⟩:=dV h3
  obtain⟨k0,rfl,h5⟩:=cK h4
  obtain⟨h_xs,h_k0,hK⟩:=h5
  have h:ok (F.jo xs k0) (fun r=>K (dI r) []):=ak (F.mX xs k0 h_xs h_k0) hK
  refine⟨rfl,ann190_v0,(L190_v0 xs k0),(.dat au),(aI (i0:=0) (by kernel_rfl) ?_),?_⟩
  ·rintro _ _ K ⟨hc0,i0,v0,rfl,hl0,rfl,hv0,h⟩
   exact cast (lvc190_0_v0 _ _ _ _ _ _).symm (aL h (fun ht0 h=>⟨hl0,⟨ht0,⟨(ay h_xs i0),⟨h_k0,(oC h (fun _ h=>h) fun _ h=>(aE (fun _ hm=>⟨hc0,hm⟩) _ rfl hl0 dG ht0 (aM h_xs) trivial h))⟩⟩⟩⟩) fun h=>(h trivial))
  ·rw[vc190_v0]
   exact(aD (fun m hm=>⟨trivial,hm⟩) Z0 _ rfl (Int.natCast_nonneg 0) trivial (aF h (fun v0 h hv0=>h) (fun q0 h=>h)))
 ·obtain⟨a0,a1,rfl,rfl,h1⟩:=bt h0
  obtain⟨xs,rfl,h2⟩:=bS h1
  obtain⟨cs1,rfl,h3⟩:=bN h2
  obtain⟨b1_0,rfl,h4⟩:=dV h3
  obtain⟨k0,rfl,h5⟩:=cK h4
  obtain⟨h_xs,h_k0,hK⟩:=h5
  have h:ok (F.iW xs k0) (fun r=>K (dI r) []):=ak (F.mS xs k0 h_xs h_k0) hK
  refine⟨rfl,ann190_v1,(L190_v1 xs k0),(.dat au),(aI (i0:=0) (by kernel_rfl) ?_),?_⟩
  ·rintro _ _ K ⟨hc0,i0,v0,rfl,hl0,rfl,hv0,h⟩
   exact cast (lvc190_0_v1 _ _ _ _ _ _).symm (aL h (fun ht0 h=>⟨hl0,⟨ht0,⟨(ay h_xs i0),⟨h_k0,(oC h (fun _ h=>h) fun _ h=>(aE (fun _ hm=>⟨hc0,hm⟩) _ rfl hl0 dG ht0 (aM h_xs) trivial h))⟩⟩⟩⟩) fun h=>(h trivial))
  ·rw[vc190_v1]
   exact(aD (fun m hm=>⟨trivial,hm⟩) Z0 _ rfl (Int.natCast_nonneg 0) trivial (aF h (fun v0 h hv0=>h) (fun q0 h=>h)))
 ·obtain⟨a0,a1,rfl,rfl,h1⟩:=bt h0
  obtain⟨xs,rfl,h2⟩:=bS h1
  obtain⟨cs1,rfl,h3⟩:=bN h2
  obtain⟨b1_0,b1_1,rfl,h4⟩:=yU h3
  obtain⟨k0,rfl,h5⟩:=cK h4
  obtain⟨k1,rfl,h6⟩:=cK h5
  obtain⟨h_xs,h_k0,h_k1,p0,hK⟩:=h6
  have h:ok (F.fc xs k0 k1) (fun r=>K (dI r) []):=ak (F.jc xs k0 k1 h_xs h_k0 h_k1 p0) hK
  refine⟨rfl,ann190_v2,(L190_v2 xs k0 k1),(.dat au),(aI (i0:=0) (by kernel_rfl) ?_),?_⟩
  ·rintro _ _ K ⟨hc0,i0,v0,rfl,hl0,rfl,hv0,h⟩
   exact cast (lvc190_0_v2 _ _ _ _ _ _ _).symm (aL h (fun ht0 h=>⟨hl0,⟨ht0,⟨(ay h_xs i0),⟨h_k0,⟨h_k1,(oG h fun _ h=>(oC h (fun _ h=>h) fun _ h=>(aE (fun _ hm=>⟨hc0,hm⟩) _ rfl hl0 dG ht0 (aM h_xs) trivial h)))⟩⟩⟩⟩⟩) fun h=>(h trivial))
  ·rw[vc190_v2]
   exact(aD (fun m hm=>⟨trivial,hm⟩) Z0 _ rfl (Int.natCast_nonneg 0) trivial (aF h (fun v0 h hv0=>h) (fun q0 h=>h)))
def c138:Con:=⟨[.lent TVS,.any],fun args hp K=>(args2 (fun a0 a1=>ig TVS a0 fun xs=>gC 139 a1 (oM (fun b1_0=>lD TCS b1_0 fun k0=>(Sm (Ty.sl TVS) xs)/\(Sm TCS k0)/\K (dB (List.any xs (fun e=>!M.bH k0 e))) []))) args hp)\/(args2 (fun a0 a1=>ig TVS a0 fun xs=>gC 202 a1 (EB (fun b1_0 b1_1=>lD (Ty.sl au) b1_0 fun k0=>lD TVS b1_1 fun k1=>(Sm (Ty.sl TVS) xs)/\(Sm (Ty.sl au) k0)/\(Sm TVS k1)/\(∀e∈xs,M.eI e k0)/\K (dB (List.any xs (fun e=>decide (M.taken e k0=k1)))) []))) args hp),.plain,false⟩
abbrev C138:Ctx:=cx [(139,c139),(190,c190),(202,c202)] 9 [] 0 false
def ann138_v0:=an [[kp 3],[kp 16]] []
theorem vc138_v0 (xs:(List LV)) (k0:LC) (K:KA):vcT C138 aq ann138_v0 f138 [.brw TVS xs,.fn 139 [.ref (.data TCS k0)]] [] (.dat Ty.bool) K =
 (False\/((Sm (Ty.sl TVS) xs)/\(Sm TCS k0)/\K (dB (decide (Z0<=(M.idx (t:=TVS) (fun e=>!M.bH k0 e) xs)))) [])\/False):=by kernel_rfl
def ann138_v1:=an [[kp 3],[kp 16]] []
theorem vc138_v1 (xs:(List LV)) (k0:LI) (k1:LV) (K:KA):vcT C138 aq ann138_v1 f138 [.brw TVS xs,.fn 202 [.ref (.data (Ty.sl au) k0),.ref (.data TVS k1)]] [] (.dat Ty.bool) K =
 (False\/False\/((Sm (Ty.sl TVS) xs)/\(Sm (Ty.sl au) k0)/\(Sm TVS k1)/\(∀e∈xs,M.eI e k0)/\K (dB (decide (Z0<=(M.idx (t:=TVS) (fun e=>decide (M.taken e k0=k1)) xs)))) [])):=by kernel_rfl
theorem con138_ok:aN P 138 c138:=aP C138 func138 (kC con139_ok (kC con190_ok (kC con202_ok kN))) fun args hp K h0=>by
 rcases h0 with h0 | h0
 ·obtain⟨a0,a1,rfl,rfl,h1⟩:=bt h0
  obtain⟨xs,rfl,h2⟩:=bS h1
  obtain⟨cs1,rfl,h3⟩:=bN h2
  obtain⟨b1_0,rfl,h4⟩:=dV h3
  obtain⟨k0,rfl,h5⟩:=cK h4
  obtain⟨h_xs,h_k0,hK⟩:=h5
  have h:ok (F.dW xs k0) (fun r=>K (dB r) []):=ak (F.kq xs k0 h_xs h_k0) hK
  refine⟨rfl,ann138_v0,aq,(.dat Ty.bool),(az (by kernel_rfl)),?_⟩
  ·rw[vc138_v0]
   exact(Or.inr (Or.inl (⟨h_xs,⟨h_k0,h⟩⟩)))
 ·obtain⟨a0,a1,rfl,rfl,h1⟩:=bt h0
  obtain⟨xs,rfl,h2⟩:=bS h1
  obtain⟨cs1,rfl,h3⟩:=bN h2
  obtain⟨b1_0,b1_1,rfl,h4⟩:=yU h3
  obtain⟨k0,rfl,h5⟩:=cK h4
  obtain⟨k1,rfl,h6⟩:=cK h5
  obtain⟨h_xs,h_k0,h_k1,p0,hK⟩:=h6
  have h:ok (F.cH xs k0 k1) (fun r=>K (dB r) []):=ak (F.hO xs k0 k1 h_xs h_k0 h_k1 p0) hK
  refine⟨rfl,ann138_v1,aq,(.dat Ty.bool),(az (by kernel_rfl)),?_⟩
  ·rw[vc138_v1]
   exact(Or.inr (Or.inr (⟨h_xs,⟨h_k0,⟨h_k1,⟨p0,h⟩⟩⟩⟩)))
def c76:Con:=⟨[.dat TCS,.dat (Ty.sl TVS)],fun args hp K=>g2 (pD TCS) (pD (Ty.sl TVS)) (fun columns rows=>(Sm TCS columns)/\(Sm (Ty.sl TVS) rows)/\K (dB (M.fT columns rows)) []) args hp,.plain,false⟩
abbrev C76:Ctx:=cx [(75,c75),(138,c138),(139,c139)] 13 [] 0 false
def ann76:=an [[.fixBox 2,kp 6],[kp 16]] []
theorem vc76 (columns:LC) (rows:(List LV)) (K:KA):vcT C76 aq ann76 f76 [.data TCS columns,.data (Ty.sl TVS) rows] [] (.dat Ty.bool) K =
 ((Sm TCS columns)/\cond ((M.bD columns)==true) (((Sm (Ty.sl TVS) rows)/\(Sm TCS columns)/\K (dB (!(List.any rows (fun e=>!M.bH columns e)))) [])\/False) (K (dB false) [])):=by kernel_rfl
theorem con76_ok:aN P 76 c76:=aP C76 func76 (kC con75_ok (kC con138_ok (kC con139_ok kN))) fun args hp K h0=>by
 obtain⟨columns,rows,rfl,rfl,h_columns,h_rows,hK⟩:=g2e h0
 have h:ok (F.qO columns rows) (fun r=>K (dB r) []):=ak (F.zQ columns rows h_columns h_rows) hK
 refine⟨rfl,ann76,aq,(.dat Ty.bool),(az (by kernel_rfl)),?_⟩
 ·rw[vc76]
  exact⟨h_columns,(oC h (fun _ h=>(Or.inl (⟨h_rows,⟨h_columns,h⟩⟩))) fun _ h=>h)⟩
def c74:Con:=⟨[.dat TTable],fun args hp K=>g1 (pD TTable) (fun t=>(Sm TTable t)/\K (dB (!M.cU t)) []) args hp,.plain,false⟩
abbrev C74:Ctx:=cx [(75,c75),(76,c76)] 21 [] 0 false
def ann74:=an [[.fixRow 1 TTable,kp 2],[kp 4]] []
theorem vc74 (t:TTable.D) (K:KA):vcT C74 aq ann74 f74 [.data TTable t] [] (.dat Ty.bool) K =
 ((Sm TCS t.1)/\cond ((!(M.bD t.1))==false) (cond ((decide (Z6<(t.2.1.length:Int)))==false) ((Sm TCS t.1)/\(Sm (Ty.sl TVS) t.2.1)/\K (dB (!(M.fT t.1 t.2.1))) []) (K (dB true) [])) (K (dB true) [])):=by kernel_rfl
theorem con74_ok:aN P 74 c74:=aP C74 func74 (kC con75_ok (kC con76_ok kN)) fun args hp K h0=>by
 obtain⟨t,rfl,rfl,h_t,hK⟩:=g1e h0
 have h:ok (F.kZ t) (fun r=>K (dB r) []):=ak (F.sV t h_t) hK
 refine⟨rfl,ann74,aq,(.dat Ty.bool),(az (by kernel_rfl)),?_⟩
 ·rw[vc74]
  exact⟨h_t.1,(oC h (fun _ h=>(oC h (fun _ h=>⟨h_t.1,⟨h_t.2.1,h⟩⟩) fun _ h=>h)) fun _ h=>h)⟩
def c135:Con:=⟨[.lent TTable,.any],fun args hp K=>args2 (fun a0 a1=>ig TTable a0 fun xs=>gC 74 a1 (sI ((Sm TTb xs)/\K (dI (M.idx (t:=TTable) (fun e=>!M.cU e) xs)) []))) args hp,.plain,false⟩
abbrev C135:Ctx:=cx [(74,c74)] 19 [] 0 false
def ann135:=an [[kp 3],[kp 387],[kp 899],[kp 419],[kp 65955],[kp 16],[kp 387],[kp 16]] [[kp 0]]
abbrev s135_0 (xs:LTb) (i0:Int) (v0:Unit):St:=⟨[(0,.brw TTable xs),(1,.fn 74 []),(7,dI (xs.length:Int)),(8,dI i0)],[]⟩
abbrev LP135_0 (xs:LTb) (m:Nat) (st_:St) (K:KX):Prop:=True/\aY (s135_0 xs) Z0 (xs.length:Int) (F.cD xs) (fun v0:Unit=>True) (aR (fun v0:Unit=>True->K (.exit 0) (⟨[],[]⟩:St)) (fun q0:Int=>K .ret (⟨[(4,dI q0)],[]⟩:St))) m st_
def L135 (xs:LTb):aW:=lp1 0 (LP135_0 xs)
theorem vc135 (xs:LTb) (K:KA):vcT C135 (L135 xs) ann135 f135 [.brw TTable xs,.fn 74 []] [] (.dat au) K =
 (∃m_,True/\aY (s135_0 xs) Z0 (xs.length:Int) (F.cD xs) (fun v0:Unit=>True) (aR (fun v0:Unit=>True->K (dI (-1:Int)) []) (fun q0:Int=>K (dI q0) [])) m_ (s135_0 xs Z0 ())):=by kernel_rfl
theorem lvc135_0 (xs:LTb)  (i0:Int) (v0:Unit) (m:Nat) (K:KX):lvT C135 (L135 xs) ann135 f135 0 0 (s135_0 xs i0 v0) m K =
 (cond (decide (i0<(xs.length:Int))) ((0<=i0)/\(i0<(xs.length:Int))/\(Sm TTable (nT xs i0))/\cond (!M.cU (nT xs i0)) (K .ret (⟨[(4,dI i0)],[]⟩:St)) (nxT (LP135_0 xs) m K (s135_0 xs (wrap64 (i0+Z1)) ()))) (K (.exit 0) (⟨[],[]⟩:St))):=by kernel_rfl
theorem con135_ok:aN P 135 c135:=aP C135 func135 (kC con74_ok kN) fun args hp K h0=>by
 obtain⟨a0,a1,rfl,rfl,h1⟩:=bt h0
 obtain⟨xs,rfl,h2⟩:=bS h1
 obtain⟨cs1,rfl,h3⟩:=bN h2
 obtain⟨rfl,h4⟩:=gw h3
 obtain⟨h_xs,hK⟩:=h4
 have h:ok (F.gZ xs) (fun r=>K (dI r) []):=ak (F.lp xs h_xs) hK
 refine⟨rfl,ann135,(L135 xs),(.dat au),(aI (i0:=0) (by kernel_rfl) ?_),?_⟩
 ·rintro _ _ K ⟨hc0,i0,v0,rfl,hl0,rfl,hv0,h⟩
  exact cast (lvc135_0 _ _ _ _ _).symm (aL h (fun ht0 h=>⟨hl0,⟨ht0,⟨(ay h_xs i0),(oC h (fun _ h=>h) fun _ h=>(aE (fun _ hm=>⟨hc0,hm⟩) _ rfl hl0 dG ht0 (aM h_xs) trivial h))⟩⟩⟩) fun h=>(h trivial))
 ·rw[vc135]
  exact(aD (fun m hm=>⟨trivial,hm⟩) Z0 _ rfl (Int.natCast_nonneg 0) trivial (aF h (fun v0 h hv0=>h) (fun q0 h=>h)))
def c73:Con:=⟨[.lent TTable,.any],fun args hp K=>args2 (fun a0 a1=>ig TTable a0 fun xs=>gC 74 a1 (sI ((Sm TTb xs)/\K (dB (List.any xs (fun e=>!M.cU e))) []))) args hp,.plain,false⟩
abbrev C73:Ctx:=cx [(74,c74),(135,c135)] 9 [] 0 false
def ann73:=an [[kp 3],[kp 16]] []
theorem vc73 (xs:LTb) (K:KA):vcT C73 aq ann73 f73 [.brw TTable xs,.fn 74 []] [] (.dat Ty.bool) K =
 ((Sm TTb xs)/\K (dB (decide (Z0<=(M.idx (t:=TTable) (fun e=>!M.cU e) xs)))) []):=by kernel_rfl
theorem con73_ok:aN P 73 c73:=aP C73 func73 (kC con74_ok (kC con135_ok kN)) fun args hp K h0=>by
 obtain⟨a0,a1,rfl,rfl,h1⟩:=bt h0
 obtain⟨xs,rfl,h2⟩:=bS h1
 obtain⟨cs1,rfl,h3⟩:=bN h2
 obtain⟨rfl,h4⟩:=gw h3
 obtain⟨h_xs,hK⟩:=h4
 have h:ok (F.dA xs) (fun r=>K (dB r) []):=ak (F.ju xs h_xs) hK
 refine⟨rfl,ann73,aq,(.dat Ty.bool),(az (by kernel_rfl)),?_⟩
 ·rw[vc73]
  exact⟨h_xs,h⟩
def c28:Con:=⟨[.dat TTb],fun args hp K=>g1 (pD TTb) (fun tables=>(Sm TTb tables)/\K (dB (M.aA tables)) []) args hp,.plain,false⟩
abbrev C28:Ctx:=cx [(73,c73)] 11 [] 0 false
def ann28:=an [[kp 1],[kp 4]] []
theorem vc28 (tables:LTb) (K:KA):vcT C28 aq ann28 f28 [.data TTb tables] [] (.dat Ty.bool) K =
 (cond ((decide ((tables.length:Int)<=Z3))==true) ((Sm TTb tables)/\K (dB (!(List.any tables (fun e=>!M.cU e)))) []) (K (dB false) [])):=by kernel_rfl
theorem con28_ok:aN P 28 c28:=aP C28 func28 (kC con73_ok kN) fun args hp K h0=>by
 obtain⟨tables,rfl,rfl,h_tables,hK⟩:=g1e h0
 have h:ok (F.od tables) (fun r=>K (dB r) []):=ak (F.wA tables h_tables) hK
 refine⟨rfl,ann28,aq,(.dat Ty.bool),(az (by kernel_rfl)),?_⟩
 ·rw[vc28]
  exact(oC h (fun _ h=>⟨h_tables,h⟩) fun _ h=>h)
def c133:Con:=⟨[.dat (Ty.sl TVS),.dat TVS],fun args hp K=>g2 (pD (Ty.sl TVS)) (pD TVS) (fun rows row=>(Sm (Ty.sl TVS) rows)/\(Sm TVS row)/\K (dI (M.rowAt rows row)) []) args hp,.bor,false⟩
abbrev C133:Ctx:=cx [(190,c190),(191,c191)] 8 [] 0 false
def ann133:=an [[.fixBox 3,kp 9],[kp 16]] []
theorem vc133 (rows:(List LV)) (row:LV) (K:KA):vcT C133 aq ann133 f133 [.data (Ty.sl TVS) rows,.data TVS row] [] (.dat au) K =
 (((Sm (Ty.sl TVS) rows)/\(Sm TVS row)/\K (dI (M.idx (t:=TVS) (fun e=>decide (e=row)) rows)) [])\/False\/False):=by kernel_rfl
theorem con133_ok:aN P 133 c133:=aP C133 func133 (kC con190_ok (kC con191_ok kN)) fun args hp K h0=>by
 obtain⟨rows,row,rfl,rfl,h_rows,h_row,hK⟩:=g2e h0
 have h:ok (F.yP rows row) (fun r=>K (dI r) []):=ak (F.AA rows row h_rows h_row) hK
 refine⟨rfl,ann133,aq,(.dat au),(az (by kernel_rfl)),?_⟩
 ·rw[vc133]
  exact(Or.inl (⟨h_rows,⟨h_row,h⟩⟩))
def c71:Con:=⟨[.dat TTb,.dat TChange],fun args hp K=>g2 (pD TTb) (pD TChange) (fun tables c=>(Sm TTb tables)/\(Sm TChange c)/\K (dB (M.bf tables c)) []) args hp,.bor,false⟩
abbrev C71:Ctx:=cx [(28,c28),(100,c100),(132,c132),(133,c133)] 51 [] 0 false
def ann71:=an [[.fixRow 3 TChange,kp 9],[kp 131081],[kp 16],[.fixRow 5 TTable,kp 40],[kp 16]] []
abbrev S71_0 (tables:LTb) (c:TChange.D) (K:KA):Prop:=cond ((!c.2.2.1)==true) ((Sm (Ty.sl TVS) (nT tables c.1).2.1)/\(Sm TVS c.2.1)/\K (dB (decide (Z0<=(M.rowAt (nT tables c.1).2.1 c.2.1)))) []) (K (dB false) [])
theorem vc71 (tables:LTb) (c:TChange.D) (K:KA):vcT C71 aq ann71 f71 [.data TTb tables,.data TChange c] [] (.dat Ty.bool) K =
 ((Sm TTb tables)/\cond ((!(M.aA tables))==false) (cond (!(M.inR c.1 Z0 (wrap64 ((tables.length:Int)-Z1)))) (K (dB false) []) ((0<=c.1)/\(c.1<(tables.length:Int))/\(Sm TCS (nT tables c.1).1)/\(Sm TVS c.2.1)/\cond ((M.bH (nT tables c.1).1 c.2.1)==true) (cond (c.2.2.1==true) (cond ((decide (((nT tables c.1).2.1.length:Int)<Z6))==false) (S71_0 tables c K) (K (dB true) [])) (S71_0 tables c K)) (K (dB false) []))) (K (dB false) [])):=by kernel_rfl
theorem con71_ok:aN P 71 c71:=aP C71 func71 (kC con28_ok (kC con100_ok (kC con132_ok (kC con133_ok kN)))) fun args hp K h0=>by
 obtain⟨tables,c,rfl,rfl,h_tables,h_c,hK⟩:=g2e h0
 have h:ok (F.oo tables c) (fun r=>K (dB r) []):=ak (F.vP tables c h_tables h_c) hK
 refine⟨rfl,ann71,aq,(.dat Ty.bool),(az (by kernel_rfl)),?_⟩
 ·rw[vc71]
  exact⟨h_tables,(oC h (fun _ h=>(oC h (fun _ h=>h) fun b_2 h=>⟨(jD (bnf b_2)),⟨(ov (bnf b_2)),⟨(ay h_tables c.1).1,⟨h_c.2.1,(oC h (fun _ h=>(oC h (fun b_4 h=>(oC h (fun _ h=>(dz (uef (unf (bet b_4))) h)) fun _ h=>h)) fun b_4 h=>(fJ (uet (unt (bef b_4))) ⟨(ay h_tables c.1).2.1,⟨h_c.2.1,h⟩⟩))) fun _ h=>h)⟩⟩⟩⟩)) fun _ h=>h)⟩
abbrev C156:Ctx:=cx [] 9 [] 400000 true
def T156:Inl:=xT C156 (fun _=>[]) (dJ f156) f156.results.toList
theorem inlOk156:yq P 156 T156:=Db C156 func156 kN
def c87:Con:=⟨[.dat (Ty.sl TVS)],fun args hp K=>g1 (pD (Ty.sl TVS)) (fun rows=>(Sm (Ty.sl TVS) rows)/\(LD rows fun r=>K (.clp 0 (r.length:Int)) [(0,.arr .dp TVS r)])) args hp,.bor,false⟩
abbrev C87:Ctx:=cx [(134,c134)] 20 [(156,T156)] 0 true
def ann87:=an [[kp 1],[kp 9],[kp 456],[kp 968],[kp 488],[kp 456],[kp 456],[kp 4]] [[kp 8]]
abbrev s87_0 (rows:(List LV)) (i0:Int) (v0:(List LV)):St:=⟨[(3,.own 3 none),(6,.data (Ty.sl TVS) rows),(7,dI (rows.length:Int)),(8,dI i0)],[(3,.arr .dp TVS v0)]⟩
abbrev LP87_0 (rows:(List LV)) (m:Nat) (st_:St) (K:KX):Prop:=True/\bI (t:=TVS) (s87_0 rows) rows (F.gL rows) (fun v0:(List LV)=>True) (aR (fun v0:(List LV)=>True->K (.exit 0) (⟨[(3,.own 3 none)],[(3,.arr .dp TVS v0)]⟩:St)) (fun _=>False)) m st_
def L87 (rows:(List LV)):aW:=lp1 0 (LP87_0 rows)
theorem vc87 (rows:(List LV)) (K:KA):vcT C87 (L87 rows) ann87 f87 [.data (Ty.sl TVS) rows] [] .raw K =
 (∃m_,True/\bI (t:=TVS) (s87_0 rows) rows (F.gL rows) (fun v0:(List LV)=>True) (aR (fun v0:(List LV)=>True->(0<=Z0)/\(Z0<=(v0.length:Int))/\((v0.length:Int)<=(v0.length:Int))/\((v0.length:Int)=(v0.length:Int))/\(Z0=0)/\K (.clp 0 ((v0.take (v0.length:Int).toNat).length:Int)) [(0,.arr .dp TVS (v0.take (v0.length:Int).toNat))]) (fun _=>False)) m_ (s87_0 rows Z0 [])):=by kernel_rfl
theorem lvc87_0 (rows:(List LV))  (i0:Int) (v0:(List LV)) (m:Nat) (K:KX):lvT C87 (L87 rows) ann87 f87 0 0 (s87_0 rows i0 v0) m K =
 (cond (decide (i0<(rows.length:Int))) ((0<=i0)/\(i0<(rows.length:Int))/\(Sm TVS (nth (t:=TVS) rows i0))/\(LD (nth (t:=TVS) rows i0) fun r1=>((v0.length+[(aB r1 (some (Z0,(r1.length:Int))))].length) * 24<=lim)/\(nxT (LP87_0 rows) m K (s87_0 rows (wrap64 (i0+Z1)) (v0++[(aB r1 (some (Z0,(r1.length:Int))))]))))) (K (.exit 0) (⟨[(3,.own 3 none)],[(3,.arr .dp TVS v0)]⟩:St))):=by kernel_rfl
theorem con87_ok:aN P 87 c87:=aP C87 func87 (kC con134_ok (kI inlOk156 kN)) fun args hp K h0=>by
 obtain⟨rows,rfl,rfl,h_rows,hK⟩:=g1e h0
 have h:ok (F.oc rows) (fun r=>K (.clp 0 (r.length:Int)) [(0,.arr .dp TVS r)]):=ak (F.we rows h_rows) (hK _ rfl)
 refine⟨rfl,ann87,(L87 rows),.raw,(aI (i0:=0) (by kernel_rfl) ?_),?_⟩
 ·rintro _ _ K ⟨hc0,i0,v0,rfl,hl0,rfl,hv0,h⟩
  exact cast (lvc87_0 _ _ _ _ _).symm (br (t:=TVS) hl0 h (fun ht0 h=>⟨hl0,⟨ht0,⟨(ay h_rows i0),(oL h fun _ _ h=>(oG h fun _ h=>(aT (t:=TVS) (fun _ hm=>⟨hc0,hm⟩) _ rfl hl0 ht0 (aM h_rows) trivial h)))⟩⟩⟩) fun h=>(h trivial))
 ·rw[vc87]
  exact(aZ (t:=TVS) (fun m hm=>⟨trivial,hm⟩) _ rfl trivial (aF h (fun v0 h hv0=>⟨(Int.natCast_nonneg 0),⟨(Int.natCast_nonneg _),⟨(Int.le_refl _),⟨rfl,⟨rfl,h⟩⟩⟩⟩⟩) (fun _ h=>h.elim)))
abbrev C221:Ctx:=cx [] 9 [] 400000 true
def T221:Inl:=xT C221 (fun _=>[]) (dJ f221) f221.results.toList
theorem inlOk221:yq P 221 T221:=Db C221 func221 kN
def c181:Con:=⟨[.dat TCS],fun args hp K=>g1 (pD TCS) (fun xs=>(Sm TCS xs)/\(LD xs fun r=>K (.clp 0 (r.length:Int)) [(0,.arr .sh ai r)])) args hp,.bor,false⟩
abbrev C181:Ctx:=cx [] 9 [(221,T221)] 0 true
def ann181:=an [[kp 1],[kp 33],[.clip 2,kp 4],[kp 4]] []
theorem vc181 (xs:LC) (K:KA):vcT C181 aq ann181 f181 [.data TCS xs] [] .raw K =
 (cond (decide ((xs.length:Int)=Z0)) (K (.clp 0 (([]:List ai.D).length:Int)) [(0,.arr .sh ai ([]:List ai.D))]) ((xs.length * 16<=lim)/\(0<=Z0)/\(Z0<=(xs.length:Int))/\((xs.length:Int)<=(xs.length:Int))/\((xs.length:Int)=(xs.length:Int))/\(Z0=0)/\K (.clp 0 ((xs.take (xs.length:Int).toNat).length:Int)) [(0,.arr .sh ai (xs.take (xs.length:Int).toNat))])):=by kernel_rfl
theorem con181_ok:aN P 181 c181:=aP C181 func181 (kI inlOk221 kN) fun args hp K h0=>by
 obtain⟨xs,rfl,rfl,h_xs,hK⟩:=g1e h0
 have h:ok (F.sN xs) (fun r=>K (.clp 0 (r.length:Int)) [(0,.arr .sh ai r)]):=ak (F.wo xs h_xs) (hK _ rfl)
 refine⟨rfl,ann181,aq,.raw,(az (by kernel_rfl)),?_⟩
 ·rw[vc181]
  exact(oC h (fun _ h=>h) fun _ h=>⟨(DN h_xs rfl),⟨(Int.natCast_nonneg 0),⟨(Int.natCast_nonneg _),⟨(Int.le_refl _),⟨rfl,⟨rfl,h⟩⟩⟩⟩⟩⟩)
abbrev C116:Ctx:=cx [(87,c87),(181,c181)] 10 [] 200000 true
def T116:Inl:=xT C116 (fun _=>[]) (dJ f116) f116.results.toList
theorem inlOk116:yq P 116 T116:=Db C116 func116 (kC con87_ok (kC con181_ok kN))
abbrev C117:Ctx:=cx [] 9 [] 400000 true
def T117:Inl:=xT C117 (fun _=>[]) (dJ f117) f117.results.toList
theorem inlOk117:yq P 117 T117:=Db C117 func117 kN
def c54:Con:=⟨[.dat TTb],fun args hp K=>g1 (pD TTb) (fun tables=>(Sm TTb tables)/\(LD tables fun r=>K (.own 0 none) [(0,.arr .dp TTable r)])) args hp,.bor,false⟩
abbrev C54:Ctx:=cx [] 20 [(116,T116),(117,T117)] 0 true
def ann54:=an [[kp 1],[kp 9],[kp 456],[kp 968],[.fixRow 5 TTable,kp 488],[kp 456],[kp 456],[kp 4]] [[kp 8]]
abbrev s54_0 (tables:LTb) (i0:Int) (v0:LTb):St:=⟨[(3,.own 3 none),(6,.data TTb tables),(7,dI (tables.length:Int)),(8,dI i0)],[(3,.arr .dp TTable v0)]⟩
abbrev LP54_0 (tables:LTb) (m:Nat) (st_:St) (K:KX):Prop:=True/\bI (t:=TTable) (s54_0 tables) tables (F.fA tables) (fun v0:LTb=>True) (aR (fun v0:LTb=>True->K (.exit 0) (⟨[(3,.own 3 none)],[(3,.arr .dp TTable v0)]⟩:St)) (fun _=>False)) m st_
def L54 (tables:LTb):aW:=lp1 0 (LP54_0 tables)
theorem vc54 (tables:LTb) (K:KA):vcT C54 (L54 tables) ann54 f54 [.data TTb tables] [] .own K =
 (∃m_,True/\bI (t:=TTable) (s54_0 tables) tables (F.fA tables) (fun v0:LTb=>True) (aR (fun v0:LTb=>True->(0<=Z0)/\(Z0<=(v0.length:Int))/\((v0.length:Int)<=(v0.length:Int))/\((v0.length:Int)=(v0.length:Int))/\(Z0=0)/\(((v0.take (v0.length:Int).toNat).length:Int)=((v0.take (v0.length:Int).toNat).length:Int))/\K (.own 0 none) [(0,.arr .dp TTable (v0.take (v0.length:Int).toNat))]) (fun _=>False)) m_ (s54_0 tables Z0 [])):=by kernel_rfl
theorem lvc54_0 (tables:LTb)  (i0:Int) (v0:LTb) (m:Nat) (K:KX):lvT C54 (L54 tables) ann54 f54 0 0 (s54_0 tables i0 v0) m K =
 (cond (decide (i0<(tables.length:Int))) ((0<=i0)/\(i0<(tables.length:Int))/\(Sm TCS (nT tables i0).1)/\(LD (nT tables i0).1 fun r1=>(Sm (Ty.sl TVS) (nT tables i0).2.1)/\(LD (nT tables i0).2.1 fun r2=>((v0.length+[((aB r1 (some (Z0,(r1.length:Int)))),((aB r2 (some (Z0,(r2.length:Int)))),()))].length) * 48<=lim)/\(nxT (LP54_0 tables) m K (s54_0 tables (wrap64 (i0+Z1)) (v0++[((aB r1 (some (Z0,(r1.length:Int)))),((aB r2 (some (Z0,(r2.length:Int)))),()))])))))) (K (.exit 0) (⟨[(3,.own 3 none)],[(3,.arr .dp TTable v0)]⟩:St))):=by kernel_rfl
theorem con54_ok:aN P 54 c54:=aP C54 func54 (kI inlOk116 (kI inlOk117 kN)) fun args hp K h0=>by
 obtain⟨tables,rfl,rfl,h_tables,hK⟩:=g1e h0
 have h:ok (F.kX tables) (fun r=>K (.own 0 none) [(0,.arr .dp TTable r)]):=ak (F.tI tables h_tables) (hK _ rfl)
 refine⟨rfl,ann54,(L54 tables),.own,(aI (i0:=0) (by kernel_rfl) ?_),?_⟩
 ·rintro _ _ K ⟨hc0,i0,v0,rfl,hl0,rfl,hv0,h⟩
  exact cast (lvc54_0 _ _ _ _ _).symm (br (t:=TTable) hl0 h (fun ht0 h=>⟨hl0,⟨ht0,⟨(ay h_tables i0).1,(oL h fun _ _ h=>⟨(ay h_tables i0).2.1,(oL h fun _ _ h=>(oG h fun _ h=>(aT (t:=TTable) (fun _ hm=>⟨hc0,hm⟩) _ rfl hl0 ht0 (aM h_tables) trivial h)))⟩)⟩⟩⟩) fun h=>(h trivial))
 ·rw[vc54]
  exact(aZ (t:=TTable) (fun m hm=>⟨trivial,hm⟩) _ rfl trivial (aF h (fun v0 h hv0=>⟨(Int.natCast_nonneg 0),⟨(Int.natCast_nonneg _),⟨(Int.le_refl _),⟨rfl,⟨rfl,⟨rfl,h⟩⟩⟩⟩⟩⟩) (fun _ h=>h.elim)))
def T88:Inl:=IC
theorem inlOk88:yq P 88 T88:=⟨Go.Proofs.enters_of func88 (by kernel_rfl) rfl,Ix Go.Proofs.Ex⟩
def c72:Con:=⟨[.dat TTb,.dat TChange],fun args hp K=>g2 (pD TTb) (pD TChange) (fun tables c=>(Sm TTb tables)/\(Sm TChange c)/\(M.bf tables c)/\(LD (M.bu tables c) fun r=>K (.own 0 none) [(0,.arr .dp TTable r)])) args hp,.bor,false⟩
abbrev C72:Ctx:=cx [(54,c54),(87,c87),(133,c133),(134,c134)] 55 [(88,T88)] 0 true
def ann72:=an [[.fixRow 3 TChange,kp 9],[kp 40],[kp 104],[kp 32872],[kp 96],[kp 224],[kp 96],[kp 32],[kp 16]] []
theorem vc72 (tables:LTb) (c:TChange.D) (K:KA):vcT C72 aq ann72 f72 [.data TTb tables,.data TChange c] [] .raw K =
 ((Sm TTb tables)/\(LD tables fun r1=>(0<=c.1)/\(c.1<(r1.length:Int))/\cond c.2.2.1 ((Sm TVS c.2.1)/\(LD c.2.1 fun r2=>(((nT r1 c.1).2.1.length+[(aB r2 (some (Z0,(r2.length:Int))))].length) * 24<=lim)/\(c.1=c.1)/\(let y1:LTb:=((r1.set c.1.toNat ((nT r1 c.1).1,([],()))).set c.1.toNat ((nT (r1.set c.1.toNat ((nT r1 c.1).1,([],()))) c.1).1,(((nT r1 c.1).2.1++[(aB r2 (some (Z0,(r2.length:Int))))]),())));(Sm (Ty.sl TVS) (nT y1 c.1).2.1)/\(LD (nT y1 c.1).2.1 fun r3=>(let y2:LTb:=(y1.set c.1.toNat ((nT y1 c.1).1,((aB r3 (some (Z0,(r3.length:Int)))),())));K (.own 0 none) [(0,.arr .dp TTable y2)]))))) ((Sm (Ty.sl TVS) (nT r1 c.1).2.1)/\(Sm TVS c.2.1)/\(0<=(M.rowAt (nT r1 c.1).2.1 c.2.1))/\((M.rowAt (nT r1 c.1).2.1 c.2.1)<=wrap64 ((M.rowAt (nT r1 c.1).2.1 c.2.1)+Z1))/\(wrap64 ((M.rowAt (nT r1 c.1).2.1 c.2.1)+Z1)<=((nT r1 c.1).2.1.length:Int))/\(c.1=c.1)/\(let y3:LTb:=((r1.set c.1.toNat ((nT r1 c.1).1,([],()))).set c.1.toNat ((nT (r1.set c.1.toNat ((nT r1 c.1).1,([],()))) c.1).1,(((nT r1 c.1).2.1.take (M.rowAt (nT r1 c.1).2.1 c.2.1).toNat++(nT r1 c.1).2.1.drop (wrap64 ((M.rowAt (nT r1 c.1).2.1 c.2.1)+Z1)).toNat),())));(Sm (Ty.sl TVS) (nT y3 c.1).2.1)/\(LD (nT y3 c.1).2.1 fun r3=>(let y2:LTb:=(y3.set c.1.toNat ((nT y3 c.1).1,((aB r3 (some (Z0,(r3.length:Int)))),())));K (.own 0 none) [(0,.arr .dp TTable y2)])))))):=by kernel_rfl
theorem con72_ok:aN P 72 c72:=aP C72 func72 (kC con54_ok (kC con87_ok (kC con133_ok (kC con134_ok (kI inlOk88 kN))))) fun args hp K h0=>by
 obtain⟨tables,c,rfl,rfl,h_tables,h_c,p0,hK⟩:=g2e h0
 have h:ok (F.jC tables c) (fun r=>K (.own 0 none) [(0,.arr .dp TTable r)]):=ak (F.sF tables c h_tables h_c p0) (hK _ rfl)
 refine⟨rfl,ann72,aq,.raw,(az (by kernel_rfl)),?_⟩
 ·rw[vc72]
  exact⟨h_tables,(oL h fun _ _ h=>(oG h fun _ h=>(oG h fun _ h=>(oC h (fun _ h=>⟨h_c.2.1,(oL h fun _ _ h=>(oG h fun _ h=>⟨rfl,(have h:=fI h _ rfl;(oG h fun _ h=>(oL h fun _ _ h=>(have h:=fI h _ rfl;h))))⟩))⟩) fun _ h=>(oG h fun _ h=>⟨h_c.2.1,(oG h fun _ h=>(oG h fun _ h=>(oG h fun _ h=>⟨rfl,(have h:=fI h _ rfl;(oG h fun _ h=>(oL h fun _ _ h=>(have h:=fI h _ rfl;h))))⟩)))⟩)))))⟩
def c27:Con:=⟨[.dat TTb,.dat TChange],fun args hp K=>g2 (pD TTb) (pD TChange) (fun tables c=>(Sm TTb tables)/\(Sm TChange c)/\(LD (cond (M.bf tables c) (M.bu tables c) [],M.bf tables c) fun r=>K (.tup [.own 0 none,dB r.2]) [(0,.arr .dp TTable r.1)])) args hp,.bor,false⟩
abbrev C27:Ctx:=cx [(71,c71),(72,c72)] 13 [] 0 true
def ann27:=an [[.fixRow 3 TChange,kp 9],[kp 521],[kp 48],[kp 48]] []
theorem vc27 (tables:LTb) (c:TChange.D) (K:KA):vcT C27 aq ann27 f27 [.data TTb tables,.data TChange c] [] .raw K =
 ((Sm TTb tables)/\(Sm TChange c)/\cond (!(M.bf tables c)) (K (.tup [.own 0 none,dB false]) [(0,.arr .dp TTable [])]) ((Sm TTb tables)/\(Sm TChange c)/\(M.bf tables c)/\(LD (M.bu tables c) fun r1=>K (.tup [.own 0 none,dB true]) [(0,.arr .dp TTable r1)]))):=by kernel_rfl
theorem con27_ok:aN P 27 c27:=aP C27 func27 (kC con71_ok (kC con72_ok kN)) fun args hp K h0=>by
 obtain⟨tables,c,rfl,rfl,h_tables,h_c,hK⟩:=g2e h0
 have h:ok (F.jz tables c) (fun r=>K (.tup [.own 0 none,dB r.2]) [(0,.arr .dp TTable r.1)]):=ak (F.sD tables c h_tables h_c) (hK _ rfl)
 refine⟨rfl,ann27,aq,.raw,(az (by kernel_rfl)),?_⟩
 ·rw[vc27]
  exact⟨h_tables,⟨h_c,(oC h (fun _ h=>h) fun _ h=>⟨h_tables,⟨h_c,(oG h fun _ h=>(oL h fun _ _ h=>h))⟩⟩)⟩⟩
def c165:Con:=⟨[.dat ax],fun args hp K=>g1 (pD ax) (fun p=>(Sm ax p)/\K (dI (M.takes p)) []) args hp,.plain,false⟩
abbrev C165:Ctx:=cx [] 13 [] 0 false
def ann165:=an [[.fixRow 1 ax,kp 2],[kp 16],[kp 48],[kp 48],[kp 48],[kp 48],[kp 4],[kp 1040],[kp 1024],[kp 4],[kp 4]] []
abbrev S165_0 (p:ax.D) (K:KA):Prop:=cond (decide (p.1=(7:Int))) (cond (decide (p.1=(7:Int))) (K (dI Z1) []) (K (dI Z0) [])) (cond (decide (p.1=(8:Int))) (K (dI Z1) []) (K (dI Z0) []))
theorem vc165 (p:ax.D) (K:KA):vcT C165 aq ann165 f165 [.data ax p] [] (.dat au) K =
 (cond (decide (p.1=Z3)) (cond (decide (p.1=Z3)) (K (dI Z2) []) (S165_0 p K)) (cond (decide (p.1=Z4)) (cond (decide (p.1=Z4)) (K (dI Z2) []) (S165_0 p K)) (cond (decide (p.1=Z5)) (cond (decide (p.1=Z5)) (K (dI Z2) []) (S165_0 p K)) (cond (decide (p.1=Z6)) (K (dI Z2) []) (S165_0 p K))))):=by kernel_rfl
theorem con165_ok:aN P 165 c165:=aP C165 func165 kN fun args hp K h0=>by
 obtain⟨p,rfl,rfl,h_p,hK⟩:=g1e h0
 have h:ok (F.kS p) (fun r=>K (dI r) []):=ak (F.sY p h_p) hK
 refine⟨rfl,ann165,aq,(.dat au),(az (by kernel_rfl)),?_⟩
 ·rw[vc165]
  exact(oC h (fun b_1 h=>(fJ b_1 h)) fun _ h=>(oC h (fun b_6 h=>(fJ b_6 h)) fun _ h=>(oC h (fun b_8 h=>(fJ b_8 h)) fun _ h=>(oC h (fun _ h=>h) fun _ h=>(oC h (fun b_11 h=>(fJ b_11 h)) fun _ h=>(oC h (fun _ h=>h) fun _ h=>h))))))
def c170:Con:=⟨[.dat au],fun args hp K=>g1 (pD au) (fun truth=>(LD (M.valueOf truth) fun r=>K (.data aa r) [])) args hp,.plain,false⟩
abbrev C170:Ctx:=cx [(132,c132)] 9 [] 0 false
def ann170:=an [[kp 5],[kp 37],[kp 4],[kp 4]] []
theorem vc170 (truth:Int) (K:KA):vcT C170 aq ann170 f170 [dI truth] [] (.dat aa) K =
 (cond (!(M.inR truth Z0 Z1)) (K (.data aa (Z0,(Z0,((⟨#[]⟩:ByteArray),())))) []) (K (.data aa (Z3,(truth,((⟨#[]⟩:ByteArray),())))) [])):=by kernel_rfl
theorem con170_ok:aN P 170 c170:=aP C170 func170 (kC con132_ok kN) fun args hp K h0=>by
 obtain⟨truth,rfl,rfl,hK⟩:=g1e h0
 have h:ok (F.qe truth) (fun r=>K (.data aa r) []):=ak (F.xP truth) (hK _ rfl)
 refine⟨rfl,ann170,aq,(.dat aa),(az (by kernel_rfl)),?_⟩
 ·rw[vc170]
  exact(oC h (fun _ h=>h) fun _ h=>h)
def c216:Con:=⟨[.dat (Ty.sl au)],fun args hp K=>g1 (pD (Ty.sl au)) (fun vals=>(Sm (Ty.sl au) vals)/\K (dI (M.orI vals)) []) args hp,.plain,false⟩
abbrev C216:Ctx:=cx [] 18 [] 0 false
def ann216:=an [[kp 1],[kp 9],[kp 456],[kp 968],[kp 488],[kp 16872],[kp 4],[kp 456],[kp 4]] [[kp 8]]
abbrev s216_0 (vals:LI) (i0:Int) (v0:Unit):St:=⟨[(3,dI Z0),(6,.data (Ty.sl au) vals),(7,dI (vals.length:Int)),(8,dI i0)],[]⟩
abbrev LP216_0 (vals:LI) (m:Nat) (st_:St) (K:KX):Prop:=True/\bI (t:=au) (s216_0 vals) vals (F.hY vals) (fun v0:Unit=>True) (aR (fun v0:Unit=>True->K (.exit 0) (⟨[(3,dI Z0)],[]⟩:St)) (fun q0:Int=>K .ret (⟨[(2,dI q0)],[]⟩:St))) m st_
def L216 (vals:LI):aW:=lp1 0 (LP216_0 vals)
theorem vc216 (vals:LI) (K:KA):vcT C216 (L216 vals) ann216 f216 [.data (Ty.sl au) vals] [] (.dat au) K =
 (∃m_,True/\bI (t:=au) (s216_0 vals) vals (F.hY vals) (fun v0:Unit=>True) (aR (fun v0:Unit=>True->K (dI Z0) []) (fun q0:Int=>K (dI q0) [])) m_ (s216_0 vals Z0 ())):=by kernel_rfl
theorem lvc216_0 (vals:LI)  (i0:Int) (v0:Unit) (m:Nat) (K:KX):lvT C216 (L216 vals) ann216 f216 0 0 (s216_0 vals i0 v0) m K =
 (cond (decide (i0<(vals.length:Int))) ((0<=i0)/\(i0<(vals.length:Int))/\cond (!decide ((nI vals i0)=Z0)) (K .ret (⟨[(2,dI (nI vals i0))],[]⟩:St)) (nxT (LP216_0 vals) m K (s216_0 vals (wrap64 (i0+Z1)) ()))) (K (.exit 0) (⟨[(3,dI Z0)],[]⟩:St))):=by kernel_rfl
theorem con216_ok:aN P 216 c216:=aP C216 func216 kN fun args hp K h0=>by
 obtain⟨vals,rfl,rfl,h_vals,hK⟩:=g1e h0
 have h:ok (F.ta vals) (fun r=>K (dI r) []):=ak (F.AX vals h_vals) hK
 refine⟨rfl,ann216,(L216 vals),(.dat au),(aI (i0:=0) (by kernel_rfl) ?_),?_⟩
 ·rintro _ _ K ⟨hc0,i0,v0,rfl,hl0,rfl,hv0,h⟩
  exact cast (lvc216_0 _ _ _ _ _).symm (br (t:=au) hl0 h (fun ht0 h=>⟨hl0,⟨ht0,(oC h (fun _ h=>h) fun _ h=>(aT (t:=au) (fun _ hm=>⟨hc0,hm⟩) _ rfl hl0 ht0 (aM h_vals) trivial h))⟩⟩) fun h=>(h trivial))
 ·rw[vc216]
  exact(aZ (t:=au) (fun m hm=>⟨trivial,hm⟩) _ rfl trivial (aF h (fun v0 h hv0=>h) (fun q0 h=>h)))
def c247:Con:=⟨[.dat au],fun args hp K=>g1 (pD au) (fun x=>K (dB false) []) args hp,.plain,false⟩
abbrev C247:Ctx:=cx [] 6 [] 0 false
def ann247:=an [[kp 1],[kp 4]] []
theorem vc247 (x:Int) (K:KA):vcT C247 aq ann247 f247 [dI x] [] (.dat Ty.bool) K =
 (K (dB (!decide (x=x))) []):=by kernel_rfl
theorem con247_ok:aN P 247 c247:=aP C247 func247 kN fun args hp K h0=>by
 obtain⟨x,rfl,rfl,hK⟩:=g1e h0
 have h:ok (F.cmp_isNaN_int x) (fun r=>K (dB r) []):=ak (F.vI x) hK
 refine⟨rfl,ann247,aq,(.dat Ty.bool),(az (by kernel_rfl)),?_⟩
 ·rw[vc247]
  exact h
def c219:Con:=⟨[.dat au,.dat au],fun args hp K=>g2 (pD au) (pD au) (fun x y=>K (dI (M.vE x y)) []) args hp,.plain,false⟩
abbrev C219:Ctx:=cx [(247,c247)] 20 [] 0 false
def ann219:=an [[kp 3],[kp 35],[kp 99],[kp 2115],[kp 4096],[kp 16],[kp 16],[kp 8195],[kp 16],[kp 65539],[kp 16],[kp 524288],[kp 16],[kp 16]] []
theorem vc219 (x:Int) (y:Int) (K:KA):vcT C219 aq ann219 f219 [dI x,dI y] [] (.dat au) K =
 (cond false (cond false (K (dI Z0) []) (K (dI (-1:Int)) [])) (cond false (K (dI Z1) []) (cond (decide (x<y)) (K (dI (-1:Int)) []) (cond (decide (y<x)) (K (dI Z1) []) (K (dI Z0) []))))):=by kernel_rfl
theorem con219_ok:aN P 219 c219:=aP C219 func219 (kC con247_ok kN) fun args hp K h0=>by
 obtain⟨x,y,rfl,rfl,hK⟩:=g2e h0
 have h:ok (F.kQ x y) (fun r=>K (dI r) []):=ak (F.tv x y) hK
 refine⟨rfl,ann219,aq,(.dat au),(az (by kernel_rfl)),?_⟩
 ·rw[vc219]
  exact(oC h (fun b_1 h=>(fJ b_1 h)) fun b_1 h=>(dz b_1 (oC h (fun _ h=>h) fun _ h=>(oC h (fun _ h=>h) fun _ h=>h))))
def c256:Con:=⟨[.dat Ty.str],fun args hp K=>g1 (pD Ty.str) (fun x=>(Sm Ty.str x)/\K (dB false) []) args hp,.plain,false⟩
abbrev C256:Ctx:=cx [] 6 [] 0 false
def ann256:=an [[kp 1],[kp 4]] []
theorem vc256 (x:ByteArray) (K:KA):vcT C256 aq ann256 f256 [.data Ty.str x] [] (.dat Ty.bool) K =
 (K (dB (!decide (x=x))) []):=by kernel_rfl
theorem con256_ok:aN P 256 c256:=aP C256 func256 kN fun args hp K h0=>by
 obtain⟨x,rfl,rfl,h_x,hK⟩:=g1e h0
 have h:ok (F.cmp_isNaN_string x) (fun r=>K (dB r) []):=ak (F.sH x h_x) hK
 refine⟨rfl,ann256,aq,(.dat Ty.bool),(az (by kernel_rfl)),?_⟩
 ·rw[vc256]
  exact h
def c246:Con:=⟨[.dat Ty.str,.dat Ty.str],fun args hp K=>g2 (pD Ty.str) (pD Ty.str) (fun x y=>(Sm Ty.str x)/\(Sm Ty.str y)/\K (dI (M.vG x y)) []) args hp,.plain,false⟩
abbrev C246:Ctx:=cx [(256,c256)] 20 [] 0 false
def ann246:=an [[kp 3],[kp 35],[kp 99],[kp 2115],[kp 4096],[kp 16],[kp 16],[kp 8195],[kp 16],[kp 65539],[kp 16],[kp 524288],[kp 16],[kp 16]] []
theorem vc246 (x:ByteArray) (y:ByteArray) (K:KA):vcT C246 aq ann246 f246 [.data Ty.str x,.data Ty.str y] [] (.dat au) K =
 ((Sm Ty.str x)/\(Sm Ty.str y)/\cond false (cond false (K (dI Z0) []) (K (dI (-1:Int)) [])) (cond false (K (dI Z1) []) (cond (Op.bytesLess x.toList y.toList) (K (dI (-1:Int)) []) (cond (!(Op.bytesLess x.toList y.toList||decide (x=y))) (K (dI Z1) []) (K (dI Z0) []))))):=by kernel_rfl
theorem con246_ok:aN P 246 c246:=aP C246 func246 (kC con256_ok kN) fun args hp K h0=>by
 obtain⟨x,y,rfl,rfl,h_x,h_y,hK⟩:=g2e h0
 have h:ok (F.iN x y) (fun r=>K (dI r) []):=ak (F.qx x y h_x h_y) hK
 refine⟨rfl,ann246,aq,(.dat au),(az (by kernel_rfl)),?_⟩
 ·rw[vc246]
  exact⟨h_x,⟨h_y,(oC h (fun b_1 h=>(fJ b_1 h)) fun b_1 h=>(dz b_1 (oC h (fun _ h=>h) fun _ h=>(oC h (fun _ h=>h) fun _ h=>h))))⟩⟩
def c218:Con:=⟨[.dat aa,.dat aa],fun args hp K=>g2 (pD aa) (pD aa) (fun v w=>(Sm aa v)/\(Sm aa w)/\K (dI (M.order v w)) []) args hp,.plain,false⟩
abbrev C218:Ctx:=cx [(216,c216),(219,c219),(246,c246)] 22 [] 0 false
def ann218:=an [[.fixRow 2 aa,.fixRow 3 aa,kp 12],[kp 16]] []
theorem vc218 (v:aa.D) (w:aa.D) (K:KA):vcT C218 aq ann218 f218 [.data aa v,.data aa w] [] (.dat au) K =
 ((Sm Ty.str v.2.2.1)/\(Sm Ty.str w.2.2.1)/\(Sm (Ty.sl au) [(M.vE v.1 w.1),(M.vE v.2.1 w.2.1),(M.vG v.2.2.1 w.2.2.1)])/\K (dI (M.orI [(M.vE v.1 w.1),(M.vE v.2.1 w.2.1),(M.vG v.2.2.1 w.2.2.1)])) []):=by kernel_rfl
theorem con218_ok:aN P 218 c218:=aP C218 func218 (kC con216_ok (kC con219_ok (kC con246_ok kN))) fun args hp K h0=>by
 obtain⟨v,w,rfl,rfl,h_v,h_w,hK⟩:=g2e h0
 have h:ok (F.jJ v w) (fun r=>K (dI r) []):=ak (F.sy v w h_v h_w) hK
 refine⟨rfl,ann218,aq,(.dat au),(az (by kernel_rfl)),?_⟩
 ·rw[vc218]
  exact⟨h_v.2.2.1,⟨h_w.2.2.1,(oG h fun _ h=>h)⟩⟩
def c243:Con:=⟨[.dat Ty.bool],fun args hp K=>g1 (pD Ty.bool) (fun b=>K (dI (M.bool b)) []) args hp,.plain,false⟩
abbrev C243:Ctx:=cx [] 4 [] 0 false
def ann243:=an [[kp 1],[kp 8],[kp 4],[kp 4]] []
theorem vc243 (b:Bool) (K:KA):vcT C243 aq ann243 f243 [dB b] [] (.dat au) K =
 (cond b (K (dI Z1) []) (K (dI Z0) [])):=by kernel_rfl
theorem con243_ok:aN P 243 c243:=aP C243 func243 kN fun args hp K h0=>by
 obtain⟨b,rfl,rfl,hK⟩:=g1e h0
 have h:ok (F.pS b) (fun r=>K (dI r) []):=ak (F.xL b) hK
 refine⟨rfl,ann243,aq,(.dat au),(az (by kernel_rfl)),?_⟩
 ·rw[vc243]
  exact(oC h (fun _ h=>h) fun _ h=>h)
def c238:Con:=⟨[.dat au,.dat aa,.dat aa],fun args hp K=>g3 (pD au) (pD aa) (pD aa) (fun kind a b=>(Sm aa a)/\(Sm aa b)/\K (dI (M.compare kind a b)) []) args hp,.plain,false⟩
abbrev C238:Ctx:=cx [(131,c131),(132,c132),(218,c218),(243,c243)] 71 [] 0 false
def ann238:=an [[.fixRow 4 aa,.fixRow 5 aa,kp 49],[kp 305],[kp 64],[kp 4194353],[kp 64],[kp 2147483697],[kp 64],[kp 129],[kp 64]] []
abbrev S238_0 (kind:Int) (a:aa.D) (b:aa.D) (K:KA):Prop:=cond ((decide (kind=Z4))==true) (K (dI (M.bool (decide ((M.order a b)<=Z0)))) []) (K (dI (M.bool false)) [])
abbrev S238_1 (kind:Int) (a:aa.D) (b:aa.D) (K:KA):Prop:=cond ((decide (kind=Z3))==true) (cond ((decide ((M.order a b)<Z0))==false) (S238_0 kind a b K) (K (dI (M.bool true)) [])) (S238_0 kind a b K)
abbrev S238_2 (kind:Int) (a:aa.D) (b:aa.D) (K:KA):Prop:=cond ((decide (kind=Z2))==true) (cond ((!decide ((M.order a b)=Z0))==false) (S238_1 kind a b K) (K (dI (M.bool true)) [])) (S238_1 kind a b K)
theorem vc238 (kind:Int) (a:aa.D) (b:aa.D) (K:KA):vcT C238 aq ann238 f238 [dI kind,.data aa a,.data aa b] [] (.dat au) K =
 (cond ((!(M.inR kind Z1 Z4))==false) ((Sm aa a)/\cond ((!(M.aO a))==false) ((Sm aa b)/\cond (!(M.aO b)) (K (dI (-1:Int)) []) (cond ((decide (a.1=Z0))==false) (cond (decide (b.1=Z0)) (K (dI Z2) []) (cond (!decide (a.1=b.1)) (K (dI (-1:Int)) []) ((Sm aa a)/\(Sm aa b)/\cond ((decide (kind=Z1))==true) (cond ((decide ((M.order a b)=Z0))==false) (S238_2 kind a b K) (K (dI (M.bool true)) [])) (S238_2 kind a b K)))) (K (dI Z2) []))) (K (dI (-1:Int)) [])) (K (dI (-1:Int)) [])):=by kernel_rfl
theorem con238_ok:aN P 238 c238:=aP C238 func238 (kC con131_ok (kC con132_ok (kC con218_ok (kC con243_ok kN)))) fun args hp K h0=>by
 obtain⟨kind,a,b,rfl,rfl,h_a,h_b,hK⟩:=g3e h0
 have h:ok (F.qa kind a b) (fun r=>K (dI r) []):=ak (F.xH kind a b h_a h_b) hK
 refine⟨rfl,ann238,aq,(.dat au),(az (by kernel_rfl)),?_⟩
 ·rw[vc238]
  exact(oC h (fun _ h=>⟨h_a,(oC h (fun _ h=>⟨h_b,(oC h (fun _ h=>h) fun _ h=>(oC h (fun _ h=>(oC h (fun _ h=>h) fun _ h=>(oC h (fun _ h=>h) fun _ h=>⟨h_a,⟨h_b,(oC h (fun b_7 h=>(oC h (fun _ h=>(dz (uef (pZ (bet b_7) (by decide))) (dz (uef (pZ (bet b_7) (by decide))) (dz (uef (pZ (bet b_7) (by decide))) h)))) fun _ h=>h)) fun _ h=>(oC h (fun b_19 h=>(oC h (fun _ h=>(dz (uef (pZ (bet b_19) (by decide))) (dz (uef (pZ (bet b_19) (by decide))) h))) fun _ h=>h)) fun _ h=>(oC h (fun b_25 h=>(oC h (fun _ h=>(dz (uef (pZ (bet b_25) (by decide))) h)) fun _ h=>h)) fun _ h=>(oC h (fun _ h=>h) fun _ h=>h))))⟩⟩))) fun _ h=>h))⟩) fun _ h=>h)⟩) fun _ h=>h)
def c260:Con:=⟨[.dat au],fun args hp K=>g1 (pD au) (fun n=>K (dB (M.inR n 0 2)) []) args hp,.plain,false⟩
abbrev C260:Ctx:=cx [(132,c132)] 5 [] 0 false
def ann260:=an [[kp 1],[kp 4]] []
theorem vc260 (n:Int) (K:KA):vcT C260 aq ann260 f260 [dI n] [] (.dat Ty.bool) K =
 (K (dB (M.inR n Z0 Z2)) []):=by kernel_rfl
theorem con260_ok:aN P 260 c260:=aP C260 func260 (kC con132_ok kN) fun args hp K h0=>by
 obtain⟨n,rfl,rfl,hK⟩:=g1e h0
 have h:ok (F.vt n) (fun r=>K (dB r) []):=ak (F.xS n) hK
 refine⟨rfl,ann260,aq,(.dat Ty.bool),(az (by kernel_rfl)),?_⟩
 ·rw[vc260]
  exact h
def c254:Con:=⟨[.dat au,.dat au,.dat au],fun args hp K=>g3 (pD au) (pD au) (pD au) (fun a b alone=>(0<=alone/\alone<=1)/\K (dI (M.fold a b alone)) []) args hp,.plain,false⟩
abbrev C254:Ctx:=cx [(260,c260)] 35 [] 0 false
def ann254:=an [[kp 7],[kp 135],[kp 64],[kp 65543],[kp 64],[kp 67108868],[kp 64],[kp 64]] []
theorem vc254 (a:Int) (b:Int) (alone:Int) (K:KA):vcT C254 aq ann254 f254 [dI a,dI b,dI alone] [] (.dat au) K =
 (cond ((!(M.inR a 0 2))==false) (cond (!(M.inR b 0 2)) (K (dI (-1:Int)) []) (cond ((decide (a=alone))==false) (cond (decide (b=alone)) (K (dI alone) []) (cond ((decide (a=Z2))==false) (cond (decide (b=Z2)) (K (dI Z2) []) (K (dI (wrap64 (Z1-alone))) [])) (K (dI Z2) []))) (K (dI alone) []))) (K (dI (-1:Int)) [])):=by kernel_rfl
theorem con254_ok:aN P 254 c254:=aP C254 func254 (kC con260_ok kN) fun args hp K h0=>by
 obtain⟨a,b,alone,rfl,rfl,p0,hK⟩:=g3e h0
 have h:ok (F.wF a b alone) (fun r=>K (dI r) []):=ak (F.Cc a b alone p0) hK
 refine⟨rfl,ann254,aq,(.dat au),(az (by kernel_rfl)),?_⟩
 ·rw[vc254]
  exact(oC h (fun _ h=>(oC h (fun _ h=>h) fun _ h=>(oC h (fun _ h=>(oC h (fun _ h=>h) fun _ h=>(oC h (fun _ h=>(oC h (fun _ h=>h) fun _ h=>h)) fun _ h=>h))) fun _ h=>h))) fun _ h=>h)
def c239:Con:=⟨[.dat au,.dat au],fun args hp K=>g2 (pD au) (pD au) (fun a b=>K (dI (M.qP a b)) []) args hp,.plain,false⟩
abbrev C239:Ctx:=cx [(254,c254)] 8 [] 0 false
def ann239:=an [[kp 3],[kp 16]] []
theorem vc239 (a:Int) (b:Int) (K:KA):vcT C239 aq ann239 f239 [dI a,dI b] [] (.dat au) K =
 ((0<=Z0/\Z0<=1)/\K (dI (M.fold a b Z0)) []):=by kernel_rfl
theorem con239_ok:aN P 239 c239:=aP C239 func239 (kC con254_ok kN) fun args hp K h0=>by
 obtain⟨a,b,rfl,rfl,hK⟩:=g2e h0
 have h:ok (F.tw a b) (fun r=>K (dI r) []):=ak (F.AN a b) hK
 refine⟨rfl,ann239,aq,(.dat au),(az (by kernel_rfl)),?_⟩
 ·rw[vc239]
  exact(oG h fun _ h=>h)
def c240:Con:=⟨[.dat aa],fun args hp K=>g1 (pD aa) (fun v=>(Sm aa v)/\K (dI (M.bQ v)) []) args hp,.plain,false⟩
abbrev C240:Ctx:=cx [(131,c131)] 17 [] 0 false
def ann240:=an [[.fixRow 1 aa,kp 2],[kp 10],[kp 4],[kp 130],[kp 4],[kp 2050],[kp 4],[kp 4]] []
theorem vc240 (v:aa.D) (K:KA):vcT C240 aq ann240 f240 [.data aa v] [] (.dat au) K =
 ((Sm aa v)/\cond (!(M.aO v)) (K (dI (-1:Int)) []) (cond (decide (v.1=Z0)) (K (dI Z2) []) (cond (decide (v.1=Z3)) (K (dI v.2.1) []) (K (dI (-1:Int)) [])))):=by kernel_rfl
theorem con240_ok:aN P 240 c240:=aP C240 func240 (kC con131_ok kN) fun args hp K h0=>by
 obtain⟨v,rfl,rfl,h_v,hK⟩:=g1e h0
 have h:ok (F.qn v) (fun r=>K (dI r) []):=ak (F.xJ v h_v) hK
 refine⟨rfl,ann240,aq,(.dat au),(az (by kernel_rfl)),?_⟩
 ·rw[vc240]
  exact⟨h_v,(oC h (fun _ h=>h) fun _ h=>(oC h (fun _ h=>h) fun _ h=>(oC h (fun _ h=>h) fun _ h=>h)))⟩
def c241:Con:=⟨[.dat au,.dat au],fun args hp K=>g2 (pD au) (pD au) (fun a b=>K (dI (M.ze a b)) []) args hp,.plain,false⟩
abbrev C241:Ctx:=cx [(254,c254)] 8 [] 0 false
def ann241:=an [[kp 3],[kp 16]] []
theorem vc241 (a:Int) (b:Int) (K:KA):vcT C241 aq ann241 f241 [dI a,dI b] [] (.dat au) K =
 ((0<=Z1/\Z1<=1)/\K (dI (M.fold a b Z1)) []):=by kernel_rfl
theorem con241_ok:aN P 241 c241:=aP C241 func241 (kC con254_ok kN) fun args hp K h0=>by
 obtain⟨a,b,rfl,rfl,hK⟩:=g2e h0
 have h:ok (F.wM a b) (fun r=>K (dI r) []):=ak (F.Cx a b) hK
 refine⟨rfl,ann241,aq,(.dat au),(az (by kernel_rfl)),?_⟩
 ·rw[vc241]
  exact(oG h fun _ h=>h)
def c242:Con:=⟨[.dat au],fun args hp K=>g1 (pD au) (fun a=>K (dI (M.rG a)) []) args hp,.plain,false⟩
abbrev C242:Ctx:=cx [] 10 [] 0 false
def ann242:=an [[kp 1],[kp 8],[kp 24],[kp 4],[kp 72],[kp 4],[kp 256],[kp 4],[kp 4]] []
theorem vc242 (a:Int) (K:KA):vcT C242 aq ann242 f242 [dI a] [] (.dat au) K =
 (cond (decide (a=Z0)) (K (dI Z1) []) (cond (decide (a=Z1)) (K (dI Z0) []) (cond (decide (a=Z2)) (K (dI Z2) []) (K (dI (-1:Int)) [])))):=by kernel_rfl
theorem con242_ok:aN P 242 c242:=aP C242 func242 kN fun args hp K h0=>by
 obtain⟨a,rfl,rfl,hK⟩:=g1e h0
 have h:ok (F.tq a) (fun r=>K (dI r) []):=ak (F.AS a) hK
 refine⟨rfl,ann242,aq,(.dat au),(az (by kernel_rfl)),?_⟩
 ·rw[vc242]
  exact(oC h (fun _ h=>h) fun _ h=>(oC h (fun _ h=>h) fun _ h=>(oC h (fun _ h=>h) fun _ h=>h)))
def c212:Con:=⟨[.dat ax,.dat TVS,.lent aa],fun args hp K=>g3 (pD ax) (pD TVS) (pB aa) (fun p row inp=>(Sm ax p)/\(Sm TVS row)/\(Sm TVS inp)/\((inp.length:Int)=M.takes p)/\(M.ni p row.length)/\(1<=p.1/\p.1<=8)/\(LD (M.gQ p row inp) fun r=>K (.data aa r) [])) args hp,.plain,false⟩
abbrev C212:Ctx:=cx [(131,c131),(170,c170),(238,c238),(239,c239),(240,c240),(241,c241),(242,c242),(243,c243)] 103 [] 0 false
def ann212:=an [[.fixRow 3 ax,kp 78],[kp 590],[kp 1614],[kp 64],[kp 16974],[kp 64],[kp 2097740],[.fixRow 7 aa,kp 196],[.keep [6,7,49]],[kp 64],[kp 64],[kp 4503599627371084],[kp 64],[.keep [2,6,9,64]],[kp 64],[.keep [2,6,9,76]],[kp 64],[.keep [2,6,88]],[kp 64],[kp 64]] []
theorem vc212 (p:ax.D) (row:LV) (inp:LV) (K:KA):vcT C212 aq ann212 f212 [.data ax p,.data TVS row,.brw aa inp] [] (.dat aa) K =
 (cond (decide (p.1=Z1)) (K (.data aa p.2.2.1) []) (cond (decide (p.1=Z2)) ((0<=p.2.1)/\(p.2.1<(row.length:Int))/\K (.data aa (nV row p.2.1)) []) (cond (decide (p.1=Z3)) ((0<=Z0)/\(Z0<(inp.length:Int))/\(0<=Z1)/\(Z1<(inp.length:Int))/\(0<=Z0)/\(Z0<(inp.length:Int))/\cond ((decide ((nV inp Z0).1=Z0))==false) ((0<=Z1)/\(Z1<(inp.length:Int))/\cond ((decide ((nV inp Z1).1=Z0))==false) ((Sm aa (Z1,(wrap64 ((nV inp Z0).2.1+(nV inp Z1).2.1),((⟨#[]⟩:ByteArray),()))))/\cond (!(M.aO (Z1,(wrap64 ((nV inp Z0).2.1+(nV inp Z1).2.1),((⟨#[]⟩:ByteArray),()))))) (K (.data aa (Z0,(Z0,((⟨#[]⟩:ByteArray),())))) []) (K (.data aa (Z1,(wrap64 ((nV inp Z0).2.1+(nV inp Z1).2.1),((⟨#[]⟩:ByteArray),())))) [])) (K (.data aa (Z0,(Z0,((⟨#[]⟩:ByteArray),())))) [])) (K (.data aa (Z0,(Z0,((⟨#[]⟩:ByteArray),())))) [])) (cond (decide (p.1=Z4)) ((0<=Z0)/\(Z0<(inp.length:Int))/\(0<=Z1)/\(Z1<(inp.length:Int))/\(Sm aa (nV inp Z0))/\(Sm aa (nV inp Z1))/\(LD (M.valueOf (M.compare p.2.1 (nV inp Z0) (nV inp Z1))) fun r1=>K (.data aa r1) [])) (cond (decide (p.1=Z5)) ((0<=Z0)/\(Z0<(inp.length:Int))/\(0<=Z1)/\(Z1<(inp.length:Int))/\(Sm aa (nV inp Z0))/\(Sm aa (nV inp Z1))/\(LD (M.valueOf (M.qP (M.bQ (nV inp Z0)) (M.bQ (nV inp Z1)))) fun r2=>K (.data aa r2) [])) (cond (decide (p.1=Z6)) ((0<=Z0)/\(Z0<(inp.length:Int))/\(0<=Z1)/\(Z1<(inp.length:Int))/\(Sm aa (nV inp Z0))/\(Sm aa (nV inp Z1))/\(LD (M.valueOf (M.ze (M.bQ (nV inp Z0)) (M.bQ (nV inp Z1)))) fun r3=>K (.data aa r3) [])) (cond (decide (p.1=(7:Int))) ((0<=Z0)/\(Z0<(inp.length:Int))/\(Sm aa (nV inp Z0))/\(LD (M.valueOf (M.rG (M.bQ (nV inp Z0)))) fun r4=>K (.data aa r4) [])) ((0<=Z0)/\(Z0<(inp.length:Int))/\(LD (M.valueOf (M.bool (decide ((nV inp Z0).1=Z0)))) fun r5=>K (.data aa r5) []))))))))):=by kernel_rfl
theorem con212_ok:aN P 212 c212:=aP C212 func212 (kC con131_ok (kC con170_ok (kC con238_ok (kC con239_ok (kC con240_ok (kC con241_ok (kC con242_ok (kC con243_ok kN)))))))) fun args hp K h0=>by
 obtain⟨p,row,inp,rfl,rfl,h_p,h_row,h_inp,p0,p1,p2,hK⟩:=g3e h0
 have h:ok (F.kR p row inp) (fun r=>K (.data aa r) []):=ak (F.tY p row inp h_p h_row h_inp p0 p1 p2) (hK _ rfl)
 refine⟨rfl,ann212,aq,(.dat aa),(az (by kernel_rfl)),?_⟩
 ·rw[vc212]
  exact(oC h (fun _ h=>h) fun _ h=>(oC h (fun _ h=>(oG h fun _ h=>(oG h fun _ h=>h))) fun _ h=>(oC h (fun _ h=>⟨(Int.natCast_nonneg 0),(oG h fun g1 h=>⟨(Int.natCast_nonneg 1),(oG h fun g2 h=>⟨(Int.natCast_nonneg 0),⟨g1,(oC h (fun _ h=>⟨(Int.natCast_nonneg 1),⟨g2,(oC h (fun _ h=>⟨(show Sm aa _ from⟨trivial,(show Sm (Ty.pair au (Ty.pair Ty.str Ty.unit)) _ from⟨trivial,(show Sm (Ty.pair Ty.str Ty.unit) _ from⟨(Nat.le_of_ble_eq_true rfl),trivial⟩)⟩)⟩),(oC h (fun _ h=>h) fun _ h=>h)⟩) fun _ h=>h)⟩⟩) fun _ h=>h)⟩⟩)⟩)⟩) fun _ h=>(oC h (fun _ h=>⟨(Int.natCast_nonneg 0),(oG h fun _ h=>⟨(Int.natCast_nonneg 1),(oG h fun _ h=>⟨(ay h_inp Z0),⟨(ay h_inp Z1),(oL h fun _ _ h=>h)⟩⟩)⟩)⟩) fun _ h=>(oC h (fun _ h=>⟨(Int.natCast_nonneg 0),(oG h fun _ h=>⟨(Int.natCast_nonneg 1),(oG h fun _ h=>⟨(ay h_inp Z0),⟨(ay h_inp Z1),(oL h fun _ _ h=>h)⟩⟩)⟩)⟩) fun _ h=>(oC h (fun _ h=>⟨(Int.natCast_nonneg 0),(oG h fun _ h=>⟨(Int.natCast_nonneg 1),(oG h fun _ h=>⟨(ay h_inp Z0),⟨(ay h_inp Z1),(oL h fun _ _ h=>h)⟩⟩)⟩)⟩) fun _ h=>(oC h (fun _ h=>⟨(Int.natCast_nonneg 0),(oG h fun _ h=>⟨(ay h_inp Z0),(oL h fun _ _ h=>h)⟩)⟩) fun _ h=>⟨(Int.natCast_nonneg 0),(oG h fun _ h=>(oL h fun _ _ h=>h))⟩)))))))
def c169:Con:=⟨[.dat TVS,.dat TPS],fun args hp K=>g2 (pD TVS) (pD TPS) (fun row e=>(Sm TVS row)/\(Sm TPS e)/\(M.jh row.length e)/\(LD (M.eg row e) fun r=>K (.data aa r) [])) args hp,.plain,false⟩
abbrev C169:Ctx:=cx [(165,c165),(212,c212)] 37 [] 0 false
def ann169:=an [[kp 19],[kp 51],[kp 7217],[kp 15409],[.fixRow 7 ax,kp 7345],[kp 7601],[.fixRow 9 aa,kp 7985],[kp 7217],[kp 7217],[kp 16]] [[kp 48]]
abbrev s169_0 (row:LV) (e:LPt) (i0:Int) (v0:LV):St:=⟨[(0,.data TVS row),(4,.ptr 4 0),(5,.own 5 none),(10,.data TPS e),(11,dI (e.length:Int)),(12,dI i0)],[(4,.box [dI Z0,dI Z0,.data Ty.str (⟨#[]⟩:ByteArray)]),(5,.arr .sh aa v0)]⟩
abbrev LP169_0 (row:LV) (e:LPt) (m:Nat) (st_:St) (K:KX):Prop:=True/\bI (t:=ax) (s169_0 row e) e (F.dy row e) (fun v0:LV=>True) (aR (fun v0:LV=>True->K (.exit 0) (⟨[(4,.ptr 4 0),(5,.own 5 none)],[(4,.box [dI Z0,dI Z0,.data Ty.str (⟨#[]⟩:ByteArray)]),(5,.arr .sh aa v0)]⟩:St)) (fun _=>False)) m st_
def L169 (row:LV) (e:LPt):aW:=lp1 0 (LP169_0 row e)
theorem vc169 (row:LV) (e:LPt) (K:KA):vcT C169 (L169 row e) ann169 f169 [.data TVS row,.data TPS e] [] (.dat aa) K =
 (∃m_,True/\bI (t:=ax) (s169_0 row e) e (F.dy row e) (fun v0:LV=>True) (aR (fun v0:LV=>True->(0<=Z0)/\(Z0<(v0.length:Int))/\K (.data aa (nV v0 Z0)) []) (fun _=>False)) m_ (s169_0 row e Z0 [])):=by kernel_rfl
abbrev S169l0_0 (row:LV) (e:LPt)  (i0:Int) (v0:LV) (m:Nat) (K:KX):Prop:=(Sm ax (nP e i0))/\(Sm TVS row)/\(Sm TVS (aB v0 (some (wrap64 ((v0.length:Int)-(M.takes (nP e i0))),(v0.length:Int)))))/\(((aB v0 (some (wrap64 ((v0.length:Int)-(M.takes (nP e i0))),(v0.length:Int)))).length:Int)=M.takes (nP e i0))/\(M.ni (nP e i0) row.length)/\(1<=(nP e i0).1/\(nP e i0).1<=8)/\(LD (M.gQ (nP e i0) row (aB v0 (some (wrap64 ((v0.length:Int)-(M.takes (nP e i0))),(v0.length:Int))))) fun r1=>(0<=Z0)/\(Z0<=wrap64 ((v0.length:Int)-(M.takes (nP e i0))))/\(wrap64 ((v0.length:Int)-(M.takes (nP e i0)))<=(v0.length:Int))/\(wrap64 ((v0.length:Int)-(M.takes (nP e i0)))=wrap64 ((v0.length:Int)-(M.takes (nP e i0))))/\(Z0=0)/\(((wrap64 ((v0.length:Int)-(M.takes (nP e i0)))).toNat+[r1].length) * 32<=lim)/\(nxT (LP169_0 row e) m K (s169_0 row e (wrap64 (i0+Z1)) (v0.take (wrap64 ((v0.length:Int)-(M.takes (nP e i0)))).toNat++[r1]))))
theorem lvc169_0 (row:LV) (e:LPt)  (i0:Int) (v0:LV) (m:Nat) (K:KX):lvT C169 (L169 row e) ann169 f169 0 0 (s169_0 row e i0 v0) m K =
 (cond (decide (i0<(e.length:Int))) ((0<=i0)/\(i0<(e.length:Int))/\(Sm ax (nP e i0))/\(0<=wrap64 ((v0.length:Int)-(M.takes (nP e i0))))/\(wrap64 ((v0.length:Int)-(M.takes (nP e i0)))<=(v0.length:Int))/\((v0.length:Int)<=(v0.length:Int))/\((v0.length:Int)=(v0.length:Int))/\Q0 (S169l0_0  row e i0 v0 m K)) (K (.exit 0) (⟨[(4,.ptr 4 0),(5,.own 5 none)],[(4,.box [dI Z0,dI Z0,.data Ty.str (⟨#[]⟩:ByteArray)]),(5,.arr .sh aa v0)]⟩:St))):=by kernel_rfl
theorem con169_ok:aN P 169 c169:=aP C169 func169 (kC con165_ok (kC con212_ok kN)) fun args hp K h0=>by
 obtain⟨row,e,rfl,rfl,h_row,h_e,p0,hK⟩:=g2e h0
 have h:ok (F.mW row e) (fun r=>K (.data aa r) []):=ak (F.vq row e h_row h_e p0) (hK _ rfl)
 refine⟨rfl,ann169,(L169 row e),(.dat aa),(aI (i0:=0) (by kernel_rfl) ?_),?_⟩
 ·rintro _ _ K ⟨hc0,i0,v0,rfl,hl0,rfl,hv0,h⟩
  exact cast (lvc169_0 _ _ _ _ _ _).symm (br (t:=ax) hl0 h (fun ht0 h=>⟨hl0,⟨ht0,⟨(ay h_e i0),(oG h fun _ h=>(oG h fun g1 h=>⟨(Int.le_refl _),⟨rfl,(q0 (⟨(ay h_e i0),⟨h_row,(oG h fun _ h=>(oG h fun _ h=>(oG h fun _ h=>(oG h fun _ h=>(oL h fun _ _ h=>⟨(Int.natCast_nonneg 0),(oG h fun _ h=>⟨g1,⟨rfl,⟨rfl,(oG h fun _ h=>(aT (t:=ax) (fun _ hm=>⟨hc0,hm⟩) _ rfl hl0 ht0 (aM h_e) trivial h))⟩⟩⟩)⟩)))))⟩⟩))⟩⟩))⟩⟩⟩) fun h=>(h trivial))
 ·rw[vc169]
  exact(aZ (t:=ax) (fun m hm=>⟨trivial,hm⟩) _ rfl trivial (aF h (fun v0 h hv0=>⟨(Int.natCast_nonneg 0),(oG h fun _ h=>h)⟩) (fun _ h=>h.elim)))
def c201:Con:=⟨[.dat (Ty.sl au),.any],fun args hp K=>g2 (pD (Ty.sl au)) (pR TVS) (fun list key=>(Sm (Ty.sl au) list)/\(Sm TVS key)/\(LD (list,key) fun r=>K (.fn 202 [.ref (.data (Ty.sl au) r.1),.ref (.data TVS r.2)]) [])) args hp,.plain,false⟩
abbrev C201:Ctx:=cx [(202,c202)] 5 [] 0 false
def ann201:=an [[.fixBox 2,kp 6],[kp 8]] []
theorem vc201 (list:LI) (key:LV) (K:KA):vcT C201 aq ann201 f201 [.data (Ty.sl au) list,.ref (.data TVS key)] [] .raw K =
 (K (.fn 202 [.ref (.data (Ty.sl au) list),.ref (.data TVS key)]) []):=by kernel_rfl
theorem con201_ok:aN P 201 c201:=aP C201 func201 (kC con202_ok kN) fun args hp K h0=>by
 obtain⟨list,key,rfl,rfl,h_list,h_key,hK⟩:=g2e h0
 have h:ok (F.mJ list key) (fun r=>K (.fn 202 [.ref (.data (Ty.sl au) r.1),.ref (.data TVS r.2)]) []):=ak (F.qv list key h_list h_key) (hK _ rfl)
 refine⟨rfl,ann201,aq,.raw,(az (by kernel_rfl)),?_⟩
 ·rw[vc201]
  exact h
def c155:Con:=⟨[.dat TBond,.dat TTb,.dat au],fun args hp K=>g3 (pD TBond) (pD TTb) (pD au) (fun b tables n=>(Sm TBond b)/\(Sm TTb tables)/\((M.aA tables&&M.aX tables b)=true)/\(0<=n/\n<((M.gu tables b).length:Int))/\K (dB (M.breaks tables b n)) []) args hp,.plain,false⟩
abbrev C155:Ctx:=cx [(138,c138),(169,c169),(170,c170),(198,c198),(199,c199),(201,c201)] 63 [] 0 false
def ann155:=an [[.fixRow 3 TBond,kp 14],[kp 142],[kp 2097294],[kp 64],[.fixBox 8,kp 270],[kp 8589934862],[kp 64],[kp 526],[kp 137438953998],[kp 64],[kp 64]] []
theorem vc155 (b:TBond.D) (tables:LTb) (n:Int) (K:KA):vcT C155 aq ann155 f155 [.data TBond b,.data TTb tables,dI n] [] (.dat Ty.bool) K =
 ((0<=b.2.1)/\(b.2.1<(tables.length:Int))/\(0<=n)/\(n<((nT tables b.2.1).2.1.length:Int))/\cond (decide (b.1=Z3)) ((Sm TVS (nth (t:=TVS) (nT tables b.2.1).2.1 n))/\(Sm TPS b.2.2.2.2.2.2.1)/\(M.jh (nth (t:=TVS) (nT tables b.2.1).2.1 n).length b.2.2.2.2.2.2.1)/\(LD (M.eg (nth (t:=TVS) (nT tables b.2.1).2.1 n) b.2.2.2.2.2.2.1) fun r1=>(LD (M.valueOf Z0) fun r2=>K (dB (Ty.beq aa r1 r2)) []))) ((Sm TVS (nth (t:=TVS) (nT tables b.2.1).2.1 n))/\(Sm (Ty.sl au) b.2.2.1)/\(M.eI (nth (t:=TVS) (nT tables b.2.1).2.1 n) b.2.2.1)/\(LD (M.taken (nth (t:=TVS) (nT tables b.2.1).2.1 n) b.2.2.1) fun r3=>(((Sm TVS r3)/\cond (List.any r3 (fun e=>decide (e.1=0))) (K (dB false) []) (cond (decide (b.1=Z1)) ((0<=b.2.1)/\(b.2.1<(tables.length:Int))/\(0<=Z0)/\(Z0<=n)/\(n<=((nT tables b.2.1).2.1.length:Int))/\(n=n)/\(Sm (Ty.sl au) b.2.2.1)/\(Sm TVS r3)/\(LD (b.2.2.1,r3) fun r4=>(False\/((Sm (Ty.sl TVS) (aB (nT tables b.2.1).2.1 (some (Z0,n))))/\(Sm (Ty.sl au) r4.1)/\(Sm TVS r4.2)/\(∀e∈(aB (nT tables b.2.1).2.1 (some (Z0,n))),M.eI e r4.1)/\K (dB (List.any (aB (nT tables b.2.1).2.1 (some (Z0,n))) (fun e=>decide (M.taken e r4.1=r4.2)))) [])))) ((0<=b.2.2.2.1)/\(b.2.2.2.1<(tables.length:Int))/\(Sm (Ty.sl au) b.2.2.2.2.1)/\(Sm TVS r3)/\(LD (b.2.2.2.2.1,r3) fun r5=>(False\/((Sm (Ty.sl TVS) (nT tables b.2.2.2.1).2.1)/\(Sm (Ty.sl au) r5.1)/\(Sm TVS r5.2)/\(∀e∈(nT tables b.2.2.2.1).2.1,M.eI e r5.1)/\K (dB (!(List.any (nT tables b.2.2.2.1).2.1 (fun e=>decide (M.taken e r5.1=r5.2))))) []))))))\/False)))):=by kernel_rfl
theorem con155_ok:aN P 155 c155:=aP C155 func155 (kC con138_ok (kC con169_ok (kC con170_ok (kC con198_ok (kC con199_ok (kC con201_ok kN)))))) fun args hp K h0=>by
 obtain⟨b,tables,n,rfl,rfl,h_b,h_tables,p0,p1,hK⟩:=g3e h0
 have h:ok (F.jK b tables n) (fun r=>K (dB r) []):=ak (F.sB b tables n h_b h_tables p0 p1) hK
 refine⟨rfl,ann155,aq,(.dat Ty.bool),(az (by kernel_rfl)),?_⟩
 ·rw[vc155]
  exact(oG h fun g1 h=>(oG h fun g2 h=>(oG h fun _ h=>(oG h fun _ h=>(oC h (fun _ h=>⟨(ay (ay h_tables b.2.1).2.1 n),⟨h_b.2.2.2.2.2.2.1,(oG h fun _ h=>(oL h fun _ _ h=>(oL h fun _ _ h=>h)))⟩⟩) fun _ h=>⟨(ay (ay h_tables b.2.1).2.1 n),⟨h_b.2.2.1,(oG h fun _ h=>(oL h fun _ er3 h=>(Or.inl (⟨(gI er3 (M.fO (ay (ay h_tables b.2.1).2.1 n) h_b.2.2.1)),(oC h (fun _ h=>h) fun _ h=>(oC h (fun _ h=>⟨g1,⟨g2,⟨(Int.natCast_nonneg 0),(oG h fun _ h=>(oG h fun _ h=>⟨rfl,⟨h_b.2.2.1,⟨(gI er3 (M.fO (ay (ay h_tables b.2.1).2.1 n) h_b.2.2.1)),(oL h fun _ er4 h=>(Or.inr (⟨(Eb (ay h_tables b.2.1).2.1 _),⟨(by rw[er4];exact h_b.2.2.1),⟨(by rw[er4];exact(gI er3 (M.fO (ay (ay h_tables b.2.1).2.1 n) h_b.2.2.1))),(oG h fun _ h=>h)⟩⟩⟩)))⟩⟩⟩))⟩⟩⟩) fun _ h=>(oG h fun _ h=>(oG h fun _ h=>⟨h_b.2.2.2.2.1,⟨(gI er3 (M.fO (ay (ay h_tables b.2.1).2.1 n) h_b.2.2.1)),(oL h fun _ er5 h=>(Or.inr (⟨(ay h_tables b.2.2.2.1).2.1,⟨(by rw[er5];exact h_b.2.2.2.2.1),⟨(by rw[er5];exact(gI er3 (M.fO (ay (ay h_tables b.2.1).2.1 n) h_b.2.2.1))),(oG h fun _ h=>h)⟩⟩⟩)))⟩⟩))))⟩))))⟩⟩)))))
def c86:Con:=⟨[.dat TBond,.dat TTb],fun args hp K=>g2 (pD TBond) (pD TTb) (fun b tables=>(Sm TBond b)/\(Sm TTb tables)/\((M.aA tables&&M.aX tables b)=true)/\K (dI (M.broken tables b)) []) args hp,.bor,false⟩
abbrev C86:Ctx:=cx [(155,c155)] 22 [] 0 false
def ann86:=an [[.fixRow 2 TBond,kp 6],[kp 12294],[kp 28678],[kp 12326],[kp 536614],[kp 16],[kp 12294],[kp 16]] [[kp 0]]
abbrev s86_0 (b:TBond.D) (tables:LTb) (i0:Int) (v0:Unit):St:=⟨[(1,.data TTb tables),(2,.adr TBond b),(12,dI ((nT tables b.2.1).2.1.length:Int)),(13,dI i0)],[]⟩
abbrev LP86_0 (b:TBond.D) (tables:LTb) (m:Nat) (st_:St) (K:KX):Prop:=True/\aY (s86_0 b tables) Z0 ((nT tables b.2.1).2.1.length:Int) (F.eT b tables) (fun v0:Unit=>True) (aR (fun v0:Unit=>True->K (.exit 0) (⟨[],[]⟩:St)) (fun q0:Int=>K .ret (⟨[(4,dI q0)],[]⟩:St))) m st_
def L86 (b:TBond.D) (tables:LTb):aW:=lp1 0 (LP86_0 b tables)
theorem vc86 (b:TBond.D) (tables:LTb) (K:KA):vcT C86 (L86 b tables) ann86 f86 [.data TBond b,.data TTb tables] [] (.dat au) K =
 ((0<=b.2.1)/\(b.2.1<(tables.length:Int))/\(∃m_,True/\aY (s86_0 b tables) Z0 ((nT tables b.2.1).2.1.length:Int) (F.eT b tables) (fun v0:Unit=>True) (aR (fun v0:Unit=>True->K (dI (-1:Int)) []) (fun q0:Int=>K (dI q0) [])) m_ (s86_0 b tables Z0 ()))):=by kernel_rfl
theorem lvc86_0 (b:TBond.D) (tables:LTb)  (i0:Int) (v0:Unit) (m:Nat) (K:KX):lvT C86 (L86 b tables) ann86 f86 0 0 (s86_0 b tables i0 v0) m K =
 (cond (decide (i0<((nT tables b.2.1).2.1.length:Int))) ((Sm TBond b)/\(Sm TTb tables)/\((M.aA tables&&M.aX tables b)=true)/\(0<=i0/\i0<((M.gu tables b).length:Int))/\cond (M.breaks tables b i0) (K .ret (⟨[(4,dI i0)],[]⟩:St)) (nxT (LP86_0 b tables) m K (s86_0 b tables (wrap64 (i0+Z1)) ()))) (K (.exit 0) (⟨[],[]⟩:St))):=by kernel_rfl
theorem con86_ok:aN P 86 c86:=aP C86 func86 (kC con155_ok kN) fun args hp K h0=>by
 obtain⟨b,tables,rfl,rfl,h_b,h_tables,p0,hK⟩:=g2e h0
 have h:ok (F.jO b tables) (fun r=>K (dI r) []):=ak (F.sq b tables h_b h_tables p0) hK
 refine⟨rfl,ann86,(L86 b tables),(.dat au),(aI (i0:=0) (by kernel_rfl) ?_),?_⟩
 ·rintro _ _ K ⟨hc0,i0,v0,rfl,hl0,rfl,hv0,h⟩
  exact cast (lvc86_0 _ _ _ _ _ _).symm (aL h (fun ht0 h=>⟨h_b,⟨h_tables,(oG h fun _ h=>(oG h fun _ h=>(oC h (fun _ h=>h) fun _ h=>(aE (fun _ hm=>⟨hc0,hm⟩) _ rfl hl0 dG ht0 (aM (ay h_tables b.2.1).2.1) trivial h))))⟩⟩) fun h=>(h trivial))
 ·rw[vc86]
  exact(oG h fun _ h=>(oG h fun _ h=>(aD (fun m hm=>⟨trivial,hm⟩) Z0 _ rfl (Int.natCast_nonneg 0) trivial (aF h (fun v0 h hv0=>h) (fun q0 h=>h)))))
def c119:Con:=⟨[.dat TBond,.any],fun args hp K=>g2 (pD TBond) (pR TTb) (fun b tables=>(Sm TBond b)/\(Sm TTb tables)/\((M.aA tables&&M.aX tables b)=true)/\K (dB (decide (0<=M.broken tables b))) []) args hp,.plain,false⟩
abbrev C119:Ctx:=cx [(86,c86)] 8 [] 0 false
def ann119:=an [[.fixRow 2 TBond,kp 6],[kp 8]] []
theorem vc119 (b:TBond.D) (tables:LTb) (K:KA):vcT C119 aq ann119 f119 [.data TBond b,.ref (.data TTb tables)] [] (.dat Ty.bool) K =
 ((Sm TBond b)/\(Sm TTb tables)/\((M.aA tables&&M.aX tables b)=true)/\K (dB (decide (Z0<=(M.broken tables b)))) []):=by kernel_rfl
theorem con119_ok:aN P 119 c119:=aP C119 func119 (kC con86_ok kN) fun args hp K h0=>by
 obtain⟨b,tables,rfl,rfl,h_b,h_tables,p0,hK⟩:=g2e h0
 have h:ok (F.wY b tables) (fun r=>K (dB r) []):=ak (F.Ap b tables h_b h_tables p0) hK
 refine⟨rfl,ann119,aq,(.dat Ty.bool),(az (by kernel_rfl)),?_⟩
 ·rw[vc119]
  exact⟨h_b,⟨h_tables,⟨p0,h⟩⟩⟩
def c166:Con:=⟨[.dat ax,.dat TCS],fun args hp K=>g2 (pD ax) (pD TCS) (fun p columns=>(Sm ax p)/\(Sm TCS columns)/\K (dB (M.lB p columns)) []) args hp,.plain,false⟩
abbrev C166:Ctx:=cx [(131,c131),(132,c132)] 63 [] 0 false
def ann166:=an [[.fixRow 2 ax,kp 6],[kp 70],[kp 198],[kp 16],[kp 8388678],[kp 16],[kp 137438953540],[kp 16],[.keep [2,6,48]],[.keep [2,6,48]],[.keep [2,6,48]],[.keep [2,6,48]],[.keep [2,48]],[kp 16],[kp 16]] []
abbrev S166_0 (p:ax.D) (columns:LC) (K:KA):Prop:=cond ((decide (p.2.1=Z0))==true) (K (dB (Ty.beq aa p.2.2.1 (Z0,(Z0,((⟨#[]⟩:ByteArray),()))))) []) (K (dB false) [])
theorem vc166 (p:ax.D) (columns:LC) (K:KA):vcT C166 aq ann166 f166 [.data ax p,.data TCS columns] [] (.dat Ty.bool) K =
 (cond (decide (p.1=Z1)) (cond ((decide (p.2.1=Z0))==true) ((Sm aa p.2.2.1)/\cond ((M.aO p.2.2.1)==true) (K (dB (!decide (p.2.2.1.1=Z0))) []) (K (dB false) [])) (K (dB false) [])) (cond (decide (p.1=Z2)) (cond ((M.inR p.2.1 Z0 (wrap64 ((columns.length:Int)-Z1)))==true) (K (dB (Ty.beq aa p.2.2.1 (Z0,(Z0,((⟨#[]⟩:ByteArray),()))))) []) (K (dB false) [])) (cond (decide (p.1=Z4)) (cond ((M.inR p.2.1 Z1 Z4)==true) (K (dB (Ty.beq aa p.2.2.1 (Z0,(Z0,((⟨#[]⟩:ByteArray),()))))) []) (K (dB false) [])) (cond (decide (p.1=Z3)) (cond (decide (p.1=Z3)) (S166_0 p columns K) (K (dB false) [])) (cond (decide (p.1=Z5)) (cond (decide (p.1=Z5)) (S166_0 p columns K) (K (dB false) [])) (cond (decide (p.1=Z6)) (cond (decide (p.1=Z6)) (S166_0 p columns K) (K (dB false) [])) (cond (decide (p.1=(7:Int))) (cond (decide (p.1=(7:Int))) (S166_0 p columns K) (K (dB false) [])) (cond (decide (p.1=(8:Int))) (S166_0 p columns K) (K (dB false) []))))))))):=by kernel_rfl
theorem con166_ok:aN P 166 c166:=aP C166 func166 (kC con131_ok (kC con132_ok kN)) fun args hp K h0=>by
 obtain⟨p,columns,rfl,rfl,h_p,h_columns,hK⟩:=g2e h0
 have h:ok (F.lA p columns) (fun r=>K (dB r) []):=ak (F.tT p columns h_p h_columns) hK
 refine⟨rfl,ann166,aq,(.dat Ty.bool),(az (by kernel_rfl)),?_⟩
 ·rw[vc166]
  exact(oC h (fun _ h=>(oC h (fun _ h=>⟨h_p.2.2.1,(oC h (fun _ h=>h) fun _ h=>h)⟩) fun _ h=>h)) fun _ h=>(oC h (fun _ h=>(oC h (fun _ h=>h) fun _ h=>h)) fun _ h=>(oC h (fun _ h=>(oC h (fun _ h=>h) fun _ h=>h)) fun _ h=>(oC h (fun b_8 h=>(fJ b_8 (oC h (fun _ h=>h) fun _ h=>h))) fun _ h=>(oC h (fun b_11 h=>(fJ b_11 (oC h (fun _ h=>h) fun _ h=>h))) fun _ h=>(oC h (fun b_14 h=>(fJ b_14 (oC h (fun _ h=>h) fun _ h=>h))) fun _ h=>(oC h (fun b_17 h=>(fJ b_17 (oC h (fun _ h=>h) fun _ h=>h))) fun _ h=>(oC h (fun _ h=>(oC h (fun _ h=>h) fun _ h=>h)) fun _ h=>h))))))))
def c210:Con:=⟨[.dat au,.any],fun args hp K=>g2 (pD au) (pR au) (fun k kind=>K (dB (!decide (k=kind))) []) args hp,.plain,false⟩
abbrev C210:Ctx:=cx [] 7 [] 0 false
def ann210:=an [[kp 3],[kp 8]] []
theorem vc210 (k:Int) (kind:Int) (K:KA):vcT C210 aq ann210 f210 [dI k,.ref (dI kind)] [] (.dat Ty.bool) K =
 (K (dB (!decide (k=kind))) []):=by kernel_rfl
theorem con210_ok:aN P 210 c210:=aP C210 func210 kN fun args hp K h0=>by
 obtain⟨k,kind,rfl,rfl,hK⟩:=g2e h0
 have h:ok (F.mB k kind) (fun r=>K (dB r) []):=ak (F.qw k kind) hK
 refine⟨rfl,ann210,aq,(.dat Ty.bool),(az (by kernel_rfl)),?_⟩
 ·rw[vc210]
  exact h
def c222:Con:=⟨[.dat au,.any],fun args hp K=>g2 (pD au) (pA TTable) (fun n t=>(Sm TTable t)/\K (dB (!M.inR n 0 (t.1.length-1))) []) args hp,.plain,false⟩
abbrev C222:Ctx:=cx [(132,c132)] 11 [] 0 false
def ann222:=an [[kp 3],[kp 8]] []
theorem vc222 (n:Int) (t:TTable.D) (K:KA):vcT C222 aq ann222 f222 [dI n,.adr TTable t] [] (.dat Ty.bool) K =
 (K (dB (!(M.inR n Z0 (wrap64 ((t.1.length:Int)-Z1))))) []):=by kernel_rfl
theorem con222_ok:aN P 222 c222:=aP C222 func222 (kC con132_ok kN) fun args hp K h0=>by
 obtain⟨n,t,rfl,rfl,h_t,hK⟩:=g2e h0
 have h:ok (F.ou n t) (fun r=>K (dB r) []):=ak (F.wX n t h_t) hK
 refine⟨rfl,ann222,aq,(.dat Ty.bool),(az (by kernel_rfl)),?_⟩
 ·rw[vc222]
  exact h
def c237:Con:=⟨[.lent au,.any],fun args hp K=>(args2 (fun a0 a1=>ig au a0 fun xs=>gC 222 a1 (oM (fun b1_0=>DG TTable b1_0 fun k0=>(Sm (Ty.sl au) xs)/\(Sm TTable k0)/\K (dI (M.idx (t:=au) (fun e=>!M.inR e 0 (k0.1.length-1)) xs)) []))) args hp)\/(args2 (fun a0 a1=>ig au a0 fun xs=>gC 210 a1 (oM (fun b1_0=>lD au b1_0 fun k0=>(Sm (Ty.sl au) xs)/\K (dI (M.idx (t:=au) (fun e=>!decide (e=k0)) xs)) []))) args hp),.plain,false⟩
abbrev C237:Ctx:=cx [(210,c210),(222,c222)] 19 [] 0 false
def ann237_v0:=an [[kp 3],[kp 387],[kp 899],[kp 419],[kp 65955],[kp 16],[kp 387],[kp 16]] [[kp 0]]
abbrev s237_0_v0 (xs:LI) (k0:TTable.D) (i0:Int) (v0:Unit):St:=⟨[(0,.brw au xs),(1,.fn 222 [.adr TTable k0]),(7,dI (xs.length:Int)),(8,dI i0)],[]⟩
abbrev LP237_0_v0 (xs:LI) (k0:TTable.D) (m:Nat) (st_:St) (K:KX):Prop:=True/\aY (s237_0_v0 xs k0) Z0 (xs.length:Int) (F.cO xs k0) (fun v0:Unit=>True) (aR (fun v0:Unit=>True->K (.exit 0) (⟨[],[]⟩:St)) (fun q0:Int=>K .ret (⟨[(4,dI q0)],[]⟩:St))) m st_
def L237_v0 (xs:LI) (k0:TTable.D):aW:=lp1 0 (LP237_0_v0 xs k0)
theorem vc237_v0 (xs:LI) (k0:TTable.D) (K:KA):vcT C237 (L237_v0 xs k0) ann237_v0 f237 [.brw au xs,.fn 222 [.adr TTable k0]] [] (.dat au) K =
 (∃m_,True/\aY (s237_0_v0 xs k0) Z0 (xs.length:Int) (F.cO xs k0) (fun v0:Unit=>True) (aR (fun v0:Unit=>True->K (dI (-1:Int)) []) (fun q0:Int=>K (dI q0) [])) m_ (s237_0_v0 xs k0 Z0 ())):=by kernel_rfl
theorem lvc237_0_v0 (xs:LI) (k0:TTable.D)  (i0:Int) (v0:Unit) (m:Nat) (K:KX):lvT C237 (L237_v0 xs k0) ann237_v0 f237 0 0 (s237_0_v0 xs k0 i0 v0) m K =
 (cond (decide (i0<(xs.length:Int))) ((0<=i0)/\(i0<(xs.length:Int))/\(Sm TTable k0)/\cond (!M.inR (nI xs i0) 0 (k0.1.length-1)) (K .ret (⟨[(4,dI i0)],[]⟩:St)) (nxT (LP237_0_v0 xs k0) m K (s237_0_v0 xs k0 (wrap64 (i0+Z1)) ()))) (K (.exit 0) (⟨[],[]⟩:St))):=by kernel_rfl
def ann237_v1:=an [[kp 3],[kp 387],[kp 899],[kp 419],[kp 65955],[kp 16],[kp 387],[kp 16]] [[kp 0]]
abbrev s237_0_v1 (xs:LI) (k0:Int) (i0:Int) (v0:Unit):St:=⟨[(0,.brw au xs),(1,.fn 210 [.ref (dI k0)]),(7,dI (xs.length:Int)),(8,dI i0)],[]⟩
abbrev LP237_0_v1 (xs:LI) (k0:Int) (m:Nat) (st_:St) (K:KX):Prop:=True/\aY (s237_0_v1 xs k0) Z0 (xs.length:Int) (F.bX xs k0) (fun v0:Unit=>True) (aR (fun v0:Unit=>True->K (.exit 0) (⟨[],[]⟩:St)) (fun q0:Int=>K .ret (⟨[(4,dI q0)],[]⟩:St))) m st_
def L237_v1 (xs:LI) (k0:Int):aW:=lp1 0 (LP237_0_v1 xs k0)
theorem vc237_v1 (xs:LI) (k0:Int) (K:KA):vcT C237 (L237_v1 xs k0) ann237_v1 f237 [.brw au xs,.fn 210 [.ref (dI k0)]] [] (.dat au) K =
 (∃m_,True/\aY (s237_0_v1 xs k0) Z0 (xs.length:Int) (F.bX xs k0) (fun v0:Unit=>True) (aR (fun v0:Unit=>True->K (dI (-1:Int)) []) (fun q0:Int=>K (dI q0) [])) m_ (s237_0_v1 xs k0 Z0 ())):=by kernel_rfl
theorem lvc237_0_v1 (xs:LI) (k0:Int)  (i0:Int) (v0:Unit) (m:Nat) (K:KX):lvT C237 (L237_v1 xs k0) ann237_v1 f237 0 0 (s237_0_v1 xs k0 i0 v0) m K =
 (cond (decide (i0<(xs.length:Int))) ((0<=i0)/\(i0<(xs.length:Int))/\cond (!decide ((nI xs i0)=k0)) (K .ret (⟨[(4,dI i0)],[]⟩:St)) (nxT (LP237_0_v1 xs k0) m K (s237_0_v1 xs k0 (wrap64 (i0+Z1)) ()))) (K (.exit 0) (⟨[],[]⟩:St))):=by kernel_rfl
theorem con237_ok:aN P 237 c237:=aP C237 func237 (kC con210_ok (kC con222_ok kN)) fun args hp K h0=>by
 rcases h0 with h0 | h0
 ·obtain⟨a0,a1,rfl,rfl,h1⟩:=bt h0
  obtain⟨xs,rfl,h2⟩:=bS h1
  obtain⟨cs1,rfl,h3⟩:=bN h2
  obtain⟨b1_0,rfl,h4⟩:=dV h3
  obtain⟨k0,rfl,h5⟩:=tn h4
  obtain⟨h_xs,h_k0,hK⟩:=h5
  have h:ok (F.iR xs k0) (fun r=>K (dI r) []):=ak (F.mG xs k0 h_xs h_k0) hK
  refine⟨rfl,ann237_v0,(L237_v0 xs k0),(.dat au),(aI (i0:=0) (by kernel_rfl) ?_),?_⟩
  ·rintro _ _ K ⟨hc0,i0,v0,rfl,hl0,rfl,hv0,h⟩
   exact cast (lvc237_0_v0 _ _ _ _ _ _).symm (aL h (fun ht0 h=>⟨hl0,⟨ht0,⟨h_k0,(oC h (fun _ h=>h) fun _ h=>(aE (fun _ hm=>⟨hc0,hm⟩) _ rfl hl0 dG ht0 (aM h_xs) trivial h))⟩⟩⟩) fun h=>(h trivial))
  ·rw[vc237_v0]
   exact(aD (fun m hm=>⟨trivial,hm⟩) Z0 _ rfl (Int.natCast_nonneg 0) trivial (aF h (fun v0 h hv0=>h) (fun q0 h=>h)))
 ·obtain⟨a0,a1,rfl,rfl,h1⟩:=bt h0
  obtain⟨xs,rfl,h2⟩:=bS h1
  obtain⟨cs1,rfl,h3⟩:=bN h2
  obtain⟨b1_0,rfl,h4⟩:=dV h3
  obtain⟨k0,rfl,h5⟩:=cK h4
  obtain⟨h_xs,hK⟩:=h5
  have h:ok (F.fN xs k0) (fun r=>K (dI r) []):=ak (F.jv xs k0 h_xs) hK
  refine⟨rfl,ann237_v1,(L237_v1 xs k0),(.dat au),(aI (i0:=0) (by kernel_rfl) ?_),?_⟩
  ·rintro _ _ K ⟨hc0,i0,v0,rfl,hl0,rfl,hv0,h⟩
   exact cast (lvc237_0_v1 _ _ _ _ _ _).symm (aL h (fun ht0 h=>⟨hl0,⟨ht0,(oC h (fun _ h=>h) fun _ h=>(aE (fun _ hm=>⟨hc0,hm⟩) _ rfl hl0 dG ht0 (aM h_xs) trivial h))⟩⟩) fun h=>(h trivial))
  ·rw[vc237_v1]
   exact(aD (fun m hm=>⟨trivial,hm⟩) Z0 _ rfl (Int.natCast_nonneg 0) trivial (aF h (fun v0 h hv0=>h) (fun q0 h=>h)))
def c209:Con:=⟨[.lent au,.any],fun args hp K=>(args2 (fun a0 a1=>ig au a0 fun xs=>gC 222 a1 (oM (fun b1_0=>DG TTable b1_0 fun k0=>(Sm (Ty.sl au) xs)/\(Sm TTable k0)/\K (dB (List.any xs (fun e=>!M.inR e 0 (k0.1.length-1)))) []))) args hp)\/(args2 (fun a0 a1=>ig au a0 fun xs=>gC 210 a1 (oM (fun b1_0=>lD au b1_0 fun k0=>(Sm (Ty.sl au) xs)/\K (dB (List.any xs (fun e=>!decide (e=k0)))) []))) args hp),.plain,false⟩
abbrev C209:Ctx:=cx [(210,c210),(222,c222),(237,c237)] 9 [] 0 false
def ann209_v0:=an [[kp 3],[kp 16]] []
theorem vc209_v0 (xs:LI) (k0:TTable.D) (K:KA):vcT C209 aq ann209_v0 f209 [.brw au xs,.fn 222 [.adr TTable k0]] [] (.dat Ty.bool) K =
 (((Sm (Ty.sl au) xs)/\(Sm TTable k0)/\K (dB (decide (Z0<=(M.idx (t:=au) (fun e=>!M.inR e 0 (k0.1.length-1)) xs)))) [])\/False):=by kernel_rfl
def ann209_v1:=an [[kp 3],[kp 16]] []
theorem vc209_v1 (xs:LI) (k0:Int) (K:KA):vcT C209 aq ann209_v1 f209 [.brw au xs,.fn 210 [.ref (dI k0)]] [] (.dat Ty.bool) K =
 (False\/((Sm (Ty.sl au) xs)/\K (dB (decide (Z0<=(M.idx (t:=au) (fun e=>!decide (e=k0)) xs)))) [])):=by kernel_rfl
theorem con209_ok:aN P 209 c209:=aP C209 func209 (kC con210_ok (kC con222_ok (kC con237_ok kN))) fun args hp K h0=>by
 rcases h0 with h0 | h0
 ·obtain⟨a0,a1,rfl,rfl,h1⟩:=bt h0
  obtain⟨xs,rfl,h2⟩:=bS h1
  obtain⟨cs1,rfl,h3⟩:=bN h2
  obtain⟨b1_0,rfl,h4⟩:=dV h3
  obtain⟨k0,rfl,h5⟩:=tn h4
  obtain⟨h_xs,h_k0,hK⟩:=h5
  have h:ok (F.dN xs k0) (fun r=>K (dB r) []):=ak (F.kB xs k0 h_xs h_k0) hK
  refine⟨rfl,ann209_v0,aq,(.dat Ty.bool),(az (by kernel_rfl)),?_⟩
  ·rw[vc209_v0]
   exact(Or.inl (⟨h_xs,⟨h_k0,h⟩⟩))
 ·obtain⟨a0,a1,rfl,rfl,h1⟩:=bt h0
  obtain⟨xs,rfl,h2⟩:=bS h1
  obtain⟨cs1,rfl,h3⟩:=bN h2
  obtain⟨b1_0,rfl,h4⟩:=dV h3
  obtain⟨k0,rfl,h5⟩:=cK h4
  obtain⟨h_xs,hK⟩:=h5
  have h:ok (F.cQ xs k0) (fun r=>K (dB r) []):=ak (F.iK xs k0 h_xs) hK
  refine⟨rfl,ann209_v1,aq,(.dat Ty.bool),(az (by kernel_rfl)),?_⟩
  ·rw[vc209_v1]
   exact(Or.inr (⟨h_xs,h⟩))
def c208:Con:=⟨[.dat au,.any],fun args hp K=>g2 (pD au) (pQ au) (fun kind ins=>(Sm (Ty.sl au) ins)/\K (dB (List.all ins (fun k=>decide (k=kind)))) []) args hp,.plain,false⟩
abbrev C208:Ctx:=cx [(209,c209),(210,c210)] 8 [] 0 false
def ann208:=an [[.fixBox 2,kp 6],[kp 8]] []
theorem vc208 (kind:Int) (ins:LI) (K:KA):vcT C208 aq ann208 f208 [dI kind,.ref (.brw au ins)] [] (.dat Ty.bool) K =
 (False\/((Sm (Ty.sl au) ins)/\K (dB (!(List.any ins (fun e=>!decide (e=kind))))) [])):=by kernel_rfl
theorem con208_ok:aN P 208 c208:=aP C208 func208 (kC con209_ok (kC con210_ok kN)) fun args hp K h0=>by
 obtain⟨kind,ins,rfl,rfl,h_ins,hK⟩:=g2e h0
 have h:ok (F.jV kind ins) (fun r=>K (dB r) []):=ak (F.sG kind ins h_ins) hK
 refine⟨rfl,ann208,aq,(.dat Ty.bool),(az (by kernel_rfl)),?_⟩
 ·rw[vc208]
  exact(Or.inr (⟨h_ins,h⟩))
def c167:Con:=⟨[.dat ax,.dat TCS,.lent au],fun args hp K=>g3 (pD ax) (pD TCS) (pB au) (fun p columns inp=>(Sm ax p)/\(Sm TCS columns)/\(Sm (Ty.sl au) inp)/\(M.lB p columns=true)/\((inp.length:Int)=M.takes p)/\(LD (M.cA p columns inp) fun r=>K (.tup [dI r.1,dB r.2]) [])) args hp,.plain,false⟩
abbrev C167:Ctx:=cx [(208,c208)] 42 [] 0 false
def ann167:=an [[.fixRow 3 ax,.fixBox 5,kp 42],[kp 298],[kp 2346],[kp 6442],[kp 192],[kp 133418],[kp 192],[kp 33556768],[kp 192],[kp 536873248],[kp 192],[.keep [8,38]],[kp 192],[kp 192]] []
theorem vc167 (p:ax.D) (columns:LC) (inp:LI) (K:KA):vcT C167 aq ann167 f167 [.data ax p,.data TCS columns,.brw au inp] [] (.tup [au,Ty.bool]) K =
 (cond (decide (p.1=Z1)) (K (.tup [dI p.2.2.1.1,dB true]) []) (cond (decide (p.1=Z2)) ((0<=p.2.1)/\(p.2.1<(columns.length:Int))/\K (.tup [dI (nC columns p.2.1).1,dB true]) []) (cond (decide (p.1=Z3)) ((Sm (Ty.sl au) inp)/\K (.tup [dI Z1,dB (List.all inp (fun k=>decide (k=Z1)))]) []) (cond (decide (p.1=Z4)) ((0<=Z0)/\(Z0<(inp.length:Int))/\(0<=Z1)/\(Z1<(inp.length:Int))/\K (.tup [dI Z3,dB (decide ((nI inp Z0)=(nI inp Z1)))]) []) (cond (decide (p.1=(8:Int))) (K (.tup [dI Z3,dB true]) []) ((Sm (Ty.sl au) inp)/\K (.tup [dI Z3,dB (List.all inp (fun k=>decide (k=Z3)))]) [])))))):=by kernel_rfl
theorem con167_ok:aN P 167 c167:=aP C167 func167 (kC con208_ok kN) fun args hp K h0=>by
 obtain⟨p,columns,inp,rfl,rfl,h_p,h_columns,h_inp,p0,p1,hK⟩:=g3e h0
 have h:ok (F.mz p columns inp) (fun r=>K (.tup [dI r.1,dB r.2]) []):=ak (F.uH p columns inp h_p h_columns h_inp p0 p1) (hK _ rfl)
 refine⟨rfl,ann167,aq,(.tup [au,Ty.bool]),(az (by kernel_rfl)),?_⟩
 ·rw[vc167]
  exact(oC h (fun _ h=>h) fun _ h=>(oC h (fun _ h=>(oG h fun _ h=>(oG h fun _ h=>h))) fun _ h=>(oC h (fun _ h=>⟨h_inp,h⟩) fun _ h=>(oC h (fun _ h=>⟨(Int.natCast_nonneg 0),(oG h fun _ h=>⟨(Int.natCast_nonneg 1),(oG h fun _ h=>h)⟩)⟩) fun _ h=>(oC h (fun _ h=>h) fun _ h=>⟨h_inp,h⟩)))))
def c99:Con:=⟨[.dat TCS,.dat TPS],fun args hp K=>g2 (pD TCS) (pD TPS) (fun columns e=>(Sm TCS columns)/\(Sm TPS e)/\K (dI (M.cV columns e)) []) args hp,.plain,false⟩
abbrev C99:Ctx:=cx [(75,c75),(165,c165),(166,c166),(167,c167)] 67 [] 0 false
def ann99:=an [[kp 3],[kp 262147],[kp 16],[kp 35],[kp 3670049],[kp 7864353],[.fixRow 7 ax,kp 3670177],[kp 3670433],[kp 68723147169],[kp 16],[kp 3671841],[kp 1125899910513441],[kp 16],[kp 3670049],[kp 3670049],[.keep [5,63]],[kp 16],[kp 16]] [[kp 32]]
abbrev s99_0 (columns:LC) (e:LPt) (i0:Int) (v0:LI):St:=⟨[(0,.data TCS columns),(5,.own 5 none),(19,.data TPS e),(20,dI (e.length:Int)),(21,dI i0)],[(5,.arr .sh au v0)]⟩
abbrev LP99_0 (columns:LC) (e:LPt) (m:Nat) (st_:St) (K:KX):Prop:=True/\bI (t:=ax) (s99_0 columns e) e (F.dL columns e) (fun v0:LI=>True) (aR (fun v0:LI=>True->K (.exit 0) (⟨[(5,.own 5 none)],[(5,.arr .sh au v0)]⟩:St)) (fun q0:Unit=>K .ret (⟨[(4,dI (-1:Int))],[]⟩:St))) m st_
def L99 (columns:LC) (e:LPt):aW:=lp1 0 (LP99_0 columns e)
theorem vc99 (columns:LC) (e:LPt) (K:KA):vcT C99 (L99 columns e) ann99 f99 [.data TCS columns,.data TPS e] [] (.dat au) K =
 ((Sm TCS columns)/\cond ((!(M.bD columns))==false) (cond (decide ((12:Int)<(e.length:Int))) (K (dI (-1:Int)) []) (∃m_,True/\bI (t:=ax) (s99_0 columns e) e (F.dL columns e) (fun v0:LI=>True) (aR (fun v0:LI=>True->cond (!decide ((v0.length:Int)=Z1)) (K (dI (-1:Int)) []) ((0<=Z0)/\(Z0<(v0.length:Int))/\K (dI (nI v0 Z0)) [])) (fun q0:Unit=>K (dI (-1:Int)) [])) m_ (s99_0 columns e Z0 []))) (K (dI (-1:Int)) [])):=by kernel_rfl
theorem lvc99_0 (columns:LC) (e:LPt)  (i0:Int) (v0:LI) (m:Nat) (K:KX):lvT C99 (L99 columns e) ann99 f99 0 0 (s99_0 columns e i0 v0) m K =
 (cond (decide (i0<(e.length:Int))) ((0<=i0)/\(i0<(e.length:Int))/\(Sm ax (nP e i0))/\(Sm ax (nP e i0))/\(Sm TCS columns)/\cond ((!(M.lB (nP e i0) columns))==false) (cond (decide ((v0.length:Int)<(M.takes (nP e i0)))) (K .ret (⟨[(4,dI (-1:Int))],[]⟩:St)) ((0<=wrap64 ((v0.length:Int)-(M.takes (nP e i0))))/\(wrap64 ((v0.length:Int)-(M.takes (nP e i0)))<=(v0.length:Int))/\((v0.length:Int)<=(v0.length:Int))/\((v0.length:Int)=(v0.length:Int))/\(Sm ax (nP e i0))/\(Sm TCS columns)/\(Sm (Ty.sl au) (aB v0 (some (wrap64 ((v0.length:Int)-(M.takes (nP e i0))),(v0.length:Int)))))/\(M.lB (nP e i0) columns=true)/\(((aB v0 (some (wrap64 ((v0.length:Int)-(M.takes (nP e i0))),(v0.length:Int)))).length:Int)=M.takes (nP e i0))/\(LD (M.cA (nP e i0) columns (aB v0 (some (wrap64 ((v0.length:Int)-(M.takes (nP e i0))),(v0.length:Int))))) fun r1=>cond (!r1.2) (K .ret (⟨[(4,dI (-1:Int))],[]⟩:St)) ((0<=Z0)/\(Z0<=wrap64 ((v0.length:Int)-(M.takes (nP e i0))))/\(wrap64 ((v0.length:Int)-(M.takes (nP e i0)))<=(v0.length:Int))/\(wrap64 ((v0.length:Int)-(M.takes (nP e i0)))=wrap64 ((v0.length:Int)-(M.takes (nP e i0))))/\(Z0=0)/\(((wrap64 ((v0.length:Int)-(M.takes (nP e i0)))).toNat+[r1.1].length) * 8<=lim)/\(nxT (LP99_0 columns e) m K (s99_0 columns e (wrap64 (i0+Z1)) (v0.take (wrap64 ((v0.length:Int)-(M.takes (nP e i0)))).toNat++[r1.1]))))))) (K .ret (⟨[(4,dI (-1:Int))],[]⟩:St))) (K (.exit 0) (⟨[(5,.own 5 none)],[(5,.arr .sh au v0)]⟩:St))):=by kernel_rfl
theorem con99_ok:aN P 99 c99:=aP C99 func99 (kC con75_ok (kC con165_ok (kC con166_ok (kC con167_ok kN)))) fun args hp K h0=>by
 obtain⟨columns,e,rfl,rfl,h_columns,h_e,hK⟩:=g2e h0
 have h:ok (F.og columns e) (fun r=>K (dI r) []):=ak (F.vT columns e h_columns h_e) hK
 refine⟨rfl,ann99,(L99 columns e),(.dat au),(aI (i0:=0) (by kernel_rfl) ?_),?_⟩
 ·rintro _ _ K ⟨hc0,i0,v0,rfl,hl0,rfl,hv0,h⟩
  exact cast (lvc99_0 _ _ _ _ _ _).symm (br (t:=ax) hl0 h (fun ht0 h=>⟨hl0,⟨ht0,⟨(ay h_e i0),⟨(ay h_e i0),⟨h_columns,(oC h (fun b_37 h=>(oC h (fun _ h=>h) fun _ h=>(oG h fun _ h=>(oG h fun g1 h=>⟨(Int.le_refl _),⟨rfl,⟨(ay h_e i0),⟨h_columns,(oG h fun _ h=>⟨(bnf (bgt b_37)),(oG h fun _ h=>(oL h fun _ _ h=>(oC h (fun _ h=>h) fun _ h=>⟨(Int.natCast_nonneg 0),(oG h fun _ h=>⟨g1,⟨rfl,⟨rfl,(oG h fun _ h=>(aT (t:=ax) (fun _ hm=>⟨hc0,hm⟩) _ rfl hl0 ht0 (aM h_e) trivial h))⟩⟩⟩)⟩)))⟩)⟩⟩⟩⟩)))) fun _ h=>h)⟩⟩⟩⟩⟩) fun h=>(h trivial))
 ·rw[vc99]
  exact⟨h_columns,(oC h (fun _ h=>(oC h (fun _ h=>h) fun _ h=>(aZ (t:=ax) (fun m hm=>⟨trivial,hm⟩) _ rfl trivial (aF h (fun v0 h hv0=>(oC h (fun _ h=>h) fun _ h=>⟨(Int.natCast_nonneg 0),(oG h fun _ h=>h)⟩)) (fun q0 h=>h))))) fun _ h=>h)⟩
def c194:Con:=⟨[.dat TTable,.dat (Ty.sl au)],fun args hp K=>g2 (pD TTable) (pD (Ty.sl au)) (fun t list=>(Sm TTable t)/\(Sm (Ty.sl au) list)/\K (dB (M.bR t.1 list)) []) args hp,.plain,false⟩
abbrev C194:Ctx:=cx [(132,c132),(209,c209),(222,c222)] 14 [] 0 false
def ann194:=an [[.fixRow 2 TTable,kp 6],[kp 16]] []
theorem vc194 (t:TTable.D) (list:LI) (K:KA):vcT C194 aq ann194 f194 [.data TTable t,.data (Ty.sl au) list] [] (.dat Ty.bool) K =
 (cond ((M.inR (list.length:Int) Z1 Z4)==true) (((Sm (Ty.sl au) list)/\(Sm TTable t)/\K (dB (!(List.any list (fun e=>!M.inR e 0 (t.1.length-1))))) [])\/False) (K (dB false) [])):=by kernel_rfl
theorem con194_ok:aN P 194 c194:=aP C194 func194 (kC con132_ok (kC con209_ok (kC con222_ok kN))) fun args hp K h0=>by
 obtain⟨t,list,rfl,rfl,h_t,h_list,hK⟩:=g2e h0
 have h:ok (F.qR t list) (fun r=>K (dB r) []):=ak (F.yM t list h_t h_list) hK
 refine⟨rfl,ann194,aq,(.dat Ty.bool),(az (by kernel_rfl)),?_⟩
 ·rw[vc194]
  exact(oC h (fun _ h=>(Or.inl (⟨h_list,⟨h_t,h⟩⟩))) fun _ h=>h)
def c141:Con:=⟨[.dat TTb,.dat TBond],fun args hp K=>g2 (pD TTb) (pD TBond) (fun tables b=>(Sm TTb tables)/\(Sm TBond b)/\K (dB (M.aX tables b)) []) args hp,.plain,false⟩
abbrev C141:Ctx:=cx [(99,c99),(132,c132),(194,c194)] 141 [] 0 false
def ann141:=an [[.fixRow 3 TBond,kp 9],[kp 32777],[kp 16],[.fixRow 5 TTable,kp 41],[kp 105],[kp 68719476841],[kp 206158430313],[kp 16],[kp 4503668346847337],[kp 16],[.keep [0,3,5,69]],[.keep [0,3,5,110]],[kp 16],[.keep [0,3,5,112,113,114]],[.keep [0,3,5,112,113,114,115]],[.keep [0,3,5,7,8,112,113,114]],[.keep [0,3,5,112,113,114,139]],[kp 16],[.keep [0,3,5,112,113,114]],[kp 16],[kp 16]] [[],[kp 0]]
abbrev s141_1 (tables:LTb) (b:TBond.D) (i1:Int) (v1:Unit):St:=⟨[(0,.data TTb tables),(3,.adr TBond b),(5,.adr TTable (nT tables b.2.1)),(112,.data (Ty.sl au) b.2.2.1),(113,dI (b.2.2.1.length:Int)),(114,dI i1)],[]⟩
abbrev LP141_1 (tables:LTb) (b:TBond.D) (m:Nat) (st_:St) (K:KX):Prop:=True/\aY (s141_1 tables b) Z0 (b.2.2.1.length:Int) (F.eW tables b) (fun v1:Unit=>True) (aR (fun v1:Unit=>True->K (.exit 1) (⟨[],[]⟩:St)) (fun q1:Unit=>K .ret (⟨[(4,dB false)],[]⟩:St))) m st_
def L141 (tables:LTb) (b:TBond.D):aW:=lp1 1 (LP141_1 tables b)
abbrev S141_0 (tables:LTb) (b:TBond.D) (K:KA):Prop:=cond (decide (b.1=Z2)) (cond ((!(M.inR b.2.2.2.1 Z0 (wrap64 ((tables.length:Int)-Z1))))==false) (cond ((decide (Z0<(b.2.2.2.2.2.2.1.length:Int)))==false) ((Sm TTable (nT tables b.2.1))/\(Sm (Ty.sl au) b.2.2.1)/\cond ((!(M.bR (nT tables b.2.1).1 b.2.2.1))==false) ((0<=b.2.2.2.1)/\(b.2.2.2.1<(tables.length:Int))/\(Sm TTable (nT tables b.2.2.2.1))/\(Sm (Ty.sl au) b.2.2.2.2.1)/\cond ((!(M.bR (nT tables b.2.2.2.1).1 b.2.2.2.2.1))==false) (cond (!decide ((b.2.2.2.2.1.length:Int)=(b.2.2.1.length:Int))) (K (dB false) []) (∃m_,True/\aY (s141_1 tables b) Z0 (b.2.2.1.length:Int) (F.eW tables b) (fun v1:Unit=>True) (aR (fun v1:Unit=>True->K (dB true) []) (fun q1:Unit=>K (dB false) [])) m_ (s141_1 tables b Z0 ()))) (K (dB false) [])) (K (dB false) [])) (K (dB false) [])) (K (dB false) [])) (K (dB false) [])
abbrev S141_1 (tables:LTb) (b:TBond.D) (K:KA):Prop:=cond (decide (b.1=Z1)) ((Sm TTable (nT tables b.2.1))/\(Sm (Ty.sl au) b.2.2.1)/\cond ((M.bR (nT tables b.2.1).1 b.2.2.1)==true) (K (dB false) []) (K (dB false) [])) (cond (decide (b.1=Z3)) ((Sm TCS (nT tables b.2.1).1)/\(Sm TPS b.2.2.2.2.2.2.1)/\cond ((decide ((M.cV (nT tables b.2.1).1 b.2.2.2.2.2.2.1)=Z3))==true) (K (dB false) []) (K (dB false) [])) (S141_0 tables b K))
theorem vc141 (tables:LTb) (b:TBond.D) (K:KA):vcT C141 (L141 tables b) ann141 f141 [.data TTb tables,.data TBond b] [] (.dat Ty.bool) K =
 (cond (!(M.inR b.2.1 Z0 (wrap64 ((tables.length:Int)-Z1)))) (K (dB false) []) ((0<=b.2.1)/\(b.2.1<(tables.length:Int))/\cond ((decide (b.2.2.2.1=Z0))==true) (cond ((decide ((b.2.2.2.2.1.length:Int)=Z0))==true) (cond (decide (b.1=Z1)) ((Sm TTable (nT tables b.2.1))/\(Sm (Ty.sl au) b.2.2.1)/\cond ((M.bR (nT tables b.2.1).1 b.2.2.1)==true) (cond ((!b.2.2.2.2.2.1)==true) (K (dB (decide ((b.2.2.2.2.2.2.1.length:Int)=Z0))) []) (K (dB false) [])) (K (dB false) [])) (cond (decide (b.1=Z3)) ((Sm TCS (nT tables b.2.1).1)/\(Sm TPS b.2.2.2.2.2.2.1)/\cond ((decide ((M.cV (nT tables b.2.1).1 b.2.2.2.2.2.2.1)=Z3))==true) (cond ((!b.2.2.2.2.2.1)==true) (K (dB (decide ((b.2.2.1.length:Int)=Z0))) []) (K (dB false) [])) (K (dB false) [])) (S141_0 tables b K))) (S141_1 tables b K)) (S141_1 tables b K))):=by kernel_rfl
theorem lvc141_0 (tables:LTb) (b:TBond.D)  (i1:Int) (v1:Unit) (m:Nat) (K:KX):lvT C141 (L141 tables b) ann141 f141 0 1 (s141_1 tables b i1 v1) m K =
 (cond (decide (i1<(b.2.2.1.length:Int))) ((0<=i1)/\(i1<(b.2.2.1.length:Int))/\(0<=(nI b.2.2.1 i1))/\((nI b.2.2.1 i1)<((nT tables b.2.1).1.length:Int))/\(0<=b.2.2.2.1)/\(b.2.2.2.1<(tables.length:Int))/\(0<=i1)/\(i1<(b.2.2.2.2.1.length:Int))/\(0<=(nI b.2.2.2.2.1 i1))/\((nI b.2.2.2.2.1 i1)<((nT tables b.2.2.2.1).1.length:Int))/\cond (!decide ((nC (nT tables b.2.1).1 (nI b.2.2.1 i1)).1=(nC (nT tables b.2.2.2.1).1 (nI b.2.2.2.2.1 i1)).1)) (K .ret (⟨[(4,dB false)],[]⟩:St)) (nxT (LP141_1 tables b) m K (s141_1 tables b (wrap64 (i1+Z1)) ()))) (K (.exit 1) (⟨[],[]⟩:St))):=by kernel_rfl
theorem con141_ok:aN P 141 c141:=aP C141 func141 (kC con99_ok (kC con132_ok (kC con194_ok kN))) fun args hp K h0=>by
 obtain⟨tables,b,rfl,rfl,h_tables,h_b,hK⟩:=g2e h0
 have h:ok (F.rN tables b) (fun r=>K (dB r) []):=ak (F.zJ tables b h_tables h_b) hK
 refine⟨rfl,ann141,(L141 tables b),(.dat Ty.bool),(aI (i0:=1) (by kernel_rfl) ?_),?_⟩
 ·rintro _ _ K ⟨hc1,i1,v1,rfl,hl1,rfl,hv1,h⟩
  exact cast (lvc141_0 _ _ _ _ _ _).symm (aL h (fun ht1 h=>⟨hl1,⟨ht1,(oG h fun _ h=>(oG h fun _ h=>(oG h fun _ h=>(oG h fun _ h=>⟨hl1,(oG h fun _ h=>(oG h fun _ h=>(oG h fun _ h=>(oC h (fun _ h=>h) fun _ h=>(aE (fun _ hm=>⟨hc1,hm⟩) _ rfl hl1 dG ht1 (aM h_b.2.2.1) trivial h)))))⟩))))⟩⟩) fun h=>(h trivial))
 ·rw[vc141]
  exact(oC h (fun _ h=>h) fun b_1 h=>⟨(jD (bnf b_1)),⟨(ov (bnf b_1)),(oC h (fun _ h=>(oC h (fun _ h=>(oC h (fun _ h=>⟨(ay h_tables b.2.1),⟨h_b.2.2.1,(oC h (fun _ h=>(oC h (fun _ h=>h) fun _ h=>h)) fun _ h=>h)⟩⟩) fun _ h=>(oC h (fun _ h=>⟨(ay h_tables b.2.1).1,⟨h_b.2.2.2.2.2.2.1,(oC h (fun _ h=>(oC h (fun _ h=>h) fun _ h=>h)) fun _ h=>h)⟩⟩) fun _ h=>(oC h (fun _ h=>(oC h (fun b_11 h=>(oC h (fun _ h=>⟨(ay h_tables b.2.1),⟨h_b.2.2.1,(oC h (fun _ h=>⟨(jD (bnf (bgt b_11))),⟨(ov (bnf (bgt b_11))),⟨(ay h_tables b.2.2.2.1),⟨h_b.2.2.2.2.1,(oC h (fun _ h=>(oC h (fun _ h=>h) fun _ h=>(aD (fun m hm=>⟨trivial,hm⟩) Z0 _ rfl (Int.natCast_nonneg 0) trivial (aF h (fun v1 h hv1=>h) (fun q1 h=>h))))) fun _ h=>h)⟩⟩⟩⟩) fun _ h=>h)⟩⟩) fun _ h=>h)) fun _ h=>h)) fun _ h=>h)))) fun _ h=>(oC h (fun _ h=>⟨(ay h_tables b.2.1),⟨h_b.2.2.1,(oC h (fun _ h=>h) fun _ h=>h)⟩⟩) fun _ h=>(oC h (fun _ h=>⟨(ay h_tables b.2.1).1,⟨h_b.2.2.2.2.2.2.1,(oC h (fun _ h=>h) fun _ h=>h)⟩⟩) fun _ h=>(oC h (fun _ h=>(oC h (fun b_51 h=>(oC h (fun _ h=>⟨(ay h_tables b.2.1),⟨h_b.2.2.1,(oC h (fun _ h=>⟨(jD (bnf (bgt b_51))),⟨(ov (bnf (bgt b_51))),⟨(ay h_tables b.2.2.2.1),⟨h_b.2.2.2.2.1,(oC h (fun _ h=>(oC h (fun _ h=>h) fun _ h=>(aD (fun m hm=>⟨trivial,hm⟩) Z0 _ rfl (Int.natCast_nonneg 0) trivial (aF h (fun v1 h hv1=>h) (fun q1 h=>h))))) fun _ h=>h)⟩⟩⟩⟩) fun _ h=>h)⟩⟩) fun _ h=>h)) fun _ h=>h)) fun _ h=>h))))) fun _ h=>(oC h (fun _ h=>⟨(ay h_tables b.2.1),⟨h_b.2.2.1,(oC h (fun _ h=>h) fun _ h=>h)⟩⟩) fun _ h=>(oC h (fun _ h=>⟨(ay h_tables b.2.1).1,⟨h_b.2.2.2.2.2.2.1,(oC h (fun _ h=>h) fun _ h=>h)⟩⟩) fun _ h=>(oC h (fun _ h=>(oC h (fun b_61 h=>(oC h (fun _ h=>⟨(ay h_tables b.2.1),⟨h_b.2.2.1,(oC h (fun _ h=>⟨(jD (bnf (bgt b_61))),⟨(ov (bnf (bgt b_61))),⟨(ay h_tables b.2.2.2.1),⟨h_b.2.2.2.2.1,(oC h (fun _ h=>(oC h (fun _ h=>h) fun _ h=>(aD (fun m hm=>⟨trivial,hm⟩) Z0 _ rfl (Int.natCast_nonneg 0) trivial (aF h (fun v1 h hv1=>h) (fun q1 h=>h))))) fun _ h=>h)⟩⟩⟩⟩) fun _ h=>h)⟩⟩) fun _ h=>h)) fun _ h=>h)) fun _ h=>h))))⟩⟩)
def c140:Con:=⟨[.dat TBond,.any],fun args hp K=>g2 (pD TBond) (pR TTb) (fun b tables=>(Sm TBond b)/\(Sm TTb tables)/\K (dB (!M.aX tables b)) []) args hp,.plain,false⟩
abbrev C140:Ctx:=cx [(141,c141)] 8 [] 0 false
def ann140:=an [[.fixRow 2 TBond,kp 6],[kp 8]] []
theorem vc140 (b:TBond.D) (tables:LTb) (K:KA):vcT C140 aq ann140 f140 [.data TBond b,.ref (.data TTb tables)] [] (.dat Ty.bool) K =
 ((Sm TTb tables)/\(Sm TBond b)/\K (dB (!(M.aX tables b))) []):=by kernel_rfl
theorem con140_ok:aN P 140 c140:=aP C140 func140 (kC con141_ok kN) fun args hp K h0=>by
 obtain⟨b,tables,rfl,rfl,h_b,h_tables,hK⟩:=g2e h0
 have h:ok (F.qV b tables) (fun r=>K (dB r) []):=ak (F.vg b tables h_b h_tables) hK
 refine⟨rfl,ann140,aq,(.dat Ty.bool),(az (by kernel_rfl)),?_⟩
 ·rw[vc140]
  exact⟨h_tables,⟨h_b,h⟩⟩
def c84:Con:=⟨[.dat (Ty.sl TBond),.any],fun args hp K=>(args2 (fun a0 a1=>iY (Ty.sl TBond) a0 fun xs=>gC 119 a1 (oM (fun b1_0=>lD TTb b1_0 fun k0=>(Sm (Ty.sl TBond) xs)/\(Sm TTb k0)/\(∀e∈xs,(M.aA k0&&M.aX k0 e)=true)/\K (dI (M.idx (t:=TBond) (fun e=>decide (0<=M.broken k0 e)) xs)) []))) args hp)\/(args2 (fun a0 a1=>iY (Ty.sl TBond) a0 fun xs=>gC 140 a1 (oM (fun b1_0=>lD TTb b1_0 fun k0=>(Sm (Ty.sl TBond) xs)/\(Sm TTb k0)/\K (dI (M.idx (t:=TBond) (fun e=>!M.aX k0 e) xs)) []))) args hp),.bor,false⟩
abbrev C84:Ctx:=cx [(119,c119),(140,c140)] 19 [] 0 false
def ann84_v0:=an [[kp 3],[kp 387],[kp 899],[kp 419],[kp 65955],[kp 16],[kp 387],[kp 16]] [[kp 0]]
abbrev s84_0_v0 (xs:(List TBond.D)) (k0:LTb) (i0:Int) (v0:Unit):St:=⟨[(0,.data (Ty.sl TBond) xs),(1,.fn 119 [.ref (.data TTb k0)]),(7,dI (xs.length:Int)),(8,dI i0)],[]⟩
abbrev LP84_0_v0 (xs:(List TBond.D)) (k0:LTb) (m:Nat) (st_:St) (K:KX):Prop:=True/\aY (s84_0_v0 xs k0) Z0 (xs.length:Int) (F.dg xs k0) (fun v0:Unit=>True) (aR (fun v0:Unit=>True->K (.exit 0) (⟨[],[]⟩:St)) (fun q0:Int=>K .ret (⟨[(4,dI q0)],[]⟩:St))) m st_
def L84_v0 (xs:(List TBond.D)) (k0:LTb):aW:=lp1 0 (LP84_0_v0 xs k0)
theorem vc84_v0 (xs:(List TBond.D)) (k0:LTb) (K:KA):vcT C84 (L84_v0 xs k0) ann84_v0 f84 [.data (Ty.sl TBond) xs,.fn 119 [.ref (.data TTb k0)]] [] (.dat au) K =
 (∃m_,True/\aY (s84_0_v0 xs k0) Z0 (xs.length:Int) (F.dg xs k0) (fun v0:Unit=>True) (aR (fun v0:Unit=>True->K (dI (-1:Int)) []) (fun q0:Int=>K (dI q0) [])) m_ (s84_0_v0 xs k0 Z0 ())):=by kernel_rfl
theorem lvc84_0_v0 (xs:(List TBond.D)) (k0:LTb)  (i0:Int) (v0:Unit) (m:Nat) (K:KX):lvT C84 (L84_v0 xs k0) ann84_v0 f84 0 0 (s84_0_v0 xs k0 i0 v0) m K =
 (cond (decide (i0<(xs.length:Int))) ((0<=i0)/\(i0<(xs.length:Int))/\(Sm TBond (nth (t:=TBond) xs i0))/\(Sm TTb k0)/\((M.aA k0&&M.aX k0 (nth (t:=TBond) xs i0))=true)/\cond (decide (0<=M.broken k0 (nth (t:=TBond) xs i0))) (K .ret (⟨[(4,dI i0)],[]⟩:St)) (nxT (LP84_0_v0 xs k0) m K (s84_0_v0 xs k0 (wrap64 (i0+Z1)) ()))) (K (.exit 0) (⟨[],[]⟩:St))):=by kernel_rfl
def ann84_v1:=an [[kp 3],[kp 387],[kp 899],[kp 419],[kp 65955],[kp 16],[kp 387],[kp 16]] [[kp 0]]
abbrev s84_0_v1 (xs:(List TBond.D)) (k0:LTb) (i0:Int) (v0:Unit):St:=⟨[(0,.data (Ty.sl TBond) xs),(1,.fn 140 [.ref (.data TTb k0)]),(7,dI (xs.length:Int)),(8,dI i0)],[]⟩
abbrev LP84_0_v1 (xs:(List TBond.D)) (k0:LTb) (m:Nat) (st_:St) (K:KX):Prop:=True/\aY (s84_0_v1 xs k0) Z0 (xs.length:Int) (F.cG xs k0) (fun v0:Unit=>True) (aR (fun v0:Unit=>True->K (.exit 0) (⟨[],[]⟩:St)) (fun q0:Int=>K .ret (⟨[(4,dI q0)],[]⟩:St))) m st_
def L84_v1 (xs:(List TBond.D)) (k0:LTb):aW:=lp1 0 (LP84_0_v1 xs k0)
theorem vc84_v1 (xs:(List TBond.D)) (k0:LTb) (K:KA):vcT C84 (L84_v1 xs k0) ann84_v1 f84 [.data (Ty.sl TBond) xs,.fn 140 [.ref (.data TTb k0)]] [] (.dat au) K =
 (∃m_,True/\aY (s84_0_v1 xs k0) Z0 (xs.length:Int) (F.cG xs k0) (fun v0:Unit=>True) (aR (fun v0:Unit=>True->K (dI (-1:Int)) []) (fun q0:Int=>K (dI q0) [])) m_ (s84_0_v1 xs k0 Z0 ())):=by kernel_rfl
theorem lvc84_0_v1 (xs:(List TBond.D)) (k0:LTb)  (i0:Int) (v0:Unit) (m:Nat) (K:KX):lvT C84 (L84_v1 xs k0) ann84_v1 f84 0 0 (s84_0_v1 xs k0 i0 v0) m K =
 (cond (decide (i0<(xs.length:Int))) ((0<=i0)/\(i0<(xs.length:Int))/\(Sm TBond (nth (t:=TBond) xs i0))/\(Sm TTb k0)/\cond (!M.aX k0 (nth (t:=TBond) xs i0)) (K .ret (⟨[(4,dI i0)],[]⟩:St)) (nxT (LP84_0_v1 xs k0) m K (s84_0_v1 xs k0 (wrap64 (i0+Z1)) ()))) (K (.exit 0) (⟨[],[]⟩:St))):=by kernel_rfl
theorem con84_ok:aN P 84 c84:=aP C84 func84 (kC con119_ok (kC con140_ok kN)) fun args hp K h0=>by
 rcases h0 with h0 | h0
 ·obtain⟨a0,a1,rfl,rfl,h1⟩:=bt h0
  obtain⟨xs,rfl,h2⟩:=bV h1
  obtain⟨cs1,rfl,h3⟩:=bN h2
  obtain⟨b1_0,rfl,h4⟩:=dV h3
  obtain⟨k0,rfl,h5⟩:=cK h4
  obtain⟨h_xs,h_k0,p0,hK⟩:=h5
  have h:ok (F.jw xs k0) (fun r=>K (dI r) []):=ak (F.nL xs k0 h_xs h_k0 p0) hK
  refine⟨rfl,ann84_v0,(L84_v0 xs k0),(.dat au),(aI (i0:=0) (by kernel_rfl) ?_),?_⟩
  ·rintro _ _ K ⟨hc0,i0,v0,rfl,hl0,rfl,hv0,h⟩
   exact cast (lvc84_0_v0 _ _ _ _ _ _).symm (aL h (fun ht0 h=>⟨hl0,⟨ht0,⟨(ay h_xs i0),⟨h_k0,(oG h fun _ h=>(oC h (fun _ h=>h) fun _ h=>(aE (fun _ hm=>⟨hc0,hm⟩) _ rfl hl0 dG ht0 (aM h_xs) trivial h)))⟩⟩⟩⟩) fun h=>(h trivial))
  ·rw[vc84_v0]
   exact(aD (fun m hm=>⟨trivial,hm⟩) Z0 _ rfl (Int.natCast_nonneg 0) trivial (aF h (fun v0 h hv0=>h) (fun q0 h=>h)))
 ·obtain⟨a0,a1,rfl,rfl,h1⟩:=bt h0
  obtain⟨xs,rfl,h2⟩:=bV h1
  obtain⟨cs1,rfl,h3⟩:=bN h2
  obtain⟨b1_0,rfl,h4⟩:=dV h3
  obtain⟨k0,rfl,h5⟩:=cK h4
  obtain⟨h_xs,h_k0,hK⟩:=h5
  have h:ok (F.iu xs k0) (fun r=>K (dI r) []):=ak (F.lJ xs k0 h_xs h_k0) hK
  refine⟨rfl,ann84_v1,(L84_v1 xs k0),(.dat au),(aI (i0:=0) (by kernel_rfl) ?_),?_⟩
  ·rintro _ _ K ⟨hc0,i0,v0,rfl,hl0,rfl,hv0,h⟩
   exact cast (lvc84_0_v1 _ _ _ _ _ _).symm (aL h (fun ht0 h=>⟨hl0,⟨ht0,⟨(ay h_xs i0),⟨h_k0,(oC h (fun _ h=>h) fun _ h=>(aE (fun _ hm=>⟨hc0,hm⟩) _ rfl hl0 dG ht0 (aM h_xs) trivial h))⟩⟩⟩⟩) fun h=>(h trivial))
  ·rw[vc84_v1]
   exact(aD (fun m hm=>⟨trivial,hm⟩) Z0 _ rfl (Int.natCast_nonneg 0) trivial (aF h (fun v0 h hv0=>h) (fun q0 h=>h)))
def c118:Con:=⟨[.dat (Ty.sl TBond),.any],fun args hp K=>(args2 (fun a0 a1=>iY (Ty.sl TBond) a0 fun xs=>gC 119 a1 (oM (fun b1_0=>lD TTb b1_0 fun k0=>(Sm (Ty.sl TBond) xs)/\(Sm TTb k0)/\(∀e∈xs,(M.aA k0&&M.aX k0 e)=true)/\K (dB (List.any xs (fun e=>decide (0<=M.broken k0 e)))) []))) args hp)\/(args2 (fun a0 a1=>iY (Ty.sl TBond) a0 fun xs=>gC 140 a1 (oM (fun b1_0=>lD TTb b1_0 fun k0=>(Sm (Ty.sl TBond) xs)/\(Sm TTb k0)/\K (dB (List.any xs (fun e=>!M.aX k0 e))) []))) args hp),.bor,false⟩
abbrev C118:Ctx:=cx [(84,c84),(119,c119),(140,c140)] 9 [] 0 false
def ann118_v0:=an [[kp 3],[kp 16]] []
theorem vc118_v0 (xs:(List TBond.D)) (k0:LTb) (K:KA):vcT C118 aq ann118_v0 f118 [.data (Ty.sl TBond) xs,.fn 119 [.ref (.data TTb k0)]] [] (.dat Ty.bool) K =
 (((Sm (Ty.sl TBond) xs)/\(Sm TTb k0)/\(∀e∈xs,(M.aA k0&&M.aX k0 e)=true)/\K (dB (decide (Z0<=(M.idx (t:=TBond) (fun e=>decide (0<=M.broken k0 e)) xs)))) [])\/False):=by kernel_rfl
def ann118_v1:=an [[kp 3],[kp 16]] []
theorem vc118_v1 (xs:(List TBond.D)) (k0:LTb) (K:KA):vcT C118 aq ann118_v1 f118 [.data (Ty.sl TBond) xs,.fn 140 [.ref (.data TTb k0)]] [] (.dat Ty.bool) K =
 (False\/((Sm (Ty.sl TBond) xs)/\(Sm TTb k0)/\K (dB (decide (Z0<=(M.idx (t:=TBond) (fun e=>!M.aX k0 e) xs)))) [])):=by kernel_rfl
theorem con118_ok:aN P 118 c118:=aP C118 func118 (kC con84_ok (kC con119_ok (kC con140_ok kN))) fun args hp K h0=>by
 rcases h0 with h0 | h0
 ·obtain⟨a0,a1,rfl,rfl,h1⟩:=bt h0
  obtain⟨xs,rfl,h2⟩:=bV h1
  obtain⟨cs1,rfl,h3⟩:=bN h2
  obtain⟨b1_0,rfl,h4⟩:=dV h3
  obtain⟨k0,rfl,h5⟩:=cK h4
  obtain⟨h_xs,h_k0,p0,hK⟩:=h5
  have h:ok (F.eL xs k0) (fun r=>K (dB r) []):=ak (F.lF xs k0 h_xs h_k0 p0) hK
  refine⟨rfl,ann118_v0,aq,(.dat Ty.bool),(az (by kernel_rfl)),?_⟩
  ·rw[vc118_v0]
   exact(Or.inl (⟨h_xs,⟨h_k0,⟨p0,h⟩⟩⟩))
 ·obtain⟨a0,a1,rfl,rfl,h1⟩:=bt h0
  obtain⟨xs,rfl,h2⟩:=bV h1
  obtain⟨cs1,rfl,h3⟩:=bN h2
  obtain⟨b1_0,rfl,h4⟩:=dV h3
  obtain⟨k0,rfl,h5⟩:=cK h4
  obtain⟨h_xs,h_k0,hK⟩:=h5
  have h:ok (F.dK xs k0) (fun r=>K (dB r) []):=ak (F.jH xs k0 h_xs h_k0) hK
  refine⟨rfl,ann118_v1,aq,(.dat Ty.bool),(az (by kernel_rfl)),?_⟩
  ·rw[vc118_v1]
   exact(Or.inr (⟨h_xs,⟨h_k0,h⟩⟩))
end Go.AE
