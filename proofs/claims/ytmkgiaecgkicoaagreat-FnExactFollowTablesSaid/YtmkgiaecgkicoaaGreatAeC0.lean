/- Contracts. -/
import Derived.Test.YtmkgiaecgkicoaaGreatAeSeat
import Derived.Test.YtmkgiaecgkicoaaGreatAeEq
import Derived.Test.YtmkgiaecgkicoaaGreatAeDel
namespace Go.AE
open Go Go.RowKit Go.Proofs.Tryz
set_option maxRecDepth 100000
set_option maxHeartbeats 2000000
set_option linter.unusedVariables false
abbrev Q0 (p:Prop):Prop:=(p/\p)
theorem q0 {p:Prop} (h:p):Q0 p:=⟨h,h⟩
def c104:Con:=⟨[.dat TCS,.dat au],fun args hp K=>g2 (pD TCS) (pD au) (fun x left=>(Ln TCS x)/\(0<=left)/\(left<=1048576)/\K (dI (M.bE x.length left)) []) args hp,.plain,false⟩
abbrev C104:Ctx:=cx [] 12 [] 0 false
def ann104:=an [[kp 3],[kp 2],[kp 1026],[kp 16],[kp 16]] []
theorem vc104 (x:LC) (left:Int) (K:KA):vcT C104 aq ann104 f104 [.data TCS x,dI left] [] (.dat au) K =
 (cond (decide (wrap64 (left-(x.length:Int))<Z0)) (K (dI (-1:Int)) []) (K (dI (wrap64 (left-(x.length:Int)))) [])):=by kernel_rfl
theorem con104_ok:aP P 104 c104:=aR C104 func104 kN fun args hp K h0=>by
 obtain⟨x,left,rfl,rfl,h_x,p0,p1,hK⟩:=g2e h0
 have h:ok (F.mH x left) (fun r=>K (dI r) []):=ak (F.vl x left h_x p0 p1) hK
 refine⟨rfl,ann104,aq,(.dat au),(az (by kernel_rfl)),?_⟩
 ·rw[vc104]
  exact(oC h (fun _ h=>h) fun _ h=>h)
def c148:Con:=⟨[.dat aa,.dat au],fun args hp K=>g2 (pD aa) (pD au) (fun x left=>(Ln aa x)/\(0<=left)/\(left<=1048576)/\K (dI (M.bM x left)) []) args hp,.plain,false⟩
abbrev C148:Ctx:=cx [] 13 [] 0 false
def ann148:=an [[.fixRow 2 aa,kp 6],[kp 2],[kp 2050],[kp 16],[kp 16]] []
theorem vc148 (x:aa.D) (left:Int) (K:KA):vcT C148 aq ann148 f148 [.data aa x,dI left] [] (.dat au) K =
 (cond (decide (wrap64 (left-(x.2.2.1.size:Int))<Z0)) (K (dI (-1:Int)) []) (K (dI (wrap64 (left-(x.2.2.1.size:Int)))) [])):=by kernel_rfl
theorem con148_ok:aP P 148 c148:=aR C148 func148 kN fun args hp K h0=>by
 obtain⟨x,left,rfl,rfl,h_x,p0,p1,hK⟩:=g2e h0
 have h:ok (F.pF x left) (fun r=>K (dI r) []):=ak (F.yu x left h_x p0 p1) hK
 refine⟨rfl,ann148,aq,(.dat au),(az (by kernel_rfl)),?_⟩
 ·rw[vc148]
  exact(oC h (fun _ h=>h) fun _ h=>h)
def c81:Con:=⟨[.dat TVS,.dat au],fun args hp K=>g2 (pD TVS) (pD au) (fun x left=>(Ln TVS x)/\(0<=left)/\(left<=1048576)/\K (dI (M.szS M.bM x left)) []) args hp,.plain,false⟩
abbrev C81:Ctx:=cx [(148,c148)] 27 [] 0 false
def ann81:=an [[kp 3],[kp 3],[kp 2051],[kp 16],[kp 35],[kp 32803],[kp 35],[kp 35],[kp 33554467],[kp 16],[kp 16]] [[kp 2]]
abbrev s81_0 (x:LV) (left:Int) (i0:Int) (v0:Int):St:=⟨[(0,.data TVS x),(1,dI v0),(5,dI i0)],[]⟩
abbrev LP81_0 (x:LV) (left:Int) (m:Nat) (st_:St) (K:KX):Prop:=True/\bO (t:=aa) (s81_0 x left) x (F.gP x left) (fun v0:Int=>True) (aU (fun v0:Int=>True->K (.exit 0) (⟨[(1,dI v0)],[]⟩:St)) (fun q0:Unit=>K .ret (⟨[(4,dI (-1:Int))],[]⟩:St))) m st_
def L81 (x:LV) (left:Int):aX:=lp1 0 (LP81_0 x left)
theorem vc81 (x:LV) (left:Int) (K:KA):vcT C81 (L81 x left) ann81 f81 [.data TVS x,dI left] [] (.dat au) K =
 (cond (decide (wrap64 (left-(x.length:Int))<Z0)) (K (dI (-1:Int)) []) (∃m_,True/\bO (t:=aa) (s81_0 x left) x (F.gP x left) (fun v0:Int=>True) (aU (fun v0:Int=>True->K (dI v0) []) (fun q0:Unit=>K (dI (-1:Int)) [])) m_ (s81_0 x left Z0 (wrap64 (left-(x.length:Int)))))):=by kernel_rfl
theorem lvc81_0 (x:LV) (left:Int)  (i0:Int) (v0:Int) (m:Nat) (K:KX):lvT C81 (L81 x left) ann81 f81 0 0 (s81_0 x left i0 v0) m K =
 (cond (decide (i0<(x.length:Int))) ((0<=i0)/\(i0<(x.length:Int))/\(Ln aa (nV x i0))/\(0<=v0)/\(v0<=1048576)/\cond (decide ((M.bM (nV x i0) v0)<Z0)) (K .ret (⟨[(4,dI (-1:Int))],[]⟩:St)) (nxT (LP81_0 x left) m K (s81_0 x left (wrap64 (i0+Z1)) (M.bM (nV x i0) v0)))) (K (.exit 0) (⟨[(1,dI v0)],[]⟩:St))):=by kernel_rfl
theorem con81_ok:aP P 81 c81:=aR C81 func81 (kC con148_ok kN) fun args hp K h0=>by
 obtain⟨x,left,rfl,rfl,h_x,p0,p1,hK⟩:=g2e h0
 have h:ok (F.nH x left) (fun r=>K (dI r) []):=ak (F.wF x left h_x p0 p1) hK
 refine⟨rfl,ann81,(L81 x left),(.dat au),(aL (i0:=0) (by kernel_rfl) ?_),?_⟩
 ·rintro _ _ K ⟨hc0,i0,v0,rfl,hl0,rfl,hv0,h⟩
  exact cast (lvc81_0 _ _ _ _ _ _).symm (bw (t:=aa) hl0 h (fun ht0 h=>⟨hl0,⟨ht0,⟨(ay h_x i0),(oG h fun _ h=>(oG h fun _ h=>(oC h (fun _ h=>h) fun _ h=>(br (t:=aa) (fun _ hm=>⟨hc0,hm⟩) _ rfl hl0 ht0 (aS h_x) trivial h))))⟩⟩⟩) fun h=>(h trivial))
 ·rw[vc81]
  exact(oC h (fun _ h=>h) fun _ h=>(bp (t:=aa) (fun m hm=>⟨trivial,hm⟩) _ rfl trivial (aI h (fun v0 h hv0=>h) (fun q0 h=>h))))
def c105:Con:=⟨[.dat (Ty.sl TVS),.dat au],fun args hp K=>g2 (pD (Ty.sl TVS)) (pD au) (fun x left=>(Ln (Ty.sl TVS) x)/\(0<=left)/\(left<=1048576)/\K (dI (M.szS (M.szS M.bM) x left)) []) args hp,.plain,false⟩
abbrev C105:Ctx:=cx [(81,c81)] 27 [] 0 false
def ann105:=an [[kp 3],[kp 3],[kp 2051],[kp 16],[kp 35],[kp 32803],[kp 35],[kp 35],[kp 33554467],[kp 16],[kp 16]] [[kp 2]]
abbrev s105_0 (x:(List LV)) (left:Int) (i0:Int) (v0:Int):St:=⟨[(0,.data (Ty.sl TVS) x),(1,dI v0),(5,dI i0)],[]⟩
abbrev LP105_0 (x:(List LV)) (left:Int) (m:Nat) (st_:St) (K:KX):Prop:=True/\bO (t:=TVS) (s105_0 x left) x (F.gi x left) (fun v0:Int=>True) (aU (fun v0:Int=>True->K (.exit 0) (⟨[(1,dI v0)],[]⟩:St)) (fun q0:Unit=>K .ret (⟨[(4,dI (-1:Int))],[]⟩:St))) m st_
def L105 (x:(List LV)) (left:Int):aX:=lp1 0 (LP105_0 x left)
theorem vc105 (x:(List LV)) (left:Int) (K:KA):vcT C105 (L105 x left) ann105 f105 [.data (Ty.sl TVS) x,dI left] [] (.dat au) K =
 (cond (decide (wrap64 (left-(x.length:Int))<Z0)) (K (dI (-1:Int)) []) (∃m_,True/\bO (t:=TVS) (s105_0 x left) x (F.gi x left) (fun v0:Int=>True) (aU (fun v0:Int=>True->K (dI v0) []) (fun q0:Unit=>K (dI (-1:Int)) [])) m_ (s105_0 x left Z0 (wrap64 (left-(x.length:Int)))))):=by kernel_rfl
theorem lvc105_0 (x:(List LV)) (left:Int)  (i0:Int) (v0:Int) (m:Nat) (K:KX):lvT C105 (L105 x left) ann105 f105 0 0 (s105_0 x left i0 v0) m K =
 (cond (decide (i0<(x.length:Int))) ((0<=i0)/\(i0<(x.length:Int))/\(Ln TVS (nth (t:=TVS) x i0))/\(0<=v0)/\(v0<=1048576)/\cond (decide ((M.szS M.bM (nth (t:=TVS) x i0) v0)<Z0)) (K .ret (⟨[(4,dI (-1:Int))],[]⟩:St)) (nxT (LP105_0 x left) m K (s105_0 x left (wrap64 (i0+Z1)) (M.szS M.bM (nth (t:=TVS) x i0) v0)))) (K (.exit 0) (⟨[(1,dI v0)],[]⟩:St))):=by kernel_rfl
theorem con105_ok:aP P 105 c105:=aR C105 func105 (kC con81_ok kN) fun args hp K h0=>by
 obtain⟨x,left,rfl,rfl,h_x,p0,p1,hK⟩:=g2e h0
 have h:ok (F.mR x left) (fun r=>K (dI r) []):=ak (F.uw x left h_x p0 p1) hK
 refine⟨rfl,ann105,(L105 x left),(.dat au),(aL (i0:=0) (by kernel_rfl) ?_),?_⟩
 ·rintro _ _ K ⟨hc0,i0,v0,rfl,hl0,rfl,hv0,h⟩
  exact cast (lvc105_0 _ _ _ _ _ _).symm (bw (t:=TVS) hl0 h (fun ht0 h=>⟨hl0,⟨ht0,⟨(ay h_x i0),(oG h fun _ h=>(oG h fun _ h=>(oC h (fun _ h=>h) fun _ h=>(br (t:=TVS) (fun _ hm=>⟨hc0,hm⟩) _ rfl hl0 ht0 (aS h_x) trivial h))))⟩⟩⟩) fun h=>(h trivial))
 ·rw[vc105]
  exact(oC h (fun _ h=>h) fun _ h=>(bp (t:=TVS) (fun m hm=>⟨trivial,hm⟩) _ rfl trivial (aI h (fun v0 h hv0=>h) (fun q0 h=>h))))
def c46:Con:=⟨[.dat TTable,.dat au],fun args hp K=>g2 (pD TTable) (pD au) (fun x left=>(Ln TTable x)/\(0<=left)/\(left<=1048576)/\K (dI (M.bH x left)) []) args hp,.plain,false⟩
abbrev C46:Ctx:=cx [(104,c104),(105,c105)] 18 [] 0 false
def ann46:=an [[.fixRow 2 TTable,kp 6],[kp 6],[kp 1030],[kp 16],[kp 2],[kp 65538],[kp 16],[kp 16]] []
theorem vc46 (x:TTable.D) (left:Int) (K:KA):vcT C46 aq ann46 f46 [.data TTable x,dI left] [] (.dat au) K =
 ((Ln TCS x.1)/\(0<=left)/\(left<=1048576)/\cond (decide ((M.bE x.1.length left)<Z0)) (K (dI (-1:Int)) []) ((Ln (Ty.sl TVS) x.2.1)/\(0<=(M.bE x.1.length left))/\((M.bE x.1.length left)<=1048576)/\cond (decide ((M.szS (M.szS M.bM) x.2.1 (M.bE x.1.length left))<Z0)) (K (dI (-1:Int)) []) (K (dI (M.szS (M.szS M.bM) x.2.1 (M.bE x.1.length left))) []))):=by kernel_rfl
theorem con46_ok:aP P 46 c46:=aR C46 func46 (kC con104_ok (kC con105_ok kN)) fun args hp K h0=>by
 obtain⟨x,left,rfl,rfl,h_x,p0,p1,hK⟩:=g2e h0
 have h:ok (F.oY x left) (fun r=>K (dI r) []):=ak (F.yI x left h_x p0 p1) hK
 refine⟨rfl,ann46,aq,(.dat au),(az (by kernel_rfl)),?_⟩
 ·rw[vc46]
  exact⟨h_x.1,⟨p0,⟨p1,(oC h (fun _ h=>h) fun _ h=>⟨h_x.2.1,(oG h fun _ h=>(oG h fun _ h=>(oC h (fun _ h=>h) fun _ h=>h)))⟩)⟩⟩⟩
def c9:Con:=⟨[.dat TTb,.dat au],fun args hp K=>g2 (pD TTb) (pD au) (fun x left=>(Ln TTb x)/\(0<=left)/\(left<=1048576)/\K (dI (M.szS M.bH x left)) []) args hp,.plain,false⟩
abbrev C9:Ctx:=cx [(46,c46)] 27 [] 0 false
def ann9:=an [[kp 3],[kp 3],[kp 2051],[kp 16],[kp 35],[kp 32803],[kp 35],[kp 35],[kp 33554467],[kp 16],[kp 16]] [[kp 2]]
abbrev s9_0 (x:LTb) (left:Int) (i0:Int) (v0:Int):St:=⟨[(0,.data TTb x),(1,dI v0),(5,dI i0)],[]⟩
abbrev LP9_0 (x:LTb) (left:Int) (m:Nat) (st_:St) (K:KX):Prop:=True/\bO (t:=TTable) (s9_0 x left) x (F.gZ x left) (fun v0:Int=>True) (aU (fun v0:Int=>True->K (.exit 0) (⟨[(1,dI v0)],[]⟩:St)) (fun q0:Unit=>K .ret (⟨[(4,dI (-1:Int))],[]⟩:St))) m st_
def L9 (x:LTb) (left:Int):aX:=lp1 0 (LP9_0 x left)
theorem vc9 (x:LTb) (left:Int) (K:KA):vcT C9 (L9 x left) ann9 f9 [.data TTb x,dI left] [] (.dat au) K =
 (cond (decide (wrap64 (left-(x.length:Int))<Z0)) (K (dI (-1:Int)) []) (∃m_,True/\bO (t:=TTable) (s9_0 x left) x (F.gZ x left) (fun v0:Int=>True) (aU (fun v0:Int=>True->K (dI v0) []) (fun q0:Unit=>K (dI (-1:Int)) [])) m_ (s9_0 x left Z0 (wrap64 (left-(x.length:Int)))))):=by kernel_rfl
theorem lvc9_0 (x:LTb) (left:Int)  (i0:Int) (v0:Int) (m:Nat) (K:KX):lvT C9 (L9 x left) ann9 f9 0 0 (s9_0 x left i0 v0) m K =
 (cond (decide (i0<(x.length:Int))) ((0<=i0)/\(i0<(x.length:Int))/\(Ln TTable (nT x i0))/\(0<=v0)/\(v0<=1048576)/\cond (decide ((M.bH (nT x i0) v0)<Z0)) (K .ret (⟨[(4,dI (-1:Int))],[]⟩:St)) (nxT (LP9_0 x left) m K (s9_0 x left (wrap64 (i0+Z1)) (M.bH (nT x i0) v0)))) (K (.exit 0) (⟨[(1,dI v0)],[]⟩:St))):=by kernel_rfl
theorem con9_ok:aP P 9 c9:=aR C9 func9 (kC con46_ok kN) fun args hp K h0=>by
 obtain⟨x,left,rfl,rfl,h_x,p0,p1,hK⟩:=g2e h0
 have h:ok (F.oA x left) (fun r=>K (dI r) []):=ak (F.we x left h_x p0 p1) hK
 refine⟨rfl,ann9,(L9 x left),(.dat au),(aL (i0:=0) (by kernel_rfl) ?_),?_⟩
 ·rintro _ _ K ⟨hc0,i0,v0,rfl,hl0,rfl,hv0,h⟩
  exact cast (lvc9_0 _ _ _ _ _ _).symm (bw (t:=TTable) hl0 h (fun ht0 h=>⟨hl0,⟨ht0,⟨(ay h_x i0),(oG h fun _ h=>(oG h fun _ h=>(oC h (fun _ h=>h) fun _ h=>(br (t:=TTable) (fun _ hm=>⟨hc0,hm⟩) _ rfl hl0 ht0 (aS h_x) trivial h))))⟩⟩⟩) fun h=>(h trivial))
 ·rw[vc9]
  exact(oC h (fun _ h=>h) fun _ h=>(bp (t:=TTable) (fun m hm=>⟨trivial,hm⟩) _ rfl trivial (aI h (fun v0 h hv0=>h) (fun q0 h=>h))))
def c106:Con:=⟨[.dat (Ty.sl au),.dat au],fun args hp K=>g2 (pD (Ty.sl au)) (pD au) (fun x left=>(Ln (Ty.sl au) x)/\(0<=left)/\(left<=1048576)/\K (dI (M.bE x.length left)) []) args hp,.plain,false⟩
abbrev C106:Ctx:=cx [] 12 [] 0 false
def ann106:=an [[kp 3],[kp 2],[kp 1026],[kp 16],[kp 16]] []
theorem vc106 (x:LI) (left:Int) (K:KA):vcT C106 aq ann106 f106 [.data (Ty.sl au) x,dI left] [] (.dat au) K =
 (cond (decide (wrap64 (left-(x.length:Int))<Z0)) (K (dI (-1:Int)) []) (K (dI (wrap64 (left-(x.length:Int)))) [])):=by kernel_rfl
theorem con106_ok:aP P 106 c106:=aR C106 func106 kN fun args hp K h0=>by
 obtain⟨x,left,rfl,rfl,h_x,p0,p1,hK⟩:=g2e h0
 have h:ok (F.rN x left) (fun r=>K (dI r) []):=ak (F.Al x left h_x p0 p1) hK
 refine⟨rfl,ann106,aq,(.dat au),(az (by kernel_rfl)),?_⟩
 ·rw[vc106]
  exact(oC h (fun _ h=>h) fun _ h=>h)
def c177:Con:=⟨[.dat ax,.dat au],fun args hp K=>g2 (pD ax) (pD au) (fun x left=>(Ln ax x)/\(0<=left)/\(left<=1048576)/\K (dI (M.gy x left)) []) args hp,.plain,false⟩
abbrev C177:Ctx:=cx [(148,c148)] 12 [] 0 false
def ann177:=an [[.fixRow 2 ax,kp 6],[kp 2],[kp 1026],[kp 16],[kp 16]] []
theorem vc177 (x:ax.D) (left:Int) (K:KA):vcT C177 aq ann177 f177 [.data ax x,dI left] [] (.dat au) K =
 ((Ln aa x.2.2.1)/\(0<=left)/\(left<=1048576)/\cond (decide ((M.bM x.2.2.1 left)<Z0)) (K (dI (-1:Int)) []) (K (dI (M.bM x.2.2.1 left)) [])):=by kernel_rfl
theorem con177_ok:aP P 177 c177:=aR C177 func177 (kC con148_ok kN) fun args hp K h0=>by
 obtain⟨x,left,rfl,rfl,h_x,p0,p1,hK⟩:=g2e h0
 have h:ok (F.qH x left) (fun r=>K (dI r) []):=ak (F.zN x left h_x p0 p1) hK
 refine⟨rfl,ann177,aq,(.dat au),(az (by kernel_rfl)),?_⟩
 ·rw[vc177]
  exact⟨h_x.2.2.1,⟨p0,⟨p1,(oC h (fun _ h=>h) fun _ h=>h)⟩⟩⟩
def c107:Con:=⟨[.dat TPS,.dat au],fun args hp K=>g2 (pD TPS) (pD au) (fun x left=>(Ln TPS x)/\(0<=left)/\(left<=1048576)/\K (dI (M.szS M.gy x left)) []) args hp,.plain,false⟩
abbrev C107:Ctx:=cx [(177,c177)] 27 [] 0 false
def ann107:=an [[kp 3],[kp 3],[kp 2051],[kp 16],[kp 35],[kp 32803],[kp 35],[kp 35],[kp 33554467],[kp 16],[kp 16]] [[kp 2]]
abbrev s107_0 (x:LPt) (left:Int) (i0:Int) (v0:Int):St:=⟨[(0,.data TPS x),(1,dI v0),(5,dI i0)],[]⟩
abbrev LP107_0 (x:LPt) (left:Int) (m:Nat) (st_:St) (K:KX):Prop:=True/\bO (t:=ax) (s107_0 x left) x (F.iG x left) (fun v0:Int=>True) (aU (fun v0:Int=>True->K (.exit 0) (⟨[(1,dI v0)],[]⟩:St)) (fun q0:Unit=>K .ret (⟨[(4,dI (-1:Int))],[]⟩:St))) m st_
def L107 (x:LPt) (left:Int):aX:=lp1 0 (LP107_0 x left)
theorem vc107 (x:LPt) (left:Int) (K:KA):vcT C107 (L107 x left) ann107 f107 [.data TPS x,dI left] [] (.dat au) K =
 (cond (decide (wrap64 (left-(x.length:Int))<Z0)) (K (dI (-1:Int)) []) (∃m_,True/\bO (t:=ax) (s107_0 x left) x (F.iG x left) (fun v0:Int=>True) (aU (fun v0:Int=>True->K (dI v0) []) (fun q0:Unit=>K (dI (-1:Int)) [])) m_ (s107_0 x left Z0 (wrap64 (left-(x.length:Int)))))):=by kernel_rfl
theorem lvc107_0 (x:LPt) (left:Int)  (i0:Int) (v0:Int) (m:Nat) (K:KX):lvT C107 (L107 x left) ann107 f107 0 0 (s107_0 x left i0 v0) m K =
 (cond (decide (i0<(x.length:Int))) ((0<=i0)/\(i0<(x.length:Int))/\(Ln ax (nP x i0))/\(0<=v0)/\(v0<=1048576)/\cond (decide ((M.gy (nP x i0) v0)<Z0)) (K .ret (⟨[(4,dI (-1:Int))],[]⟩:St)) (nxT (LP107_0 x left) m K (s107_0 x left (wrap64 (i0+Z1)) (M.gy (nP x i0) v0)))) (K (.exit 0) (⟨[(1,dI v0)],[]⟩:St))):=by kernel_rfl
theorem con107_ok:aP P 107 c107:=aR C107 func107 (kC con177_ok kN) fun args hp K h0=>by
 obtain⟨x,left,rfl,rfl,h_x,p0,p1,hK⟩:=g2e h0
 have h:ok (F.pI x left) (fun r=>K (dI r) []):=ak (F.yA x left h_x p0 p1) hK
 refine⟨rfl,ann107,(L107 x left),(.dat au),(aL (i0:=0) (by kernel_rfl) ?_),?_⟩
 ·rintro _ _ K ⟨hc0,i0,v0,rfl,hl0,rfl,hv0,h⟩
  exact cast (lvc107_0 _ _ _ _ _ _).symm (bw (t:=ax) hl0 h (fun ht0 h=>⟨hl0,⟨ht0,⟨(ay h_x i0),(oG h fun _ h=>(oG h fun _ h=>(oC h (fun _ h=>h) fun _ h=>(br (t:=ax) (fun _ hm=>⟨hc0,hm⟩) _ rfl hl0 ht0 (aS h_x) trivial h))))⟩⟩⟩) fun h=>(h trivial))
 ·rw[vc107]
  exact(oC h (fun _ h=>h) fun _ h=>(bp (t:=ax) (fun m hm=>⟨trivial,hm⟩) _ rfl trivial (aI h (fun v0 h hv0=>h) (fun q0 h=>h))))
def c47:Con:=⟨[.dat TBond,.dat au],fun args hp K=>g2 (pD TBond) (pD au) (fun x left=>(Ln TBond x)/\(0<=left)/\(left<=1048576)/\K (dI (M.dj x left)) []) args hp,.plain,false⟩
abbrev C47:Ctx:=cx [(106,c106),(107,c107)] 24 [] 0 false
def ann47:=an [[.fixRow 2 TBond,kp 6],[kp 6],[kp 1030],[kp 16],[kp 6],[kp 65542],[kp 16],[kp 2],[kp 4194306],[kp 16],[kp 16]] []
theorem vc47 (x:TBond.D) (left:Int) (K:KA):vcT C47 aq ann47 f47 [.data TBond x,dI left] [] (.dat au) K =
 ((Ln (Ty.sl au) x.2.2.1)/\(0<=left)/\(left<=1048576)/\cond (decide ((M.bE x.2.2.1.length left)<Z0)) (K (dI (-1:Int)) []) ((Ln (Ty.sl au) x.2.2.2.2.1)/\(0<=(M.bE x.2.2.1.length left))/\((M.bE x.2.2.1.length left)<=1048576)/\cond (decide ((M.bE x.2.2.2.2.1.length (M.bE x.2.2.1.length left))<Z0)) (K (dI (-1:Int)) []) ((Ln TPS x.2.2.2.2.2.2.1)/\(0<=(M.bE x.2.2.2.2.1.length (M.bE x.2.2.1.length left)))/\((M.bE x.2.2.2.2.1.length (M.bE x.2.2.1.length left))<=1048576)/\cond (decide ((M.szS M.gy x.2.2.2.2.2.2.1 (M.bE x.2.2.2.2.1.length (M.bE x.2.2.1.length left)))<Z0)) (K (dI (-1:Int)) []) (K (dI (M.szS M.gy x.2.2.2.2.2.2.1 (M.bE x.2.2.2.2.1.length (M.bE x.2.2.1.length left)))) [])))):=by kernel_rfl
theorem con47_ok:aP P 47 c47:=aR C47 func47 (kC con106_ok (kC con107_ok kN)) fun args hp K h0=>by
 obtain⟨x,left,rfl,rfl,h_x,p0,p1,hK⟩:=g2e h0
 have h:ok (F.qN x left) (fun r=>K (dI r) []):=ak (F.zf x left h_x p0 p1) hK
 refine⟨rfl,ann47,aq,(.dat au),(az (by kernel_rfl)),?_⟩
 ·rw[vc47]
  exact⟨h_x.2.2.1,⟨p0,⟨p1,(oC h (fun _ h=>h) fun _ h=>⟨h_x.2.2.2.2.1,(oG h fun _ h=>(oG h fun _ h=>(oC h (fun _ h=>h) fun _ h=>⟨h_x.2.2.2.2.2.2.1,(oG h fun _ h=>(oG h fun _ h=>(oC h (fun _ h=>h) fun _ h=>h)))⟩)))⟩)⟩⟩⟩
def c10:Con:=⟨[.dat (Ty.sl TBond),.dat au],fun args hp K=>g2 (pD (Ty.sl TBond)) (pD au) (fun x left=>(Ln (Ty.sl TBond) x)/\(0<=left)/\(left<=1048576)/\K (dI (M.szS M.dj x left)) []) args hp,.plain,false⟩
abbrev C10:Ctx:=cx [(47,c47)] 27 [] 0 false
def ann10:=an [[kp 3],[kp 3],[kp 2051],[kp 16],[kp 35],[kp 32803],[kp 35],[kp 35],[kp 33554467],[kp 16],[kp 16]] [[kp 2]]
abbrev s10_0 (x:(List TBond.D)) (left:Int) (i0:Int) (v0:Int):St:=⟨[(0,.data (Ty.sl TBond) x),(1,dI v0),(5,dI i0)],[]⟩
abbrev LP10_0 (x:(List TBond.D)) (left:Int) (m:Nat) (st_:St) (K:KX):Prop:=True/\bO (t:=TBond) (s10_0 x left) x (F.iI x left) (fun v0:Int=>True) (aU (fun v0:Int=>True->K (.exit 0) (⟨[(1,dI v0)],[]⟩:St)) (fun q0:Unit=>K .ret (⟨[(4,dI (-1:Int))],[]⟩:St))) m st_
def L10 (x:(List TBond.D)) (left:Int):aX:=lp1 0 (LP10_0 x left)
theorem vc10 (x:(List TBond.D)) (left:Int) (K:KA):vcT C10 (L10 x left) ann10 f10 [.data (Ty.sl TBond) x,dI left] [] (.dat au) K =
 (cond (decide (wrap64 (left-(x.length:Int))<Z0)) (K (dI (-1:Int)) []) (∃m_,True/\bO (t:=TBond) (s10_0 x left) x (F.iI x left) (fun v0:Int=>True) (aU (fun v0:Int=>True->K (dI v0) []) (fun q0:Unit=>K (dI (-1:Int)) [])) m_ (s10_0 x left Z0 (wrap64 (left-(x.length:Int)))))):=by kernel_rfl
theorem lvc10_0 (x:(List TBond.D)) (left:Int)  (i0:Int) (v0:Int) (m:Nat) (K:KX):lvT C10 (L10 x left) ann10 f10 0 0 (s10_0 x left i0 v0) m K =
 (cond (decide (i0<(x.length:Int))) ((0<=i0)/\(i0<(x.length:Int))/\(Ln TBond (nth (t:=TBond) x i0))/\(0<=v0)/\(v0<=1048576)/\cond (decide ((M.dj (nth (t:=TBond) x i0) v0)<Z0)) (K .ret (⟨[(4,dI (-1:Int))],[]⟩:St)) (nxT (LP10_0 x left) m K (s10_0 x left (wrap64 (i0+Z1)) (M.dj (nth (t:=TBond) x i0) v0)))) (K (.exit 0) (⟨[(1,dI v0)],[]⟩:St))):=by kernel_rfl
theorem con10_ok:aP P 10 c10:=aR C10 func10 (kC con47_ok kN) fun args hp K h0=>by
 obtain⟨x,left,rfl,rfl,h_x,p0,p1,hK⟩:=g2e h0
 have h:ok (F.pq x left) (fun r=>K (dI r) []):=ak (F.xZ x left h_x p0 p1) hK
 refine⟨rfl,ann10,(L10 x left),(.dat au),(aL (i0:=0) (by kernel_rfl) ?_),?_⟩
 ·rintro _ _ K ⟨hc0,i0,v0,rfl,hl0,rfl,hv0,h⟩
  exact cast (lvc10_0 _ _ _ _ _ _).symm (bw (t:=TBond) hl0 h (fun ht0 h=>⟨hl0,⟨ht0,⟨(ay h_x i0),(oG h fun _ h=>(oG h fun _ h=>(oC h (fun _ h=>h) fun _ h=>(br (t:=TBond) (fun _ hm=>⟨hc0,hm⟩) _ rfl hl0 ht0 (aS h_x) trivial h))))⟩⟩⟩) fun h=>(h trivial))
 ·rw[vc10]
  exact(oC h (fun _ h=>h) fun _ h=>(bp (t:=TBond) (fun m hm=>⟨trivial,hm⟩) _ rfl trivial (aI h (fun v0 h hv0=>h) (fun q0 h=>h))))
def c179:Con:=⟨[.dat ai],fun args hp K=>g1 (pD ai) (fun x=>(LD x fun r=>K (.data ai r) [])) args hp,.plain,false⟩
abbrev C179:Ctx:=cx [] 11 [] 0 false
def ann179:=an [[.fixRow 1 ai,kp 6],[kp 14],[kp 14],[kp 12],[kp 4]] []
theorem vc179 (x:ai.D) (K:KA):vcT C179 aq ann179 f179 [.data ai x] [] (.dat ai) K =
 (K (.data ai x) []):=by kernel_rfl
theorem con179_ok:aP P 179 c179:=aR C179 func179 kN fun args hp K h0=>by
 obtain⟨x,rfl,rfl,hK⟩:=g1e h0
 have h:ok (F.sV x) (fun r=>K (.data ai r) []):=ak (F.wG x) (hK _ rfl)
 refine⟨rfl,ann179,aq,(.dat ai),(az (by kernel_rfl)),?_⟩
 ·rw[vc179]
  exact h
def c112:Con:=⟨[.dat TCS],fun args hp K=>g1 (pD TCS) (fun x=>(Sm TCS x)/\(LD x fun r=>K (.own 0 none) [(0,.arr .sh ai r)])) args hp,.plain,false⟩
abbrev C112:Ctx:=cx [(179,c179)] 23 [] 0 false
def ann112:=an [[kp 1],[kp 9],[kp 25],[kp 2073],[kp 25],[kp 25],[kp 4]] [[kp 8]]
abbrev s112_0 (x:LC) (i0:Int) (v0:LC):St:=⟨[(0,.data TCS x),(3,.own 7 none),(4,dI i0)],[(7,.arr .sh ai v0)]⟩
abbrev LP112_0 (x:LC) (m:Nat) (st_:St) (K:KX):Prop:=True/\bg (s112_0 x) Z0 (x.length:Int) (F.gr x) (fun v0:LC=>True) (aU (fun v0:LC=>True->K (.exit 0) (⟨[(3,.own 7 none)],[(7,.arr .sh ai v0)]⟩:St)) (fun _=>False)) m st_
def L112 (x:LC):aX:=lp1 0 (LP112_0 x)
theorem vc112 (x:LC) (K:KA):vcT C112 (L112 x) ann112 f112 [.data TCS x] [] .raw K =
 (((x.length:Int)=(x.length:Int))/\(0<=(x.length:Int))/\((x.length:Int) * 16<=(lim:Int))/\(∃m_,True/\bg (s112_0 x) Z0 (x.length:Int) (F.gr x) (fun v0:LC=>True) (aU (fun v0:LC=>True->K (.own 0 none) [(0,.arr .sh ai v0)]) (fun _=>False)) m_ (s112_0 x Z0 (List.replicate (x.length:Int).toNat (Z0,(false,())))))):=by kernel_rfl
theorem lvc112_0 (x:LC)  (i0:Int) (v0:LC) (m:Nat) (K:KX):lvT C112 (L112 x) ann112 f112 0 0 (s112_0 x i0 v0) m K =
 (cond (decide (i0<(x.length:Int))) ((0<=i0)/\(i0<(x.length:Int))/\(LD (nC x i0) fun r1=>(0<=i0)/\(i0<(v0.length:Int))/\(nxT (LP112_0 x) m K (s112_0 x (wrap64 (i0+Z1)) (v0.set i0.toNat r1))))) (K (.exit 0) (⟨[(3,.own 7 none)],[(7,.arr .sh ai v0)]⟩:St))):=by kernel_rfl
theorem con112_ok:aP P 112 c112:=aR C112 func112 (kC con179_ok kN) fun args hp K h0=>by
 obtain⟨x,rfl,rfl,h_x,hK⟩:=g1e h0
 have h:ok (F.mK x) (fun r=>K (.own 0 none) [(0,.arr .sh ai r)]):=ak (F.ve x h_x) (hK _ rfl)
 refine⟨rfl,ann112,(L112 x),.raw,(aL (i0:=0) (by kernel_rfl) ?_),?_⟩
 ·rintro _ _ K ⟨hc0,i0,v0,rfl,hl0,rfl,hv0,h⟩
  exact cast (lvc112_0 _ _ _ _ _).symm (aM h (fun ht0 h=>⟨hl0,⟨ht0,(oL h fun _ _ h=>⟨hl0,(oG h fun _ h=>(aG (fun _ hm=>⟨hc0,hm⟩) _ rfl hl0 dS ht0 (aS h_x) trivial h))⟩)⟩⟩) fun h=>(h trivial))
 ·rw[vc112]
  exact⟨rfl,⟨(Int.natCast_nonneg _),⟨(pT h_x rfl),(aE (fun m hm=>⟨trivial,hm⟩) Z0 _ rfl (Int.natCast_nonneg 0) trivial (aI h (fun v0 h hv0=>h) (fun _ h=>h.elim)))⟩⟩⟩
def c154:Con:=⟨[.dat aa],fun args hp K=>g1 (pD aa) (fun x=>(Sm aa x)/\(LD x fun r=>K (.data aa r) [])) args hp,.plain,false⟩
abbrev C154:Ctx:=cx [] 14 [] 0 false
def ann154:=an [[.fixRow 1 aa,kp 6],[kp 14],[kp 14],[kp 14],[kp 12],[kp 4]] []
theorem vc154 (x:aa.D) (K:KA):vcT C154 aq ann154 f154 [.data aa x] [] (.dat aa) K =
 (K (.data aa x) []):=by kernel_rfl
theorem con154_ok:aP P 154 c154:=aR C154 func154 kN fun args hp K h0=>by
 obtain⟨x,rfl,rfl,h_x,hK⟩:=g1e h0
 have h:ok (F.uE x) (fun r=>K (.data aa r) []):=ak (F.xT x h_x) (hK _ rfl)
 refine⟨rfl,ann154,aq,(.dat aa),(az (by kernel_rfl)),?_⟩
 ·rw[vc154]
  exact h
def c83:Con:=⟨[.dat TVS],fun args hp K=>g1 (pD TVS) (fun x=>(Sm TVS x)/\(LD x fun r=>K (.own 0 none) [(0,.arr .sh aa r)])) args hp,.plain,false⟩
abbrev C83:Ctx:=cx [(154,c154)] 23 [] 0 false
def ann83:=an [[kp 1],[kp 9],[kp 25],[kp 2073],[kp 25],[kp 25],[kp 4]] [[kp 8]]
abbrev s83_0 (x:LV) (i0:Int) (v0:LV):St:=⟨[(0,.data TVS x),(3,.own 7 none),(4,dI i0)],[(7,.arr .sh aa v0)]⟩
abbrev LP83_0 (x:LV) (m:Nat) (st_:St) (K:KX):Prop:=True/\bg (s83_0 x) Z0 (x.length:Int) (F.gR x) (fun v0:LV=>True) (aU (fun v0:LV=>True->K (.exit 0) (⟨[(3,.own 7 none)],[(7,.arr .sh aa v0)]⟩:St)) (fun _=>False)) m st_
def L83 (x:LV):aX:=lp1 0 (LP83_0 x)
theorem vc83 (x:LV) (K:KA):vcT C83 (L83 x) ann83 f83 [.data TVS x] [] .raw K =
 (((x.length:Int)=(x.length:Int))/\(0<=(x.length:Int))/\((x.length:Int) * 32<=(lim:Int))/\(∃m_,True/\bg (s83_0 x) Z0 (x.length:Int) (F.gR x) (fun v0:LV=>True) (aU (fun v0:LV=>True->K (.own 0 none) [(0,.arr .sh aa v0)]) (fun _=>False)) m_ (s83_0 x Z0 (List.replicate (x.length:Int).toNat (Z0,(Z0,((⟨#[]⟩:ByteArray),()))))))):=by kernel_rfl
theorem lvc83_0 (x:LV)  (i0:Int) (v0:LV) (m:Nat) (K:KX):lvT C83 (L83 x) ann83 f83 0 0 (s83_0 x i0 v0) m K =
 (cond (decide (i0<(x.length:Int))) ((0<=i0)/\(i0<(x.length:Int))/\(Sm aa (nV x i0))/\(LD (nV x i0) fun r1=>(0<=i0)/\(i0<(v0.length:Int))/\(nxT (LP83_0 x) m K (s83_0 x (wrap64 (i0+Z1)) (v0.set i0.toNat r1))))) (K (.exit 0) (⟨[(3,.own 7 none)],[(7,.arr .sh aa v0)]⟩:St))):=by kernel_rfl
theorem con83_ok:aP P 83 c83:=aR C83 func83 (kC con154_ok kN) fun args hp K h0=>by
 obtain⟨x,rfl,rfl,h_x,hK⟩:=g1e h0
 have h:ok (F.nQ x) (fun r=>K (.own 0 none) [(0,.arr .sh aa r)]):=ak (F.wq x h_x) (hK _ rfl)
 refine⟨rfl,ann83,(L83 x),.raw,(aL (i0:=0) (by kernel_rfl) ?_),?_⟩
 ·rintro _ _ K ⟨hc0,i0,v0,rfl,hl0,rfl,hv0,h⟩
  exact cast (lvc83_0 _ _ _ _ _).symm (aM h (fun ht0 h=>⟨hl0,⟨ht0,⟨(ay h_x i0),(oL h fun _ _ h=>⟨hl0,(oG h fun _ h=>(aG (fun _ hm=>⟨hc0,hm⟩) _ rfl hl0 dS ht0 (aS h_x) trivial h))⟩)⟩⟩⟩) fun h=>(h trivial))
 ·rw[vc83]
  exact⟨rfl,⟨(Int.natCast_nonneg _),⟨(pT h_x rfl),(aE (fun m hm=>⟨trivial,hm⟩) Z0 _ rfl (Int.natCast_nonneg 0) trivial (aI h (fun v0 h hv0=>h) (fun _ h=>h.elim)))⟩⟩⟩
def c113:Con:=⟨[.dat (Ty.sl TVS)],fun args hp K=>g1 (pD (Ty.sl TVS)) (fun x=>(Sm (Ty.sl TVS) x)/\(LD x fun r=>K (.own 0 none) [(0,.arr .dp TVS r)])) args hp,.plain,false⟩
abbrev C113:Ctx:=cx [(83,c83)] 23 [] 0 true
def ann113:=an [[kp 1],[kp 9],[kp 25],[kp 2073],[kp 25],[kp 25],[kp 4]] [[kp 8]]
abbrev s113_0 (x:(List LV)) (i0:Int) (v0:(List LV)):St:=⟨[(0,.data (Ty.sl TVS) x),(3,.own 7 none),(4,dI i0)],[(7,.arr .dp TVS v0)]⟩
abbrev LP113_0 (x:(List LV)) (m:Nat) (st_:St) (K:KX):Prop:=True/\bg (s113_0 x) Z0 (x.length:Int) (F.gp x) (fun v0:(List LV)=>True) (aU (fun v0:(List LV)=>True->K (.exit 0) (⟨[(3,.own 7 none)],[(7,.arr .dp TVS v0)]⟩:St)) (fun _=>False)) m st_
def L113 (x:(List LV)):aX:=lp1 0 (LP113_0 x)
theorem vc113 (x:(List LV)) (K:KA):vcT C113 (L113 x) ann113 f113 [.data (Ty.sl TVS) x] [] .raw K =
 (((x.length:Int)=(x.length:Int))/\(0<=(x.length:Int))/\((x.length:Int) * 24<=(lim:Int))/\(∃m_,True/\bg (s113_0 x) Z0 (x.length:Int) (F.gp x) (fun v0:(List LV)=>True) (aU (fun v0:(List LV)=>True->K (.own 0 none) [(0,.arr .dp TVS v0)]) (fun _=>False)) m_ (s113_0 x Z0 (List.replicate (x.length:Int).toNat [])))):=by kernel_rfl
theorem lvc113_0 (x:(List LV))  (i0:Int) (v0:(List LV)) (m:Nat) (K:KX):lvT C113 (L113 x) ann113 f113 0 0 (s113_0 x i0 v0) m K =
 (cond (decide (i0<(x.length:Int))) ((0<=i0)/\(i0<(x.length:Int))/\(Sm TVS (nth (t:=TVS) x i0))/\(LD (nth (t:=TVS) x i0) fun r1=>(0<=i0)/\(i0<(v0.length:Int))/\(nxT (LP113_0 x) m K (s113_0 x (wrap64 (i0+Z1)) (v0.set i0.toNat r1))))) (K (.exit 0) (⟨[(3,.own 7 none)],[(7,.arr .dp TVS v0)]⟩:St))):=by kernel_rfl
theorem con113_ok:aP P 113 c113:=aR C113 func113 (kC con83_ok kN) fun args hp K h0=>by
 obtain⟨x,rfl,rfl,h_x,hK⟩:=g1e h0
 have h:ok (F.mu x) (fun r=>K (.own 0 none) [(0,.arr .dp TVS r)]):=ak (F.vo x h_x) (hK _ rfl)
 refine⟨rfl,ann113,(L113 x),.raw,(aL (i0:=0) (by kernel_rfl) ?_),?_⟩
 ·rintro _ _ K ⟨hc0,i0,v0,rfl,hl0,rfl,hv0,h⟩
  exact cast (lvc113_0 _ _ _ _ _).symm (aM h (fun ht0 h=>⟨hl0,⟨ht0,⟨(ay h_x i0),(oL h fun _ _ h=>⟨hl0,(oG h fun _ h=>(aG (fun _ hm=>⟨hc0,hm⟩) _ rfl hl0 dS ht0 (aS h_x) trivial h))⟩)⟩⟩⟩) fun h=>(h trivial))
 ·rw[vc113]
  exact⟨rfl,⟨(Int.natCast_nonneg _),⟨(pT h_x rfl),(aE (fun m hm=>⟨trivial,hm⟩) Z0 _ rfl (Int.natCast_nonneg 0) trivial (aI h (fun v0 h hv0=>h) (fun _ h=>h.elim)))⟩⟩⟩
abbrev C52:Ctx:=cx [(112,c112),(113,c113)] 13 [] 200000 true
def T52:Inl:=vW C52 (fun _=>[]) (dL f52) f52.results.toList
theorem inlOk52:vL P 52 T52:=CB C52 func52 (kC con112_ok (kC con113_ok kN))
def c13:Con:=⟨[.dat TTb],fun args hp K=>g1 (pD TTb) (fun x=>(Sm TTb x)/\(LD x fun r=>K (.own 0 none) [(0,.arr .dp TTable r)])) args hp,.plain,false⟩
abbrev C13:Ctx:=cx [] 23 [(52,T52)] 0 true
def ann13:=an [[kp 1],[kp 9],[kp 25],[kp 2073],[kp 25],[kp 25],[kp 4]] [[kp 8]]
abbrev s13_0 (x:LTb) (i0:Int) (v0:LTb):St:=⟨[(0,.data TTb x),(3,.own 7 none),(4,dI i0)],[(7,.arr .dp TTable v0)]⟩
abbrev LP13_0 (x:LTb) (m:Nat) (st_:St) (K:KX):Prop:=True/\bg (s13_0 x) Z0 (x.length:Int) (F.gS x) (fun v0:LTb=>True) (aU (fun v0:LTb=>True->K (.exit 0) (⟨[(3,.own 7 none)],[(7,.arr .dp TTable v0)]⟩:St)) (fun _=>False)) m st_
def L13 (x:LTb):aX:=lp1 0 (LP13_0 x)
theorem vc13 (x:LTb) (K:KA):vcT C13 (L13 x) ann13 f13 [.data TTb x] [] .raw K =
 (((x.length:Int)=(x.length:Int))/\(0<=(x.length:Int))/\((x.length:Int) * 48<=(lim:Int))/\(∃m_,True/\bg (s13_0 x) Z0 (x.length:Int) (F.gS x) (fun v0:LTb=>True) (aU (fun v0:LTb=>True->K (.own 0 none) [(0,.arr .dp TTable v0)]) (fun _=>False)) m_ (s13_0 x Z0 (List.replicate (x.length:Int).toNat ([],([],())))))):=by kernel_rfl
theorem lvc13_0 (x:LTb)  (i0:Int) (v0:LTb) (m:Nat) (K:KX):lvT C13 (L13 x) ann13 f13 0 0 (s13_0 x i0 v0) m K =
 (cond (decide (i0<(x.length:Int))) ((0<=i0)/\(i0<(x.length:Int))/\(Sm TCS (nT x i0).1)/\(LD (nT x i0).1 fun r1=>(Sm (Ty.sl TVS) (nT x i0).2.1)/\(LD (nT x i0).2.1 fun r2=>(0<=i0)/\(i0<(v0.length:Int))/\(nxT (LP13_0 x) m K (s13_0 x (wrap64 (i0+Z1)) (v0.set i0.toNat (r1,(r2,())))))))) (K (.exit 0) (⟨[(3,.own 7 none)],[(7,.arr .dp TTable v0)]⟩:St))):=by kernel_rfl
theorem con13_ok:aP P 13 c13:=aR C13 func13 (kI inlOk52 kN) fun args hp K h0=>by
 obtain⟨x,rfl,rfl,h_x,hK⟩:=g1e h0
 have h:ok (F.oa x) (fun r=>K (.own 0 none) [(0,.arr .dp TTable r)]):=ak (F.wP x h_x) (hK _ rfl)
 refine⟨rfl,ann13,(L13 x),.raw,(aL (i0:=0) (by kernel_rfl) ?_),?_⟩
 ·rintro _ _ K ⟨hc0,i0,v0,rfl,hl0,rfl,hv0,h⟩
  exact cast (lvc13_0 _ _ _ _ _).symm (aM h (fun ht0 h=>⟨hl0,⟨ht0,⟨(ay h_x i0).1,(oL h fun _ _ h=>⟨(ay h_x i0).2.1,(oL h fun _ _ h=>⟨hl0,(oG h fun _ h=>(aG (fun _ hm=>⟨hc0,hm⟩) _ rfl hl0 dS ht0 (aS h_x) trivial h))⟩)⟩)⟩⟩⟩) fun h=>(h trivial))
 ·rw[vc13]
  exact⟨rfl,⟨(Int.natCast_nonneg _),⟨(pT h_x rfl),(aE (fun m hm=>⟨trivial,hm⟩) Z0 _ rfl (Int.natCast_nonneg 0) trivial (aI h (fun v0 h hv0=>h) (fun _ h=>h.elim)))⟩⟩⟩
def c114:Con:=⟨[.dat (Ty.sl au)],fun args hp K=>g1 (pD (Ty.sl au)) (fun x=>(Sm (Ty.sl au) x)/\(LD x fun r=>K (.own 0 none) [(0,.arr .sh au r)])) args hp,.plain,false⟩
abbrev C114:Ctx:=cx [] 22 [] 0 false
def ann114:=an [[kp 1],[kp 9],[kp 25],[kp 2073],[kp 25],[kp 25],[kp 4]] [[kp 8]]
abbrev s114_0 (x:LI) (i0:Int) (v0:LI):St:=⟨[(0,.data (Ty.sl au) x),(3,.own 7 none),(4,dI i0)],[(7,.arr .sh au v0)]⟩
abbrev LP114_0 (x:LI) (m:Nat) (st_:St) (K:KX):Prop:=True/\bg (s114_0 x) Z0 (x.length:Int) (F.jA x) (fun v0:LI=>True) (aU (fun v0:LI=>True->K (.exit 0) (⟨[(3,.own 7 none)],[(7,.arr .sh au v0)]⟩:St)) (fun _=>False)) m st_
def L114 (x:LI):aX:=lp1 0 (LP114_0 x)
theorem vc114 (x:LI) (K:KA):vcT C114 (L114 x) ann114 f114 [.data (Ty.sl au) x] [] .raw K =
 (((x.length:Int)=(x.length:Int))/\(0<=(x.length:Int))/\((x.length:Int) * 8<=(lim:Int))/\(∃m_,True/\bg (s114_0 x) Z0 (x.length:Int) (F.jA x) (fun v0:LI=>True) (aU (fun v0:LI=>True->K (.own 0 none) [(0,.arr .sh au v0)]) (fun _=>False)) m_ (s114_0 x Z0 (List.replicate (x.length:Int).toNat Z0)))):=by kernel_rfl
theorem lvc114_0 (x:LI)  (i0:Int) (v0:LI) (m:Nat) (K:KX):lvT C114 (L114 x) ann114 f114 0 0 (s114_0 x i0 v0) m K =
 (cond (decide (i0<(x.length:Int))) ((0<=i0)/\(i0<(x.length:Int))/\(0<=i0)/\(i0<(v0.length:Int))/\(nxT (LP114_0 x) m K (s114_0 x (wrap64 (i0+Z1)) (v0.set i0.toNat (nI x i0))))) (K (.exit 0) (⟨[(3,.own 7 none)],[(7,.arr .sh au v0)]⟩:St))):=by kernel_rfl
theorem con114_ok:aP P 114 c114:=aR C114 func114 kN fun args hp K h0=>by
 obtain⟨x,rfl,rfl,h_x,hK⟩:=g1e h0
 have h:ok (F.qW x) (fun r=>K (.own 0 none) [(0,.arr .sh au r)]):=ak (F.yZ x h_x) (hK _ rfl)
 refine⟨rfl,ann114,(L114 x),.raw,(aL (i0:=0) (by kernel_rfl) ?_),?_⟩
 ·rintro _ _ K ⟨hc0,i0,v0,rfl,hl0,rfl,hv0,h⟩
  exact cast (lvc114_0 _ _ _ _ _).symm (aM h (fun ht0 h=>⟨hl0,⟨ht0,⟨hl0,(oG h fun _ h=>(aG (fun _ hm=>⟨hc0,hm⟩) _ rfl hl0 dS ht0 (aS h_x) trivial h))⟩⟩⟩) fun h=>(h trivial))
 ·rw[vc114]
  exact⟨rfl,⟨(Int.natCast_nonneg _),⟨(pT h_x rfl),(aE (fun m hm=>⟨trivial,hm⟩) Z0 _ rfl (Int.natCast_nonneg 0) trivial (aI h (fun v0 h hv0=>h) (fun _ h=>h.elim)))⟩⟩⟩
def c180:Con:=⟨[.dat ax],fun args hp K=>g1 (pD ax) (fun x=>(Sm ax x)/\(LD x fun r=>K (.data ax r) [])) args hp,.plain,false⟩
abbrev C180:Ctx:=cx [(154,c154)] 15 [] 0 false
def ann180:=an [[.fixRow 1 ax,kp 6],[kp 14],[kp 14],[kp 14],[kp 12],[kp 4]] []
theorem vc180 (x:ax.D) (K:KA):vcT C180 aq ann180 f180 [.data ax x] [] (.dat ax) K =
 ((Sm aa x.2.2.1)/\(LD x.2.2.1 fun r1=>K (.data ax (x.1,(x.2.1,(r1,())))) [])):=by kernel_rfl
theorem con180_ok:aP P 180 c180:=aR C180 func180 (kC con154_ok kN) fun args hp K h0=>by
 obtain⟨x,rfl,rfl,h_x,hK⟩:=g1e h0
 have h:ok (F.xF x) (fun r=>K (.data ax r) []):=ak (F.Am x h_x) (hK _ rfl)
 refine⟨rfl,ann180,aq,(.dat ax),(az (by kernel_rfl)),?_⟩
 ·rw[vc180]
  exact⟨h_x.2.2.1,(oL h fun _ _ h=>h)⟩
def c115:Con:=⟨[.dat TPS],fun args hp K=>g1 (pD TPS) (fun x=>(Sm TPS x)/\(LD x fun r=>K (.own 0 none) [(0,.arr .sh ax r)])) args hp,.plain,false⟩
abbrev C115:Ctx:=cx [(180,c180)] 23 [] 0 false
def ann115:=an [[kp 1],[kp 9],[kp 25],[kp 2073],[kp 25],[kp 25],[kp 4]] [[kp 8]]
abbrev s115_0 (x:LPt) (i0:Int) (v0:LPt):St:=⟨[(0,.data TPS x),(3,.own 7 none),(4,dI i0)],[(7,.arr .sh ax v0)]⟩
abbrev LP115_0 (x:LPt) (m:Nat) (st_:St) (K:KX):Prop:=True/\bg (s115_0 x) Z0 (x.length:Int) (F.iN x) (fun v0:LPt=>True) (aU (fun v0:LPt=>True->K (.exit 0) (⟨[(3,.own 7 none)],[(7,.arr .sh ax v0)]⟩:St)) (fun _=>False)) m st_
def L115 (x:LPt):aX:=lp1 0 (LP115_0 x)
theorem vc115 (x:LPt) (K:KA):vcT C115 (L115 x) ann115 f115 [.data TPS x] [] .raw K =
 (((x.length:Int)=(x.length:Int))/\(0<=(x.length:Int))/\((x.length:Int) * 48<=(lim:Int))/\(∃m_,True/\bg (s115_0 x) Z0 (x.length:Int) (F.iN x) (fun v0:LPt=>True) (aU (fun v0:LPt=>True->K (.own 0 none) [(0,.arr .sh ax v0)]) (fun _=>False)) m_ (s115_0 x Z0 (List.replicate (x.length:Int).toNat (Z0,(Z0,((Z0,(Z0,((⟨#[]⟩:ByteArray),()))),()))))))):=by kernel_rfl
theorem lvc115_0 (x:LPt)  (i0:Int) (v0:LPt) (m:Nat) (K:KX):lvT C115 (L115 x) ann115 f115 0 0 (s115_0 x i0 v0) m K =
 (cond (decide (i0<(x.length:Int))) ((0<=i0)/\(i0<(x.length:Int))/\(Sm ax (nP x i0))/\(LD (nP x i0) fun r1=>(0<=i0)/\(i0<(v0.length:Int))/\(nxT (LP115_0 x) m K (s115_0 x (wrap64 (i0+Z1)) (v0.set i0.toNat r1))))) (K (.exit 0) (⟨[(3,.own 7 none)],[(7,.arr .sh ax v0)]⟩:St))):=by kernel_rfl
theorem con115_ok:aP P 115 c115:=aR C115 func115 (kC con180_ok kN) fun args hp K h0=>by
 obtain⟨x,rfl,rfl,h_x,hK⟩:=g1e h0
 have h:ok (F.pX x) (fun r=>K (.own 0 none) [(0,.arr .sh ax r)]):=ak (F.yy x h_x) (hK _ rfl)
 refine⟨rfl,ann115,(L115 x),.raw,(aL (i0:=0) (by kernel_rfl) ?_),?_⟩
 ·rintro _ _ K ⟨hc0,i0,v0,rfl,hl0,rfl,hv0,h⟩
  exact cast (lvc115_0 _ _ _ _ _).symm (aM h (fun ht0 h=>⟨hl0,⟨ht0,⟨(ay h_x i0),(oL h fun _ _ h=>⟨hl0,(oG h fun _ h=>(aG (fun _ hm=>⟨hc0,hm⟩) _ rfl hl0 dS ht0 (aS h_x) trivial h))⟩)⟩⟩⟩) fun h=>(h trivial))
 ·rw[vc115]
  exact⟨rfl,⟨(Int.natCast_nonneg _),⟨(pT h_x rfl),(aE (fun m hm=>⟨trivial,hm⟩) Z0 _ rfl (Int.natCast_nonneg 0) trivial (aI h (fun v0 h hv0=>h) (fun _ h=>h.elim)))⟩⟩⟩
abbrev C53:Ctx:=cx [(114,c114),(115,c115)] 29 [] 200000 true
def T53:Inl:=vW C53 (fun _=>[]) (dL f53) f53.results.toList
theorem inlOk53:vL P 53 T53:=CB C53 func53 (kC con114_ok (kC con115_ok kN))
def c14:Con:=⟨[.dat (Ty.sl TBond)],fun args hp K=>g1 (pD (Ty.sl TBond)) (fun x=>(Sm (Ty.sl TBond) x)/\(LD x fun r=>K (.own 0 none) [(0,.arr .dp TBond r)])) args hp,.plain,false⟩
abbrev C14:Ctx:=cx [] 23 [(53,T53)] 0 true
def ann14:=an [[kp 1],[kp 9],[kp 25],[kp 2073],[kp 25],[kp 25],[kp 4]] [[kp 8]]
abbrev s14_0 (x:(List TBond.D)) (i0:Int) (v0:(List TBond.D)):St:=⟨[(0,.data (Ty.sl TBond) x),(3,.own 7 none),(4,dI i0)],[(7,.arr .dp TBond v0)]⟩
abbrev LP14_0 (x:(List TBond.D)) (m:Nat) (st_:St) (K:KX):Prop:=True/\bg (s14_0 x) Z0 (x.length:Int) (F.iL x) (fun v0:(List TBond.D)=>True) (aU (fun v0:(List TBond.D)=>True->K (.exit 0) (⟨[(3,.own 7 none)],[(7,.arr .dp TBond v0)]⟩:St)) (fun _=>False)) m st_
def L14 (x:(List TBond.D)):aX:=lp1 0 (LP14_0 x)
theorem vc14 (x:(List TBond.D)) (K:KA):vcT C14 (L14 x) ann14 f14 [.data (Ty.sl TBond) x] [] .raw K =
 (((x.length:Int)=(x.length:Int))/\(0<=(x.length:Int))/\((x.length:Int) * 104<=(lim:Int))/\(∃m_,True/\bg (s14_0 x) Z0 (x.length:Int) (F.iL x) (fun v0:(List TBond.D)=>True) (aU (fun v0:(List TBond.D)=>True->K (.own 0 none) [(0,.arr .dp TBond v0)]) (fun _=>False)) m_ (s14_0 x Z0 (List.replicate (x.length:Int).toNat (Z0,(Z0,([],(Z0,([],(false,([],()))))))))))):=by kernel_rfl
theorem lvc14_0 (x:(List TBond.D))  (i0:Int) (v0:(List TBond.D)) (m:Nat) (K:KX):lvT C14 (L14 x) ann14 f14 0 0 (s14_0 x i0 v0) m K =
 (cond (decide (i0<(x.length:Int))) ((0<=i0)/\(i0<(x.length:Int))/\(Sm (Ty.sl au) (nth (t:=TBond) x i0).2.2.1)/\(LD (nth (t:=TBond) x i0).2.2.1 fun r1=>(Sm (Ty.sl au) (nth (t:=TBond) x i0).2.2.2.2.1)/\(LD (nth (t:=TBond) x i0).2.2.2.2.1 fun r2=>(Sm TPS (nth (t:=TBond) x i0).2.2.2.2.2.2.1)/\(LD (nth (t:=TBond) x i0).2.2.2.2.2.2.1 fun r3=>(0<=i0)/\(i0<(v0.length:Int))/\(let y1:(List TBond.D):=(v0.set i0.toNat ((nth (t:=TBond) x i0).1,((nth (t:=TBond) x i0).2.1,(r1,((nth (t:=TBond) x i0).2.2.2.1,(r2,((nth (t:=TBond) x i0).2.2.2.2.2.1,(r3,()))))))));(nxT (LP14_0 x) m K (s14_0 x (wrap64 (i0+Z1)) y1))))))) (K (.exit 0) (⟨[(3,.own 7 none)],[(7,.arr .dp TBond v0)]⟩:St))):=by kernel_rfl
theorem con14_ok:aP P 14 c14:=aR C14 func14 (kI inlOk53 kN) fun args hp K h0=>by
 obtain⟨x,rfl,rfl,h_x,hK⟩:=g1e h0
 have h:ok (F.qt x) (fun r=>K (.own 0 none) [(0,.arr .dp TBond r)]):=ak (F.xP x h_x) (hK _ rfl)
 refine⟨rfl,ann14,(L14 x),.raw,(aL (i0:=0) (by kernel_rfl) ?_),?_⟩
 ·rintro _ _ K ⟨hc0,i0,v0,rfl,hl0,rfl,hv0,h⟩
  exact cast (lvc14_0 _ _ _ _ _).symm (aM h (fun ht0 h=>⟨hl0,⟨ht0,⟨(ay h_x i0).2.2.1,(oL h fun _ _ h=>⟨(ay h_x i0).2.2.2.2.1,(oL h fun _ _ h=>⟨(ay h_x i0).2.2.2.2.2.2.1,(oL h fun _ _ h=>⟨hl0,(oG h fun _ h=>(have h:=fH h _ rfl;(aG (fun _ hm=>⟨hc0,hm⟩) _ rfl hl0 dS ht0 (aS h_x) trivial h)))⟩)⟩)⟩)⟩⟩⟩) fun h=>(h trivial))
 ·rw[vc14]
  exact⟨rfl,⟨(Int.natCast_nonneg _),⟨(pT h_x rfl),(aE (fun m hm=>⟨trivial,hm⟩) Z0 _ rfl (Int.natCast_nonneg 0) trivial (aI h (fun v0 h hv0=>h) (fun _ h=>h.elim)))⟩⟩⟩
def c182:Con:=⟨[.dat ai,.dat ai],fun args hp K=>g2 (pD ai) (pD ai) (fun x y=>(x=y)/\K (dB true) []) args hp,.plain,false⟩
abbrev C182:Ctx:=cx [] 15 [] 0 false
def ann182:=an [[.fixRow 2 ai,.fixRow 3 ai,kp 12],[kp 524],[kp 16],[kp 16384],[kp 16],[kp 16]] []
theorem vc182 (x:ai.D) (y:ai.D) (K:KA):vcT C182 aq ann182 f182 [.data ai x,.data ai y] [] (.dat Ty.bool) K =
 (cond (!decide (x.1=y.1)) (K (dB false) []) (cond (!(Ty.beq Ty.bool x.2.1 y.2.1)) (K (dB false) []) (K (dB true) []))):=by kernel_rfl
theorem con182_ok:aP P 182 c182:=aR C182 func182 kN fun args hp K h0=>by
 obtain⟨x,y,rfl,rfl,p0,hK⟩:=g2e h0
 have h:ok (F.oc x y) (fun r=>K (dB r) []):=ak (F.wI x y p0) hK
 refine⟨rfl,ann182,aq,(.dat Ty.bool),(az (by kernel_rfl)),?_⟩
 ·rw[vc182]
  exact(oC h (fun _ h=>h) fun _ h=>(oC h (fun _ h=>h) fun _ h=>h))
def c120:Con:=⟨[.dat TCS,.dat TCS],fun args hp K=>g2 (pD TCS) (pD TCS) (fun x y=>(Sm TCS x)/\(Sm TCS y)/\(x=y)/\K (dB true) []) args hp,.bor,false⟩
abbrev C120:Ctx:=cx [(182,c182)] 27 [] 0 false
def ann120:=an [[kp 3],[kp 1027],[kp 16],[kp 35],[kp 16419],[kp 35],[kp 67108899],[kp 16],[kp 16]] [[kp 0]]
abbrev s120_0 (x:LC) (y:LC) (i0:Int) (v0:Unit):St:=⟨[(0,.data TCS x),(1,.data TCS y),(5,dI i0)],[]⟩
abbrev LP120_0 (x:LC) (y:LC) (m:Nat) (st_:St) (K:KX):Prop:=True/\bg (s120_0 x y) Z0 (x.length:Int) (F.gb x y) (fun v0:Unit=>True) (aU (fun v0:Unit=>True->K (.exit 0) (⟨[],[]⟩:St)) (fun q0:Unit=>K .ret (⟨[(4,dB false)],[]⟩:St))) m st_
def L120 (x:LC) (y:LC):aX:=lp1 0 (LP120_0 x y)
theorem vc120 (x:LC) (y:LC) (K:KA):vcT C120 (L120 x y) ann120 f120 [.data TCS x,.data TCS y] [] (.dat Ty.bool) K =
 (cond (!decide ((x.length:Int)=(y.length:Int))) (K (dB false) []) (∃m_,True/\bg (s120_0 x y) Z0 (x.length:Int) (F.gb x y) (fun v0:Unit=>True) (aU (fun v0:Unit=>True->K (dB true) []) (fun q0:Unit=>K (dB false) [])) m_ (s120_0 x y Z0 ()))):=by kernel_rfl
theorem lvc120_0 (x:LC) (y:LC)  (i0:Int) (v0:Unit) (m:Nat) (K:KX):lvT C120 (L120 x y) ann120 f120 0 0 (s120_0 x y i0 v0) m K =
 (cond (decide (i0<(x.length:Int))) ((0<=i0)/\(i0<(x.length:Int))/\(0<=i0)/\(i0<(y.length:Int))/\((nC x i0)=(nC y i0))/\cond (!true) (K .ret (⟨[(4,dB false)],[]⟩:St)) (nxT (LP120_0 x y) m K (s120_0 x y (wrap64 (i0+Z1)) ()))) (K (.exit 0) (⟨[],[]⟩:St))):=by kernel_rfl
theorem con120_ok:aP P 120 c120:=aR C120 func120 (kC con182_ok kN) fun args hp K h0=>by
 obtain⟨x,y,rfl,rfl,h_x,h_y,p0,hK⟩:=g2e h0
 have h:ok (F.mw x y) (fun r=>K (dB r) []):=ak (F.uu x y h_x h_y p0) hK
 refine⟨rfl,ann120,(L120 x y),(.dat Ty.bool),(aL (i0:=0) (by kernel_rfl) ?_),?_⟩
 ·rintro _ _ K ⟨hc0,i0,v0,rfl,hl0,rfl,hv0,h⟩
  exact cast (lvc120_0 _ _ _ _ _ _).symm (aM h (fun ht0 h=>⟨hl0,⟨ht0,⟨hl0,(oG h fun _ h=>(oG h fun _ h=>(oC h (fun _ h=>h) fun _ h=>(aG (fun _ hm=>⟨hc0,hm⟩) _ rfl hl0 dS ht0 (aS h_x) trivial h))))⟩⟩⟩) fun h=>(h trivial))
 ·rw[vc120]
  exact(oC h (fun _ h=>h) fun _ h=>(aE (fun m hm=>⟨trivial,hm⟩) Z0 _ rfl (Int.natCast_nonneg 0) trivial (aI h (fun v0 h hv0=>h) (fun q0 h=>h))))
def c157:Con:=⟨[.dat aa,.dat aa],fun args hp K=>g2 (pD aa) (pD aa) (fun x y=>(Sm aa x)/\(Sm aa y)/\(x=y)/\K (dB true) []) args hp,.plain,false⟩
abbrev C157:Ctx:=cx [] 20 [] 0 false
def ann157:=an [[.fixRow 2 aa,.fixRow 3 aa,kp 12],[kp 524],[kp 16],[kp 16396],[kp 16],[kp 524288],[kp 16],[kp 16]] []
theorem vc157 (x:aa.D) (y:aa.D) (K:KA):vcT C157 aq ann157 f157 [.data aa x,.data aa y] [] (.dat Ty.bool) K =
 (cond (!decide (x.1=y.1)) (K (dB false) []) (cond (!decide (x.2.1=y.2.1)) (K (dB false) []) (cond (!decide (x.2.2.1=y.2.2.1)) (K (dB false) []) (K (dB true) [])))):=by kernel_rfl
theorem con157_ok:aP P 157 c157:=aR C157 func157 kN fun args hp K h0=>by
 obtain⟨x,y,rfl,rfl,h_x,h_y,p0,hK⟩:=g2e h0
 have h:ok (F.qg x y) (fun r=>K (dB r) []):=ak (F.xR x y h_x h_y p0) hK
 refine⟨rfl,ann157,aq,(.dat Ty.bool),(az (by kernel_rfl)),?_⟩
 ·rw[vc157]
  exact(oC h (fun _ h=>h) fun _ h=>(oC h (fun _ h=>h) fun _ h=>(oC h (fun _ h=>h) fun _ h=>h)))
def c89:Con:=⟨[.dat TVS,.dat TVS],fun args hp K=>g2 (pD TVS) (pD TVS) (fun x y=>(Sm TVS x)/\(Sm TVS y)/\(x=y)/\K (dB true) []) args hp,.bor,false⟩
abbrev C89:Ctx:=cx [(157,c157)] 27 [] 0 false
def ann89:=an [[kp 3],[kp 1027],[kp 16],[kp 35],[kp 16419],[kp 35],[kp 67108899],[kp 16],[kp 16]] [[kp 0]]
abbrev s89_0 (x:LV) (y:LV) (i0:Int) (v0:Unit):St:=⟨[(0,.data TVS x),(1,.data TVS y),(5,dI i0)],[]⟩
abbrev LP89_0 (x:LV) (y:LV) (m:Nat) (st_:St) (K:KX):Prop:=True/\bg (s89_0 x y) Z0 (x.length:Int) (F.gM x y) (fun v0:Unit=>True) (aU (fun v0:Unit=>True->K (.exit 0) (⟨[],[]⟩:St)) (fun q0:Unit=>K .ret (⟨[(4,dB false)],[]⟩:St))) m st_
def L89 (x:LV) (y:LV):aX:=lp1 0 (LP89_0 x y)
theorem vc89 (x:LV) (y:LV) (K:KA):vcT C89 (L89 x y) ann89 f89 [.data TVS x,.data TVS y] [] (.dat Ty.bool) K =
 (cond (!decide ((x.length:Int)=(y.length:Int))) (K (dB false) []) (∃m_,True/\bg (s89_0 x y) Z0 (x.length:Int) (F.gM x y) (fun v0:Unit=>True) (aU (fun v0:Unit=>True->K (dB true) []) (fun q0:Unit=>K (dB false) [])) m_ (s89_0 x y Z0 ()))):=by kernel_rfl
theorem lvc89_0 (x:LV) (y:LV)  (i0:Int) (v0:Unit) (m:Nat) (K:KX):lvT C89 (L89 x y) ann89 f89 0 0 (s89_0 x y i0 v0) m K =
 (cond (decide (i0<(x.length:Int))) ((0<=i0)/\(i0<(x.length:Int))/\(0<=i0)/\(i0<(y.length:Int))/\(Sm aa (nV x i0))/\(Sm aa (nV y i0))/\((nV x i0)=(nV y i0))/\cond (!true) (K .ret (⟨[(4,dB false)],[]⟩:St)) (nxT (LP89_0 x y) m K (s89_0 x y (wrap64 (i0+Z1)) ()))) (K (.exit 0) (⟨[],[]⟩:St))):=by kernel_rfl
theorem con89_ok:aP P 89 c89:=aR C89 func89 (kC con157_ok kN) fun args hp K h0=>by
 obtain⟨x,y,rfl,rfl,h_x,h_y,p0,hK⟩:=g2e h0
 have h:ok (F.od x y) (fun r=>K (dB r) []):=ak (F.vP x y h_x h_y p0) hK
 refine⟨rfl,ann89,(L89 x y),(.dat Ty.bool),(aL (i0:=0) (by kernel_rfl) ?_),?_⟩
 ·rintro _ _ K ⟨hc0,i0,v0,rfl,hl0,rfl,hv0,h⟩
  exact cast (lvc89_0 _ _ _ _ _ _).symm (aM h (fun ht0 h=>⟨hl0,⟨ht0,⟨hl0,(oG h fun _ h=>⟨(ay h_x i0),⟨(ay h_y i0),(oG h fun _ h=>(oC h (fun _ h=>h) fun _ h=>(aG (fun _ hm=>⟨hc0,hm⟩) _ rfl hl0 dS ht0 (aS h_x) trivial h)))⟩⟩)⟩⟩⟩) fun h=>(h trivial))
 ·rw[vc89]
  exact(oC h (fun _ h=>h) fun _ h=>(aE (fun m hm=>⟨trivial,hm⟩) Z0 _ rfl (Int.natCast_nonneg 0) trivial (aI h (fun v0 h hv0=>h) (fun q0 h=>h))))
def c121:Con:=⟨[.dat (Ty.sl TVS),.dat (Ty.sl TVS)],fun args hp K=>g2 (pD (Ty.sl TVS)) (pD (Ty.sl TVS)) (fun x y=>(Sm (Ty.sl TVS) x)/\(Sm (Ty.sl TVS) y)/\(x=y)/\K (dB true) []) args hp,.bor,false⟩
abbrev C121:Ctx:=cx [(89,c89)] 27 [] 0 false
def ann121:=an [[kp 3],[kp 1027],[kp 16],[kp 35],[kp 16419],[kp 35],[kp 67108899],[kp 16],[kp 16]] [[kp 0]]
abbrev s121_0 (x:(List LV)) (y:(List LV)) (i0:Int) (v0:Unit):St:=⟨[(0,.data (Ty.sl TVS) x),(1,.data (Ty.sl TVS) y),(5,dI i0)],[]⟩
abbrev LP121_0 (x:(List LV)) (y:(List LV)) (m:Nat) (st_:St) (K:KX):Prop:=True/\bg (s121_0 x y) Z0 (x.length:Int) (F.gf x y) (fun v0:Unit=>True) (aU (fun v0:Unit=>True->K (.exit 0) (⟨[],[]⟩:St)) (fun q0:Unit=>K .ret (⟨[(4,dB false)],[]⟩:St))) m st_
def L121 (x:(List LV)) (y:(List LV)):aX:=lp1 0 (LP121_0 x y)
theorem vc121 (x:(List LV)) (y:(List LV)) (K:KA):vcT C121 (L121 x y) ann121 f121 [.data (Ty.sl TVS) x,.data (Ty.sl TVS) y] [] (.dat Ty.bool) K =
 (cond (!decide ((x.length:Int)=(y.length:Int))) (K (dB false) []) (∃m_,True/\bg (s121_0 x y) Z0 (x.length:Int) (F.gf x y) (fun v0:Unit=>True) (aU (fun v0:Unit=>True->K (dB true) []) (fun q0:Unit=>K (dB false) [])) m_ (s121_0 x y Z0 ()))):=by kernel_rfl
theorem lvc121_0 (x:(List LV)) (y:(List LV))  (i0:Int) (v0:Unit) (m:Nat) (K:KX):lvT C121 (L121 x y) ann121 f121 0 0 (s121_0 x y i0 v0) m K =
 (cond (decide (i0<(x.length:Int))) ((0<=i0)/\(i0<(x.length:Int))/\(0<=i0)/\(i0<(y.length:Int))/\(Sm TVS (nth (t:=TVS) x i0))/\(Sm TVS (nth (t:=TVS) y i0))/\((nth (t:=TVS) x i0)=(nth (t:=TVS) y i0))/\cond (!true) (K .ret (⟨[(4,dB false)],[]⟩:St)) (nxT (LP121_0 x y) m K (s121_0 x y (wrap64 (i0+Z1)) ()))) (K (.exit 0) (⟨[],[]⟩:St))):=by kernel_rfl
theorem con121_ok:aP P 121 c121:=aR C121 func121 (kC con89_ok kN) fun args hp K h0=>by
 obtain⟨x,y,rfl,rfl,h_x,h_y,p0,hK⟩:=g2e h0
 have h:ok (F.mO x y) (fun r=>K (dB r) []):=ak (F.vI x y h_x h_y p0) hK
 refine⟨rfl,ann121,(L121 x y),(.dat Ty.bool),(aL (i0:=0) (by kernel_rfl) ?_),?_⟩
 ·rintro _ _ K ⟨hc0,i0,v0,rfl,hl0,rfl,hv0,h⟩
  exact cast (lvc121_0 _ _ _ _ _ _).symm (aM h (fun ht0 h=>⟨hl0,⟨ht0,⟨hl0,(oG h fun _ h=>⟨(ay h_x i0),⟨(ay h_y i0),(oG h fun _ h=>(oC h (fun _ h=>h) fun _ h=>(aG (fun _ hm=>⟨hc0,hm⟩) _ rfl hl0 dS ht0 (aS h_x) trivial h)))⟩⟩)⟩⟩⟩) fun h=>(h trivial))
 ·rw[vc121]
  exact(oC h (fun _ h=>h) fun _ h=>(aE (fun m hm=>⟨trivial,hm⟩) Z0 _ rfl (Int.natCast_nonneg 0) trivial (aI h (fun v0 h hv0=>h) (fun q0 h=>h))))
def c56:Con:=⟨[.dat TTable,.dat TTable],fun args hp K=>g2 (pD TTable) (pD TTable) (fun x y=>(Sm TTable x)/\(Sm TTable y)/\(x=y)/\K (dB true) []) args hp,.plain,false⟩
abbrev C56:Ctx:=cx [(120,c120),(121,c121)] 17 [] 0 false
def ann56:=an [[.fixRow 2 TTable,.fixRow 3 TTable,kp 12],[kp 1036],[kp 16],[kp 65536],[kp 16],[kp 16]] []
theorem vc56 (x:TTable.D) (y:TTable.D) (K:KA):vcT C56 aq ann56 f56 [.data TTable x,.data TTable y] [] (.dat Ty.bool) K =
 ((Sm TCS x.1)/\(Sm TCS y.1)/\(x.1=y.1)/\cond (!true) (K (dB false) []) ((Sm (Ty.sl TVS) x.2.1)/\(Sm (Ty.sl TVS) y.2.1)/\(x.2.1=y.2.1)/\cond (!true) (K (dB false) []) (K (dB true) []))):=by kernel_rfl
theorem con56_ok:aP P 56 c56:=aR C56 func56 (kC con120_ok (kC con121_ok kN)) fun args hp K h0=>by
 obtain⟨x,y,rfl,rfl,h_x,h_y,p0,hK⟩:=g2e h0
 have h:ok (F.qe x y) (fun r=>K (dB r) []):=ak (F.ym x y h_x h_y p0) hK
 refine⟨rfl,ann56,aq,(.dat Ty.bool),(az (by kernel_rfl)),?_⟩
 ·rw[vc56]
  exact⟨h_x.1,⟨h_y.1,(oG h fun _ h=>(oC h (fun _ h=>h) fun b_2 h=>⟨h_x.2.1,⟨h_y.2.1,(oG h fun _ h=>(dN (unf (bnf b_2)) h))⟩⟩))⟩⟩
def c17:Con:=⟨[.dat TTb,.dat TTb],fun args hp K=>g2 (pD TTb) (pD TTb) (fun x y=>(Sm TTb x)/\(Sm TTb y)/\(x=y)/\K (dB true) []) args hp,.bor,false⟩
abbrev C17:Ctx:=cx [(56,c56)] 27 [] 0 false
def ann17:=an [[kp 3],[kp 1027],[kp 16],[kp 35],[kp 16419],[kp 35],[kp 67108899],[kp 16],[kp 16]] [[kp 0]]
abbrev s17_0 (x:LTb) (y:LTb) (i0:Int) (v0:Unit):St:=⟨[(0,.data TTb x),(1,.data TTb y),(5,dI i0)],[]⟩
abbrev LP17_0 (x:LTb) (y:LTb) (m:Nat) (st_:St) (K:KX):Prop:=True/\bg (s17_0 x y) Z0 (x.length:Int) (F.gW x y) (fun v0:Unit=>True) (aU (fun v0:Unit=>True->K (.exit 0) (⟨[],[]⟩:St)) (fun q0:Unit=>K .ret (⟨[(4,dB false)],[]⟩:St))) m st_
def L17 (x:LTb) (y:LTb):aX:=lp1 0 (LP17_0 x y)
theorem vc17 (x:LTb) (y:LTb) (K:KA):vcT C17 (L17 x y) ann17 f17 [.data TTb x,.data TTb y] [] (.dat Ty.bool) K =
 (cond (!decide ((x.length:Int)=(y.length:Int))) (K (dB false) []) (∃m_,True/\bg (s17_0 x y) Z0 (x.length:Int) (F.gW x y) (fun v0:Unit=>True) (aU (fun v0:Unit=>True->K (dB true) []) (fun q0:Unit=>K (dB false) [])) m_ (s17_0 x y Z0 ()))):=by kernel_rfl
theorem lvc17_0 (x:LTb) (y:LTb)  (i0:Int) (v0:Unit) (m:Nat) (K:KX):lvT C17 (L17 x y) ann17 f17 0 0 (s17_0 x y i0 v0) m K =
 (cond (decide (i0<(x.length:Int))) ((0<=i0)/\(i0<(x.length:Int))/\(0<=i0)/\(i0<(y.length:Int))/\(Sm TTable (nT x i0))/\(Sm TTable (nT y i0))/\((nT x i0)=(nT y i0))/\cond (!true) (K .ret (⟨[(4,dB false)],[]⟩:St)) (nxT (LP17_0 x y) m K (s17_0 x y (wrap64 (i0+Z1)) ()))) (K (.exit 0) (⟨[],[]⟩:St))):=by kernel_rfl
theorem con17_ok:aP P 17 c17:=aR C17 func17 (kC con56_ok kN) fun args hp K h0=>by
 obtain⟨x,y,rfl,rfl,h_x,h_y,p0,hK⟩:=g2e h0
 have h:ok (F.nX x y) (fun r=>K (dB r) []):=ak (F.vO x y h_x h_y p0) hK
 refine⟨rfl,ann17,(L17 x y),(.dat Ty.bool),(aL (i0:=0) (by kernel_rfl) ?_),?_⟩
 ·rintro _ _ K ⟨hc0,i0,v0,rfl,hl0,rfl,hv0,h⟩
  exact cast (lvc17_0 _ _ _ _ _ _).symm (aM h (fun ht0 h=>⟨hl0,⟨ht0,⟨hl0,(oG h fun _ h=>⟨(ay h_x i0),⟨(ay h_y i0),(oG h fun _ h=>(oC h (fun _ h=>h) fun _ h=>(aG (fun _ hm=>⟨hc0,hm⟩) _ rfl hl0 dS ht0 (aS h_x) trivial h)))⟩⟩)⟩⟩⟩) fun h=>(h trivial))
 ·rw[vc17]
  exact(oC h (fun _ h=>h) fun _ h=>(aE (fun m hm=>⟨trivial,hm⟩) Z0 _ rfl (Int.natCast_nonneg 0) trivial (aI h (fun v0 h hv0=>h) (fun q0 h=>h))))
def c122:Con:=⟨[.dat (Ty.sl au),.dat (Ty.sl au)],fun args hp K=>g2 (pD (Ty.sl au)) (pD (Ty.sl au)) (fun x y=>(Sm (Ty.sl au) x)/\(Sm (Ty.sl au) y)/\(x=y)/\K (dB true) []) args hp,.bor,false⟩
abbrev C122:Ctx:=cx [] 26 [] 0 false
def ann122:=an [[kp 3],[kp 1027],[kp 16],[kp 35],[kp 16419],[kp 35],[kp 33554467],[kp 16],[kp 16]] [[kp 0]]
abbrev s122_0 (x:LI) (y:LI) (i0:Int) (v0:Unit):St:=⟨[(0,.data (Ty.sl au) x),(1,.data (Ty.sl au) y),(5,dI i0)],[]⟩
abbrev LP122_0 (x:LI) (y:LI) (m:Nat) (st_:St) (K:KX):Prop:=True/\bg (s122_0 x y) Z0 (x.length:Int) (F.jC x y) (fun v0:Unit=>True) (aU (fun v0:Unit=>True->K (.exit 0) (⟨[],[]⟩:St)) (fun q0:Unit=>K .ret (⟨[(4,dB false)],[]⟩:St))) m st_
def L122 (x:LI) (y:LI):aX:=lp1 0 (LP122_0 x y)
theorem vc122 (x:LI) (y:LI) (K:KA):vcT C122 (L122 x y) ann122 f122 [.data (Ty.sl au) x,.data (Ty.sl au) y] [] (.dat Ty.bool) K =
 (cond (!decide ((x.length:Int)=(y.length:Int))) (K (dB false) []) (∃m_,True/\bg (s122_0 x y) Z0 (x.length:Int) (F.jC x y) (fun v0:Unit=>True) (aU (fun v0:Unit=>True->K (dB true) []) (fun q0:Unit=>K (dB false) [])) m_ (s122_0 x y Z0 ()))):=by kernel_rfl
theorem lvc122_0 (x:LI) (y:LI)  (i0:Int) (v0:Unit) (m:Nat) (K:KX):lvT C122 (L122 x y) ann122 f122 0 0 (s122_0 x y i0 v0) m K =
 (cond (decide (i0<(x.length:Int))) ((0<=i0)/\(i0<(x.length:Int))/\(0<=i0)/\(i0<(y.length:Int))/\cond (!decide ((nI x i0)=(nI y i0))) (K .ret (⟨[(4,dB false)],[]⟩:St)) (nxT (LP122_0 x y) m K (s122_0 x y (wrap64 (i0+Z1)) ()))) (K (.exit 0) (⟨[],[]⟩:St))):=by kernel_rfl
theorem con122_ok:aP P 122 c122:=aR C122 func122 kN fun args hp K h0=>by
 obtain⟨x,y,rfl,rfl,h_x,h_y,p0,hK⟩:=g2e h0
 have h:ok (F.qR x y) (fun r=>K (dB r) []):=ak (F.Ac x y h_x h_y p0) hK
 refine⟨rfl,ann122,(L122 x y),(.dat Ty.bool),(aL (i0:=0) (by kernel_rfl) ?_),?_⟩
 ·rintro _ _ K ⟨hc0,i0,v0,rfl,hl0,rfl,hv0,h⟩
  exact cast (lvc122_0 _ _ _ _ _ _).symm (aM h (fun ht0 h=>⟨hl0,⟨ht0,⟨hl0,(oG h fun _ h=>(oC h (fun _ h=>h) fun _ h=>(aG (fun _ hm=>⟨hc0,hm⟩) _ rfl hl0 dS ht0 (aS h_x) trivial h)))⟩⟩⟩) fun h=>(h trivial))
 ·rw[vc122]
  exact(oC h (fun _ h=>h) fun _ h=>(aE (fun m hm=>⟨trivial,hm⟩) Z0 _ rfl (Int.natCast_nonneg 0) trivial (aI h (fun v0 h hv0=>h) (fun q0 h=>h))))
def c183:Con:=⟨[.dat ax,.dat ax],fun args hp K=>g2 (pD ax) (pD ax) (fun x y=>(Sm ax x)/\(Sm ax y)/\(x=y)/\K (dB true) []) args hp,.plain,false⟩
abbrev C183:Ctx:=cx [(157,c157)] 21 [] 0 false
def ann183:=an [[.fixRow 2 ax,.fixRow 3 ax,kp 12],[kp 524],[kp 16],[kp 16396],[kp 16],[kp 1048576],[kp 16],[kp 16]] []
theorem vc183 (x:ax.D) (y:ax.D) (K:KA):vcT C183 aq ann183 f183 [.data ax x,.data ax y] [] (.dat Ty.bool) K =
 (cond (!decide (x.1=y.1)) (K (dB false) []) (cond (!decide (x.2.1=y.2.1)) (K (dB false) []) ((Sm aa x.2.2.1)/\(Sm aa y.2.2.1)/\(x.2.2.1=y.2.2.1)/\cond (!true) (K (dB false) []) (K (dB true) [])))):=by kernel_rfl
theorem con183_ok:aP P 183 c183:=aR C183 func183 (kC con157_ok kN) fun args hp K h0=>by
 obtain⟨x,y,rfl,rfl,h_x,h_y,p0,hK⟩:=g2e h0
 have h:ok (F.rC x y) (fun r=>K (dB r) []):=ak (F.Af x y h_x h_y p0) hK
 refine⟨rfl,ann183,aq,(.dat Ty.bool),(az (by kernel_rfl)),?_⟩
 ·rw[vc183]
  exact(oC h (fun _ h=>h) fun _ h=>(oC h (fun _ h=>h) fun _ h=>⟨h_x.2.2.1,⟨h_y.2.2.1,(oG h fun _ h=>(oC h (fun _ h=>h) fun _ h=>h))⟩⟩))
def c123:Con:=⟨[.dat TPS,.dat TPS],fun args hp K=>g2 (pD TPS) (pD TPS) (fun x y=>(Sm TPS x)/\(Sm TPS y)/\(x=y)/\K (dB true) []) args hp,.bor,false⟩
abbrev C123:Ctx:=cx [(183,c183)] 27 [] 0 false
def ann123:=an [[kp 3],[kp 1027],[kp 16],[kp 35],[kp 16419],[kp 35],[kp 67108899],[kp 16],[kp 16]] [[kp 0]]
abbrev s123_0 (x:LPt) (y:LPt) (i0:Int) (v0:Unit):St:=⟨[(0,.data TPS x),(1,.data TPS y),(5,dI i0)],[]⟩
abbrev LP123_0 (x:LPt) (y:LPt) (m:Nat) (st_:St) (K:KX):Prop:=True/\bg (s123_0 x y) Z0 (x.length:Int) (F.iH x y) (fun v0:Unit=>True) (aU (fun v0:Unit=>True->K (.exit 0) (⟨[],[]⟩:St)) (fun q0:Unit=>K .ret (⟨[(4,dB false)],[]⟩:St))) m st_
def L123 (x:LPt) (y:LPt):aX:=lp1 0 (LP123_0 x y)
theorem vc123 (x:LPt) (y:LPt) (K:KA):vcT C123 (L123 x y) ann123 f123 [.data TPS x,.data TPS y] [] (.dat Ty.bool) K =
 (cond (!decide ((x.length:Int)=(y.length:Int))) (K (dB false) []) (∃m_,True/\bg (s123_0 x y) Z0 (x.length:Int) (F.iH x y) (fun v0:Unit=>True) (aU (fun v0:Unit=>True->K (dB true) []) (fun q0:Unit=>K (dB false) [])) m_ (s123_0 x y Z0 ()))):=by kernel_rfl
theorem lvc123_0 (x:LPt) (y:LPt)  (i0:Int) (v0:Unit) (m:Nat) (K:KX):lvT C123 (L123 x y) ann123 f123 0 0 (s123_0 x y i0 v0) m K =
 (cond (decide (i0<(x.length:Int))) ((0<=i0)/\(i0<(x.length:Int))/\(0<=i0)/\(i0<(y.length:Int))/\(Sm ax (nP x i0))/\(Sm ax (nP y i0))/\((nP x i0)=(nP y i0))/\cond (!true) (K .ret (⟨[(4,dB false)],[]⟩:St)) (nxT (LP123_0 x y) m K (s123_0 x y (wrap64 (i0+Z1)) ()))) (K (.exit 0) (⟨[],[]⟩:St))):=by kernel_rfl
theorem con123_ok:aP P 123 c123:=aR C123 func123 (kC con183_ok kN) fun args hp K h0=>by
 obtain⟨x,y,rfl,rfl,h_x,h_y,p0,hK⟩:=g2e h0
 have h:ok (F.oU x y) (fun r=>K (dB r) []):=ak (F.yx x y h_x h_y p0) hK
 refine⟨rfl,ann123,(L123 x y),(.dat Ty.bool),(aL (i0:=0) (by kernel_rfl) ?_),?_⟩
 ·rintro _ _ K ⟨hc0,i0,v0,rfl,hl0,rfl,hv0,h⟩
  exact cast (lvc123_0 _ _ _ _ _ _).symm (aM h (fun ht0 h=>⟨hl0,⟨ht0,⟨hl0,(oG h fun _ h=>⟨(ay h_x i0),⟨(ay h_y i0),(oG h fun _ h=>(oC h (fun _ h=>h) fun _ h=>(aG (fun _ hm=>⟨hc0,hm⟩) _ rfl hl0 dS ht0 (aS h_x) trivial h)))⟩⟩)⟩⟩⟩) fun h=>(h trivial))
 ·rw[vc123]
  exact(oC h (fun _ h=>h) fun _ h=>(aE (fun m hm=>⟨trivial,hm⟩) Z0 _ rfl (Int.natCast_nonneg 0) trivial (aI h (fun v0 h hv0=>h) (fun q0 h=>h))))
def c57:Con:=⟨[.dat TBond,.dat TBond],fun args hp K=>g2 (pD TBond) (pD TBond) (fun x y=>(Sm TBond x)/\(Sm TBond y)/\(x=y)/\K (dB true) []) args hp,.plain,false⟩
abbrev C57:Ctx:=cx [(122,c122),(123,c123)] 43 [] 0 false
def ann57:=an [[.fixRow 2 TBond,.fixRow 3 TBond,kp 12],[kp 524],[kp 16],[kp 16396],[kp 16],[kp 1048588],[kp 16],[kp 33554444],[kp 16],[kp 2147483660],[kp 16],[kp 68719476748],[kp 16],[.keep [42]],[kp 16],[kp 16]] []
theorem vc57 (x:TBond.D) (y:TBond.D) (K:KA):vcT C57 aq ann57 f57 [.data TBond x,.data TBond y] [] (.dat Ty.bool) K =
 (cond (!decide (x.1=y.1)) (K (dB false) []) (cond (!decide (x.2.1=y.2.1)) (K (dB false) []) ((Sm (Ty.sl au) x.2.2.1)/\(Sm (Ty.sl au) y.2.2.1)/\(x.2.2.1=y.2.2.1)/\cond (!true) (K (dB false) []) (cond (!decide (x.2.2.2.1=y.2.2.2.1)) (K (dB false) []) ((Sm (Ty.sl au) x.2.2.2.2.1)/\(Sm (Ty.sl au) y.2.2.2.2.1)/\(x.2.2.2.2.1=y.2.2.2.2.1)/\cond (!true) (K (dB false) []) (cond (!(Ty.beq Ty.bool x.2.2.2.2.2.1 y.2.2.2.2.2.1)) (K (dB false) []) ((Sm TPS x.2.2.2.2.2.2.1)/\(Sm TPS y.2.2.2.2.2.2.1)/\(x.2.2.2.2.2.2.1=y.2.2.2.2.2.2.1)/\cond (!true) (K (dB false) []) (K (dB true) [])))))))):=by kernel_rfl
theorem con57_ok:aP P 57 c57:=aR C57 func57 (kC con122_ok (kC con123_ok kN)) fun args hp K h0=>by
 obtain⟨x,y,rfl,rfl,h_x,h_y,p0,hK⟩:=g2e h0
 have h:ok (F.rL x y) (fun r=>K (dB r) []):=ak (F.Au x y h_x h_y p0) hK
 refine⟨rfl,ann57,aq,(.dat Ty.bool),(az (by kernel_rfl)),?_⟩
 ·rw[vc57]
  exact(oC h (fun _ h=>h) fun _ h=>(oC h (fun _ h=>h) fun _ h=>⟨h_x.2.2.1,⟨h_y.2.2.1,(oG h fun _ h=>(oC h (fun _ h=>h) fun b_4 h=>(oC h (fun _ h=>h) fun _ h=>⟨h_x.2.2.2.2.1,⟨h_y.2.2.2.2.1,(oG h fun _ h=>(dN (unf (bnf b_4)) (oC h (fun _ h=>h) fun _ h=>⟨h_x.2.2.2.2.2.2.1,⟨h_y.2.2.2.2.2.2.1,(oG h fun _ h=>(dN (unf (bnf b_4)) h))⟩⟩)))⟩⟩)))⟩⟩))
def c18:Con:=⟨[.dat (Ty.sl TBond),.dat (Ty.sl TBond)],fun args hp K=>g2 (pD (Ty.sl TBond)) (pD (Ty.sl TBond)) (fun x y=>(Sm (Ty.sl TBond) x)/\(Sm (Ty.sl TBond) y)/\(x=y)/\K (dB true) []) args hp,.bor,false⟩
abbrev C18:Ctx:=cx [(57,c57)] 27 [] 0 false
def ann18:=an [[kp 3],[kp 1027],[kp 16],[kp 35],[kp 16419],[kp 35],[kp 67108899],[kp 16],[kp 16]] [[kp 0]]
abbrev s18_0 (x:(List TBond.D)) (y:(List TBond.D)) (i0:Int) (v0:Unit):St:=⟨[(0,.data (Ty.sl TBond) x),(1,.data (Ty.sl TBond) y),(5,dI i0)],[]⟩
abbrev LP18_0 (x:(List TBond.D)) (y:(List TBond.D)) (m:Nat) (st_:St) (K:KX):Prop:=True/\bg (s18_0 x y) Z0 (x.length:Int) (F.iE x y) (fun v0:Unit=>True) (aU (fun v0:Unit=>True->K (.exit 0) (⟨[],[]⟩:St)) (fun q0:Unit=>K .ret (⟨[(4,dB false)],[]⟩:St))) m st_
def L18 (x:(List TBond.D)) (y:(List TBond.D)):aX:=lp1 0 (LP18_0 x y)
theorem vc18 (x:(List TBond.D)) (y:(List TBond.D)) (K:KA):vcT C18 (L18 x y) ann18 f18 [.data (Ty.sl TBond) x,.data (Ty.sl TBond) y] [] (.dat Ty.bool) K =
 (cond (!decide ((x.length:Int)=(y.length:Int))) (K (dB false) []) (∃m_,True/\bg (s18_0 x y) Z0 (x.length:Int) (F.iE x y) (fun v0:Unit=>True) (aU (fun v0:Unit=>True->K (dB true) []) (fun q0:Unit=>K (dB false) [])) m_ (s18_0 x y Z0 ()))):=by kernel_rfl
theorem lvc18_0 (x:(List TBond.D)) (y:(List TBond.D))  (i0:Int) (v0:Unit) (m:Nat) (K:KX):lvT C18 (L18 x y) ann18 f18 0 0 (s18_0 x y i0 v0) m K =
 (cond (decide (i0<(x.length:Int))) ((0<=i0)/\(i0<(x.length:Int))/\(0<=i0)/\(i0<(y.length:Int))/\(Sm TBond (nth (t:=TBond) x i0))/\(Sm TBond (nth (t:=TBond) y i0))/\((nth (t:=TBond) x i0)=(nth (t:=TBond) y i0))/\cond (!true) (K .ret (⟨[(4,dB false)],[]⟩:St)) (nxT (LP18_0 x y) m K (s18_0 x y (wrap64 (i0+Z1)) ()))) (K (.exit 0) (⟨[],[]⟩:St))):=by kernel_rfl
theorem con18_ok:aP P 18 c18:=aR C18 func18 (kC con57_ok kN) fun args hp K h0=>by
 obtain⟨x,y,rfl,rfl,h_x,h_y,p0,hK⟩:=g2e h0
 have h:ok (F.pG x y) (fun r=>K (dB r) []):=ak (F.yo x y h_x h_y p0) hK
 refine⟨rfl,ann18,(L18 x y),(.dat Ty.bool),(aL (i0:=0) (by kernel_rfl) ?_),?_⟩
 ·rintro _ _ K ⟨hc0,i0,v0,rfl,hl0,rfl,hv0,h⟩
  exact cast (lvc18_0 _ _ _ _ _ _).symm (aM h (fun ht0 h=>⟨hl0,⟨ht0,⟨hl0,(oG h fun _ h=>⟨(ay h_x i0),⟨(ay h_y i0),(oG h fun _ h=>(oC h (fun _ h=>h) fun _ h=>(aG (fun _ hm=>⟨hc0,hm⟩) _ rfl hl0 dS ht0 (aS h_x) trivial h)))⟩⟩)⟩⟩⟩) fun h=>(h trivial))
 ·rw[vc18]
  exact(oC h (fun _ h=>h) fun _ h=>(aE (fun m hm=>⟨trivial,hm⟩) Z0 _ rfl (Int.natCast_nonneg 0) trivial (aI h (fun v0 h hv0=>h) (fun q0 h=>h))))
def c58:Con:=⟨[.dat au],fun args hp K=>hpN 1000000 .sh ai (fun x=>args2 (fun a0 a1=>uJ 1000000 (x.length:Int) a0 (ja au a1 fun k=>(Ln TCS x)/\(0<=k)/\(k+(M.count TCS x:Int)<=M.big)/\(LD (M.mark TCS x k,k+(M.count TCS x:Int)) fun r=>K (dI r.2) [(1000000,.arr .sh ai r.1)]))) args []) hp,.io,false⟩
abbrev C58:Ctx:=cx [] 29 [] 0 false
def ann58:=an [[kp 3],[kp 35],[kp 547],[kp 35],[kp 35],[kp 35],[kp 35],[kp 35],[kp 16]] [[kp 2]]
abbrev s58_0 (x:LC) (k:Int) (i0:Int) (v0:Int×LC):St:=⟨[(0,.clp 1000000 (x.length:Int)),(1,dI v0.1),(5,dI i0)],[(1000000,.arr .sh ai v0.2)]⟩
abbrev LP58_0 (x:LC) (k:Int) (m:Nat) (st_:St) (K:KX):Prop:=True/\bg (s58_0 x k) Z0 (x.length:Int) (F.eV x k) (fun v0:Int×LC=>True) (aU (fun v0:Int×LC=>True->K (.exit 0) (⟨[(1,dI v0.1)],[(1000000,.arr .sh ai v0.2)]⟩:St)) (fun _=>False)) m st_
def L58 (x:LC) (k:Int):aX:=lp1 0 (LP58_0 x k)
theorem vc58 (x:LC) (k:Int) (K:KA):vcT C58 (L58 x k) ann58 f58 [.clp 1000000 (x.length:Int),dI k] [(1000000,.arr .sh ai x)] .raw K =
 (∃m_,True/\bg (s58_0 x k) Z0 (x.length:Int) (F.eV x k) (fun v0:Int×LC=>True) (aU (fun v0:Int×LC=>True->K (dI v0.1) [(1000000,.arr .sh ai v0.2)]) (fun _=>False)) m_ (s58_0 x k Z0 (k,x))):=by kernel_rfl
theorem lvc58_0 (x:LC) (k:Int)  (i0:Int) (v0:Int×LC) (m:Nat) (K:KX):lvT C58 (L58 x k) ann58 f58 0 0 (s58_0 x k i0 v0) m K =
 (cond (decide (i0<(x.length:Int))) ((0<=i0)/\(i0<(x.length:Int))/\(Z3≠0)/\(0<=i0)/\(i0<(x.length:Int))/\(let y1:LC:=((v0.2.set i0.toNat (v0.1,(nC v0.2 i0).2)).set i0.toNat ((nC (v0.2.set i0.toNat (v0.1,(nC v0.2 i0).2)) i0).1,((decide (((wrap64 (v0.1+Z1)).tmod Z3)=Z0)),())));(nxT (LP58_0 x k) m K (s58_0 x k (wrap64 (i0+Z1)) (wrap64 (wrap64 (v0.1+Z1)+Z1),y1))))) (K (.exit 0) (⟨[(1,dI v0.1)],[(1000000,.arr .sh ai v0.2)]⟩:St))):=by kernel_rfl
theorem con58_ok:aP P 58 c58:=aR C58 func58 kN fun args hp K h0=>by
 unfold c58 at h0
 dsimp only at h0
 obtain⟨x,rfl,h00⟩:=jr (n:=1000000) (d:=.sh) (t:=ai) h0
 obtain⟨a0,a1,rfl,_,h1⟩:=bu h00
 obtain⟨rfl,h2⟩:=iU h1
 obtain⟨k,rfl,h3⟩:=bX h2
 obtain⟨h_x,p0,p1,hK⟩:=h3
 have h:ok (F.jV x k) (fun r=>K (dI r.2) [(1000000,.arr .sh ai r.1)]):=ak (F.sP x k h_x p0 p1) (hK _ rfl)
 refine⟨rfl,ann58,(L58 x k),.raw,(aL (i0:=0) (by kernel_rfl) ?_),?_⟩
 ·rintro _ _ K ⟨hc0,i0,v0,rfl,hl0,rfl,hv0,h⟩
  exact cast (lvc58_0 _ _ _ _ _ _).symm (aM h (fun ht0 h=>⟨hl0,⟨ht0,⟨(by decide),⟨hl0,⟨ht0,(have h:=fH h _ rfl;(aG (fun _ hm=>⟨hc0,hm⟩) _ rfl hl0 dS ht0 (aS h_x) trivial h))⟩⟩⟩⟩⟩) fun h=>(h trivial))
 ·rw[vc58]
  exact(aE (fun m hm=>⟨trivial,hm⟩) Z0 _ rfl (Int.natCast_nonneg 0) trivial (aI h (fun v0 h hv0=>h) (fun _ h=>h.elim)))
def c124:Con:=⟨[.dat au],fun args hp K=>g1 (pD au) (fun k=>(k<=M.big)/\(LD (M.eK k) fun r=>K (.data Ty.str r) [])) args hp,.plain,false⟩
abbrev C124:Ctx:=cx [] 20 [] 0 false
def ann124:=an [[kp 1],[kp 33],[kp 4],[kp 9],[kp 137],[kp 9],[kp 9],[kp 4]] [[kp 8]]
abbrev s124_0 (k:Int) (v0:Int×ByteArray):St:=⟨[(0,dI v0.1),(3,.data Ty.str v0.2)],[]⟩
abbrev LP124_0 (k:Int) (m:Nat) (st_:St) (K:KX):Prop:=True/\jH (s124_0 k) (F.gV k) (fun v0:Int×ByteArray=>True) (fun e0:ByteArray=>True->K (.exit 0) (⟨[(3,.data Ty.str e0)],[]⟩:St)) m st_
def L124 (k:Int):aX:=lp1 0 (LP124_0 k)
theorem vc124 (k:Int) (K:KA):vcT C124 (L124 k) ann124 f124 [dI k] [] (.dat Ty.str) K =
 (cond (decide (k<=Z0)) (K (.data Ty.str (⟨#[109,48]⟩:ByteArray)) []) (∃m_,True/\jH (s124_0 k) (F.gV k) (fun v0:Int×ByteArray=>True) (fun e0:ByteArray=>True->((⟨#[109]⟩:ByteArray).size+e0.size<=9223372036854775807)/\K (.data Ty.str ((⟨#[109]⟩:ByteArray)++e0)) []) m_ (s124_0 k (k,(⟨#[]⟩:ByteArray))))):=by kernel_rfl
theorem lvc124_0 (k:Int)  (v0:Int×ByteArray) (m:Nat) (K:KX):lvT C124 (L124 k) ann124 f124 0 0 (s124_0 k v0) m K =
 (cond (decide (Z0<v0.1)) (((10:Int)≠0)/\((strOf [((wrap64 ((48:Int)+(v0.1.tmod (10:Int)))) % 256)]).size+v0.2.size<=9223372036854775807)/\((10:Int)≠0)/\(nxT (LP124_0 k) m K (s124_0 k (wrap64 (v0.1.tdiv (10:Int)),((strOf [((wrap64 ((48:Int)+(v0.1.tmod (10:Int)))) % 256)])++v0.2))))) (K (.exit 0) (⟨[(3,.data Ty.str v0.2)],[]⟩:St))):=by kernel_rfl
theorem con124_ok:aP P 124 c124:=aR C124 func124 kN fun args hp K h0=>by
 obtain⟨k,rfl,rfl,p0,hK⟩:=g1e h0
 have h:ok (F.nE k) (fun r=>K (.data Ty.str r) []):=ak (F.wW k p0) (hK _ rfl)
 refine⟨rfl,ann124,(L124 k),(.dat Ty.str),(aL (i0:=0) (by kernel_rfl) ?_),?_⟩
 ·rintro _ _ K ⟨hc0,v0,rfl,hv0,h⟩
  exact cast (lvc124_0 _ _ _ _).symm (gI h (fun m1 hm0 h=>(oC h (fun _ h=>⟨(by decide),(oG h fun _ h=>⟨(by decide),(eN (fun _ hm=>⟨hc0,hm⟩) hm0 _ rfl trivial h)⟩)⟩) fun _ h=>((lz h :) trivial))))
 ·rw[vc124]
  exact(oC h (fun _ h=>h) fun _ h=>(fE (fun m hm=>⟨trivial,hm⟩) _ rfl trivial (pK h (fun e0 h hv0=>(oG h fun _ h=>h)))))
def c62:Con:=⟨[.dat au],fun args hp K=>hpN 1000000 .sh aa (fun x=>args2 (fun a0 a1=>uJ 1000000 (x.length:Int) a0 (ja au a1 fun k=>(Ln TVS x)/\(0<=k)/\(k+(M.count TVS x:Int)<=M.big)/\(LD (M.mark TVS x k,k+(M.count TVS x:Int)) fun r=>K (dI r.2) [(1000000,.arr .sh aa r.1)]))) args []) hp,.io,false⟩
abbrev C62:Ctx:=cx [(124,c124)] 35 [] 0 false
def ann62:=an [[kp 3],[kp 35],[kp 547],[kp 35],[kp 35],[kp 35],[kp 35],[kp 35],[kp 35],[kp 35],[kp 16]] [[kp 2]]
abbrev s62_0 (x:LV) (k:Int) (i0:Int) (v0:Int×LV):St:=⟨[(0,.clp 1000000 (x.length:Int)),(1,dI v0.1),(5,dI i0)],[(1000000,.arr .sh aa v0.2)]⟩
abbrev LP62_0 (x:LV) (k:Int) (m:Nat) (st_:St) (K:KX):Prop:=True/\bg (s62_0 x k) Z0 (x.length:Int) (F.fK x k) (fun v0:Int×LV=>True) (aU (fun v0:Int×LV=>True->K (.exit 0) (⟨[(1,dI v0.1)],[(1000000,.arr .sh aa v0.2)]⟩:St)) (fun _=>False)) m st_
def L62 (x:LV) (k:Int):aX:=lp1 0 (LP62_0 x k)
theorem vc62 (x:LV) (k:Int) (K:KA):vcT C62 (L62 x k) ann62 f62 [.clp 1000000 (x.length:Int),dI k] [(1000000,.arr .sh aa x)] .raw K =
 (∃m_,True/\bg (s62_0 x k) Z0 (x.length:Int) (F.fK x k) (fun v0:Int×LV=>True) (aU (fun v0:Int×LV=>True->K (dI v0.1) [(1000000,.arr .sh aa v0.2)]) (fun _=>False)) m_ (s62_0 x k Z0 (k,x))):=by kernel_rfl
theorem lvc62_0 (x:LV) (k:Int)  (i0:Int) (v0:Int×LV) (m:Nat) (K:KX):lvT C62 (L62 x k) ann62 f62 0 0 (s62_0 x k i0 v0) m K =
 (cond (decide (i0<(x.length:Int))) ((0<=i0)/\(i0<(x.length:Int))/\(0<=i0)/\(i0<(x.length:Int))/\(let y1:LV:=((v0.2.set i0.toNat (v0.1,(nV v0.2 i0).2)).set i0.toNat ((nV (v0.2.set i0.toNat (v0.1,(nV v0.2 i0).2)) i0).1,(wrap64 (v0.1+Z1),(nV (v0.2.set i0.toNat (v0.1,(nV v0.2 i0).2)) i0).2.2)));((wrap64 (wrap64 (v0.1+Z1)+Z1))<=M.big)/\(LD (M.eK (wrap64 (wrap64 (v0.1+Z1)+Z1))) fun r1=>(0<=i0)/\(i0<(x.length:Int))/\(let y2:LV:=(y1.set i0.toNat ((nV y1 i0).1,((nV y1 i0).2.1,(r1,()))));(nxT (LP62_0 x k) m K (s62_0 x k (wrap64 (i0+Z1)) (wrap64 (wrap64 (wrap64 (v0.1+Z1)+Z1)+Z1),y2))))))) (K (.exit 0) (⟨[(1,dI v0.1)],[(1000000,.arr .sh aa v0.2)]⟩:St))):=by kernel_rfl
theorem con62_ok:aP P 62 c62:=aR C62 func62 (kC con124_ok kN) fun args hp K h0=>by
 unfold c62 at h0
 dsimp only at h0
 obtain⟨x,rfl,h00⟩:=jr (n:=1000000) (d:=.sh) (t:=aa) h0
 obtain⟨a0,a1,rfl,_,h1⟩:=bu h00
 obtain⟨rfl,h2⟩:=iU h1
 obtain⟨k,rfl,h3⟩:=bX h2
 obtain⟨h_x,p0,p1,hK⟩:=h3
 have h:ok (F.kW x k) (fun r=>K (dI r.2) [(1000000,.arr .sh aa r.1)]):=ak (F.tH x k h_x p0 p1) (hK _ rfl)
 refine⟨rfl,ann62,(L62 x k),.raw,(aL (i0:=0) (by kernel_rfl) ?_),?_⟩
 ·rintro _ _ K ⟨hc0,i0,v0,rfl,hl0,rfl,hv0,h⟩
  exact cast (lvc62_0 _ _ _ _ _ _).symm (aM h (fun ht0 h=>⟨hl0,⟨ht0,⟨hl0,⟨ht0,(have h:=fH h _ rfl;(oG h fun _ h=>(oL h fun _ _ h=>⟨hl0,⟨ht0,(have h:=fH h _ rfl;(aG (fun _ hm=>⟨hc0,hm⟩) _ rfl hl0 dS ht0 (aS h_x) trivial h))⟩⟩)))⟩⟩⟩⟩) fun h=>(h trivial))
 ·rw[vc62]
  exact(aE (fun m hm=>⟨trivial,hm⟩) Z0 _ rfl (Int.natCast_nonneg 0) trivial (aI h (fun v0 h hv0=>h) (fun _ h=>h.elim)))
def c59:Con:=⟨[.dat au],fun args hp K=>hpN 1000000 .dp TVS (fun x=>args2 (fun a0 a1=>uJ 1000000 (x.length:Int) a0 (ja au a1 fun k=>(Ln (Ty.sl TVS) x)/\(0<=k)/\(k+(M.count (Ty.sl TVS) x:Int)<=M.big)/\(LD (M.mark (Ty.sl TVS) x k,k+(M.count (Ty.sl TVS) x:Int)) fun r=>K (dI r.2) [(1000000,.arr .dp TVS r.1)]))) args []) hp,.io,false⟩
abbrev C59:Ctx:=cx [(62,c62)] 19 [] 0 false
def ann59:=an [[kp 3],[kp 35],[kp 547],[kp 35],[kp 35],[kp 16]] [[kp 2]]
abbrev s59_0 (x:(List LV)) (k:Int) (i0:Int) (v0:Int×(List LV)):St:=⟨[(0,.clp 1000000 (x.length:Int)),(1,dI v0.1),(5,dI i0)],[(1000000,.arr .dp TVS v0.2)]⟩
abbrev LP59_0 (x:(List LV)) (k:Int) (m:Nat) (st_:St) (K:KX):Prop:=True/\bg (s59_0 x k) Z0 (x.length:Int) (F.eX x k) (fun v0:Int×(List LV)=>True) (aU (fun v0:Int×(List LV)=>True->K (.exit 0) (⟨[(1,dI v0.1)],[(1000000,.arr .dp TVS v0.2)]⟩:St)) (fun _=>False)) m st_
def L59 (x:(List LV)) (k:Int):aX:=lp1 0 (LP59_0 x k)
theorem vc59 (x:(List LV)) (k:Int) (K:KA):vcT C59 (L59 x k) ann59 f59 [.clp 1000000 (x.length:Int),dI k] [(1000000,.arr .dp TVS x)] .raw K =
 (∃m_,True/\bg (s59_0 x k) Z0 (x.length:Int) (F.eX x k) (fun v0:Int×(List LV)=>True) (aU (fun v0:Int×(List LV)=>True->K (dI v0.1) [(1000000,.arr .dp TVS v0.2)]) (fun _=>False)) m_ (s59_0 x k Z0 (k,x))):=by kernel_rfl
theorem lvc59_0 (x:(List LV)) (k:Int)  (i0:Int) (v0:Int×(List LV)) (m:Nat) (K:KX):lvT C59 (L59 x k) ann59 f59 0 0 (s59_0 x k i0 v0) m K =
 (cond (decide (i0<(x.length:Int))) ((0<=i0)/\(i0<(x.length:Int))/\(((nth (t:=TVS) v0.2 i0).length:Int)=((nth (t:=TVS) v0.2 i0).length:Int))/\(Ln TVS (nth (t:=TVS) v0.2 i0))/\(0<=v0.1)/\(v0.1+(M.count TVS (nth (t:=TVS) v0.2 i0):Int)<=M.big)/\(LD (M.mark TVS (nth (t:=TVS) v0.2 i0) v0.1,v0.1+(M.count TVS (nth (t:=TVS) v0.2 i0):Int)) fun r1=>(r1.1.length=(nth (t:=TVS) v0.2 i0).length)/\(nxT (LP59_0 x k) m K (s59_0 x k (wrap64 (i0+Z1)) (r1.2,(v0.2.set i0.toNat r1.1)))))) (K (.exit 0) (⟨[(1,dI v0.1)],[(1000000,.arr .dp TVS v0.2)]⟩:St))):=by kernel_rfl
theorem con59_ok:aP P 59 c59:=aR C59 func59 (kC con62_ok kN) fun args hp K h0=>by
 unfold c59 at h0
 dsimp only at h0
 obtain⟨x,rfl,h00⟩:=jr (n:=1000000) (d:=.dp) (t:=TVS) h0
 obtain⟨a0,a1,rfl,_,h1⟩:=bu h00
 obtain⟨rfl,h2⟩:=iU h1
 obtain⟨k,rfl,h3⟩:=bX h2
 obtain⟨h_x,p0,p1,hK⟩:=h3
 have h:ok (F.jS x k) (fun r=>K (dI r.2) [(1000000,.arr .dp TVS r.1)]):=ak (F.sK x k h_x p0 p1) (hK _ rfl)
 refine⟨rfl,ann59,(L59 x k),.raw,(aL (i0:=0) (by kernel_rfl) ?_),?_⟩
 ·rintro _ _ K ⟨hc0,i0,v0,rfl,hl0,rfl,hv0,h⟩
  exact cast (lvc59_0 _ _ _ _ _ _).symm (aM h (fun ht0 h=>⟨hl0,⟨ht0,⟨rfl,(oG h fun _ h=>(oG h fun _ h=>(oG h fun _ h=>(oL h fun _ er1 h=>⟨(by rw[er1];exact(M.fQ aa _ _)),(aG (fun _ hm=>⟨hc0,hm⟩) _ rfl hl0 dS ht0 (aS h_x) trivial h)⟩))))⟩⟩⟩) fun h=>(h trivial))
 ·rw[vc59]
  exact(aE (fun m hm=>⟨trivial,hm⟩) Z0 _ rfl (Int.natCast_nonneg 0) trivial (aI h (fun v0 h hv0=>h) (fun _ h=>h.elim)))
def c20:Con:=⟨[.dat au],fun args hp K=>hpN 1000000 .dp TTable (fun x=>args2 (fun a0 a1=>uJ 1000000 (x.length:Int) a0 (ja au a1 fun k=>(Ln TTb x)/\(0<=k)/\(k+(M.count TTb x:Int)<=M.big)/\(LD (M.mark TTb x k,k+(M.count TTb x:Int)) fun r=>K (dI r.2) [(1000000,.arr .dp TTable r.1)]))) args []) hp,.io,false⟩
abbrev C20:Ctx:=cx [(58,c58),(59,c59)] 27 [] 0 false
def ann20:=an [[kp 3],[kp 35],[kp 547],[kp 35],[kp 35],[kp 35],[kp 16]] [[kp 2]]
abbrev s20_0 (x:LTb) (k:Int) (i0:Int) (v0:Int×LTb):St:=⟨[(0,.clp 1000000 (x.length:Int)),(1,dI v0.1),(5,dI i0)],[(1000000,.arr .dp TTable v0.2)]⟩
abbrev LP20_0 (x:LTb) (k:Int) (m:Nat) (st_:St) (K:KX):Prop:=True/\bg (s20_0 x k) Z0 (x.length:Int) (F.fF x k) (fun v0:Int×LTb=>True) (aU (fun v0:Int×LTb=>True->K (.exit 0) (⟨[(1,dI v0.1)],[(1000000,.arr .dp TTable v0.2)]⟩:St)) (fun _=>False)) m st_
def L20 (x:LTb) (k:Int):aX:=lp1 0 (LP20_0 x k)
theorem vc20 (x:LTb) (k:Int) (K:KA):vcT C20 (L20 x k) ann20 f20 [.clp 1000000 (x.length:Int),dI k] [(1000000,.arr .dp TTable x)] .raw K =
 (∃m_,True/\bg (s20_0 x k) Z0 (x.length:Int) (F.fF x k) (fun v0:Int×LTb=>True) (aU (fun v0:Int×LTb=>True->K (dI v0.1) [(1000000,.arr .dp TTable v0.2)]) (fun _=>False)) m_ (s20_0 x k Z0 (k,x))):=by kernel_rfl
theorem lvc20_0 (x:LTb) (k:Int)  (i0:Int) (v0:Int×LTb) (m:Nat) (K:KX):lvT C20 (L20 x k) ann20 f20 0 0 (s20_0 x k i0 v0) m K =
 (cond (decide (i0<(x.length:Int))) ((0<=i0)/\(i0<(x.length:Int))/\(((nT v0.2 i0).1.length:Int)=((nT v0.2 i0).1.length:Int))/\(Ln TCS (nT v0.2 i0).1)/\(0<=v0.1)/\(v0.1+(M.count TCS (nT v0.2 i0).1:Int)<=M.big)/\(LD (M.mark TCS (nT v0.2 i0).1 v0.1,v0.1+(M.count TCS (nT v0.2 i0).1:Int)) fun r1=>(r1.1.length=(nT v0.2 i0).1.length)/\(0<=i0)/\(i0<(x.length:Int))/\(((nT (v0.2.set i0.toNat (r1.1,(nT v0.2 i0).2)) i0).2.1.length:Int)=((nT (v0.2.set i0.toNat (r1.1,(nT v0.2 i0).2)) i0).2.1.length:Int))/\(Ln (Ty.sl TVS) (nT (v0.2.set i0.toNat (r1.1,(nT v0.2 i0).2)) i0).2.1)/\(0<=r1.2)/\(r1.2+(M.count (Ty.sl TVS) (nT (v0.2.set i0.toNat (r1.1,(nT v0.2 i0).2)) i0).2.1:Int)<=M.big)/\(LD (M.mark (Ty.sl TVS) (nT (v0.2.set i0.toNat (r1.1,(nT v0.2 i0).2)) i0).2.1 r1.2,r1.2+(M.count (Ty.sl TVS) (nT (v0.2.set i0.toNat (r1.1,(nT v0.2 i0).2)) i0).2.1:Int)) fun r2=>(r2.1.length=(nT (v0.2.set i0.toNat (r1.1,(nT v0.2 i0).2)) i0).2.1.length)/\(nxT (LP20_0 x k) m K (s20_0 x k (wrap64 (i0+Z1)) (r2.2,((v0.2.set i0.toNat (r1.1,(nT v0.2 i0).2)).set i0.toNat ((nT (v0.2.set i0.toNat (r1.1,(nT v0.2 i0).2)) i0).1,(r2.1,()))))))))) (K (.exit 0) (⟨[(1,dI v0.1)],[(1000000,.arr .dp TTable v0.2)]⟩:St))):=by kernel_rfl
theorem con20_ok:aP P 20 c20:=aR C20 func20 (kC con58_ok (kC con59_ok kN)) fun args hp K h0=>by
 unfold c20 at h0
 dsimp only at h0
 obtain⟨x,rfl,h00⟩:=jr (n:=1000000) (d:=.dp) (t:=TTable) h0
 obtain⟨a0,a1,rfl,_,h1⟩:=bu h00
 obtain⟨rfl,h2⟩:=iU h1
 obtain⟨k,rfl,h3⟩:=bX h2
 obtain⟨h_x,p0,p1,hK⟩:=h3
 have h:ok (F.kZ x k) (fun r=>K (dI r.2) [(1000000,.arr .dp TTable r.1)]):=ak (F.tS x k h_x p0 p1) (hK _ rfl)
 refine⟨rfl,ann20,(L20 x k),.raw,(aL (i0:=0) (by kernel_rfl) ?_),?_⟩
 ·rintro _ _ K ⟨hc0,i0,v0,rfl,hl0,rfl,hv0,h⟩
  exact cast (lvc20_0 _ _ _ _ _ _).symm (aM h (fun ht0 h=>⟨hl0,⟨ht0,⟨rfl,(oG h fun _ h=>(oG h fun _ h=>(oG h fun _ h=>(oL h fun _ er1 h=>⟨(by rw[er1];exact(M.fQ ai _ _)),⟨hl0,⟨ht0,⟨rfl,(oG h fun _ h=>(oG h fun _ h=>(oG h fun _ h=>(oL h fun _ er2 h=>⟨(by rw[er2];exact(M.fQ TVS _ _)),(aG (fun _ hm=>⟨hc0,hm⟩) _ rfl hl0 dS ht0 (aS h_x) trivial h)⟩))))⟩⟩⟩⟩))))⟩⟩⟩) fun h=>(h trivial))
 ·rw[vc20]
  exact(aE (fun m hm=>⟨trivial,hm⟩) Z0 _ rfl (Int.natCast_nonneg 0) trivial (aI h (fun v0 h hv0=>h) (fun _ h=>h.elim)))
def c60:Con:=⟨[.dat au],fun args hp K=>hpN 1000000 .sh au (fun x=>args2 (fun a0 a1=>uJ 1000000 (x.length:Int) a0 (ja au a1 fun k=>(Ln (Ty.sl au) x)/\(0<=k)/\(k+(M.count (Ty.sl au) x:Int)<=M.big)/\(LD (M.mark (Ty.sl au) x k,k+(M.count (Ty.sl au) x:Int)) fun r=>K (dI r.2) [(1000000,.arr .sh au r.1)]))) args []) hp,.io,false⟩
abbrev C60:Ctx:=cx [] 19 [] 0 false
def ann60:=an [[kp 3],[kp 35],[kp 547],[kp 35],[kp 35],[kp 35],[kp 16]] [[kp 2]]
abbrev s60_0 (x:LI) (k:Int) (i0:Int) (v0:Int×LI):St:=⟨[(0,.clp 1000000 (x.length:Int)),(1,dI v0.1),(5,dI i0)],[(1000000,.arr .sh au v0.2)]⟩
abbrev LP60_0 (x:LI) (k:Int) (m:Nat) (st_:St) (K:KX):Prop:=True/\bg (s60_0 x k) Z0 (x.length:Int) (F.gY x k) (fun v0:Int×LI=>True) (aU (fun v0:Int×LI=>True->K (.exit 0) (⟨[(1,dI v0.1)],[(1000000,.arr .sh au v0.2)]⟩:St)) (fun _=>False)) m st_
def L60 (x:LI) (k:Int):aX:=lp1 0 (LP60_0 x k)
theorem vc60 (x:LI) (k:Int) (K:KA):vcT C60 (L60 x k) ann60 f60 [.clp 1000000 (x.length:Int),dI k] [(1000000,.arr .sh au x)] .raw K =
 (∃m_,True/\bg (s60_0 x k) Z0 (x.length:Int) (F.gY x k) (fun v0:Int×LI=>True) (aU (fun v0:Int×LI=>True->K (dI v0.1) [(1000000,.arr .sh au v0.2)]) (fun _=>False)) m_ (s60_0 x k Z0 (k,x))):=by kernel_rfl
theorem lvc60_0 (x:LI) (k:Int)  (i0:Int) (v0:Int×LI) (m:Nat) (K:KX):lvT C60 (L60 x k) ann60 f60 0 0 (s60_0 x k i0 v0) m K =
 (cond (decide (i0<(x.length:Int))) ((0<=i0)/\(i0<(x.length:Int))/\(nxT (LP60_0 x k) m K (s60_0 x k (wrap64 (i0+Z1)) (wrap64 (v0.1+Z1),(v0.2.set i0.toNat v0.1))))) (K (.exit 0) (⟨[(1,dI v0.1)],[(1000000,.arr .sh au v0.2)]⟩:St))):=by kernel_rfl
theorem con60_ok:aP P 60 c60:=aR C60 func60 kN fun args hp K h0=>by
 unfold c60 at h0
 dsimp only at h0
 obtain⟨x,rfl,h00⟩:=jr (n:=1000000) (d:=.sh) (t:=au) h0
 obtain⟨a0,a1,rfl,_,h1⟩:=bu h00
 obtain⟨rfl,h2⟩:=iU h1
 obtain⟨k,rfl,h3⟩:=bX h2
 obtain⟨h_x,p0,p1,hK⟩:=h3
 have h:ok (F.nA x k) (fun r=>K (dI r.2) [(1000000,.arr .sh au r.1)]):=ak (F.vN x k h_x p0 p1) (hK _ rfl)
 refine⟨rfl,ann60,(L60 x k),.raw,(aL (i0:=0) (by kernel_rfl) ?_),?_⟩
 ·rintro _ _ K ⟨hc0,i0,v0,rfl,hl0,rfl,hv0,h⟩
  exact cast (lvc60_0 _ _ _ _ _ _).symm (aM h (fun ht0 h=>⟨hl0,⟨ht0,(aG (fun _ hm=>⟨hc0,hm⟩) _ rfl hl0 dS ht0 (aS h_x) trivial h)⟩⟩) fun h=>(h trivial))
 ·rw[vc60]
  exact(aE (fun m hm=>⟨trivial,hm⟩) Z0 _ rfl (Int.natCast_nonneg 0) trivial (aI h (fun v0 h hv0=>h) (fun _ h=>h.elim)))
def c61:Con:=⟨[.dat au],fun args hp K=>hpN 1000000 .sh ax (fun x=>args2 (fun a0 a1=>uJ 1000000 (x.length:Int) a0 (ja au a1 fun k=>(Ln TPS x)/\(0<=k)/\(k+(M.count TPS x:Int)<=M.big)/\(LD (M.mark TPS x k,k+(M.count TPS x:Int)) fun r=>K (dI r.2) [(1000000,.arr .sh ax r.1)]))) args []) hp,.io,false⟩
abbrev C61:Ctx:=cx [(124,c124)] 52 [] 0 false
def ann61:=an [[kp 3],[kp 35],[kp 547],[kp 35],[kp 35],[kp 35],[kp 35],[kp 35],[kp 35],[kp 35],[kp 35],[kp 35],[kp 35],[kp 35],[kp 16]] [[kp 2]]
abbrev s61_0 (x:LPt) (k:Int) (i0:Int) (v0:Int×LPt):St:=⟨[(0,.clp 1000000 (x.length:Int)),(1,dI v0.1),(5,dI i0)],[(1000000,.arr .sh ax v0.2)]⟩
abbrev LP61_0 (x:LPt) (k:Int) (m:Nat) (st_:St) (K:KX):Prop:=True/\bg (s61_0 x k) Z0 (x.length:Int) (F.gm x k) (fun v0:Int×LPt=>True) (aU (fun v0:Int×LPt=>True->K (.exit 0) (⟨[(1,dI v0.1)],[(1000000,.arr .sh ax v0.2)]⟩:St)) (fun _=>False)) m st_
def L61 (x:LPt) (k:Int):aX:=lp1 0 (LP61_0 x k)
theorem vc61 (x:LPt) (k:Int) (K:KA):vcT C61 (L61 x k) ann61 f61 [.clp 1000000 (x.length:Int),dI k] [(1000000,.arr .sh ax x)] .raw K =
 (∃m_,True/\bg (s61_0 x k) Z0 (x.length:Int) (F.gm x k) (fun v0:Int×LPt=>True) (aU (fun v0:Int×LPt=>True->K (dI v0.1) [(1000000,.arr .sh ax v0.2)]) (fun _=>False)) m_ (s61_0 x k Z0 (k,x))):=by kernel_rfl
theorem lvc61_0 (x:LPt) (k:Int)  (i0:Int) (v0:Int×LPt) (m:Nat) (K:KX):lvT C61 (L61 x k) ann61 f61 0 0 (s61_0 x k i0 v0) m K =
 (cond (decide (i0<(x.length:Int))) ((0<=i0)/\(i0<(x.length:Int))/\(0<=i0)/\(i0<(x.length:Int))/\(let y1:LPt:=((v0.2.set i0.toNat (v0.1,(nP v0.2 i0).2)).set i0.toNat ((nP (v0.2.set i0.toNat (v0.1,(nP v0.2 i0).2)) i0).1,(wrap64 (v0.1+Z1),(nP (v0.2.set i0.toNat (v0.1,(nP v0.2 i0).2)) i0).2.2)));(0<=i0)/\(i0<(x.length:Int))/\(let y2:LPt:=(y1.set i0.toNat ((nP y1 i0).1,((nP y1 i0).2.1,((wrap64 (wrap64 (v0.1+Z1)+Z1),(nP y1 i0).2.2.1.2),()))));(0<=i0)/\(i0<(x.length:Int))/\(let y3:LPt:=(y2.set i0.toNat ((nP y2 i0).1,((nP y2 i0).2.1,(((nP y2 i0).2.2.1.1,(wrap64 (wrap64 (wrap64 (v0.1+Z1)+Z1)+Z1),(nP y2 i0).2.2.1.2.2)),()))));((wrap64 (wrap64 (wrap64 (wrap64 (v0.1+Z1)+Z1)+Z1)+Z1))<=M.big)/\(LD (M.eK (wrap64 (wrap64 (wrap64 (wrap64 (v0.1+Z1)+Z1)+Z1)+Z1))) fun r1=>(0<=i0)/\(i0<(x.length:Int))/\(let y4:LPt:=(y3.set i0.toNat ((nP y3 i0).1,((nP y3 i0).2.1,(((nP y3 i0).2.2.1.1,((nP y3 i0).2.2.1.2.1,(r1,()))),()))));(nxT (LP61_0 x k) m K (s61_0 x k (wrap64 (i0+Z1)) (wrap64 (wrap64 (wrap64 (wrap64 (wrap64 (v0.1+Z1)+Z1)+Z1)+Z1)+Z1),y4))))))))) (K (.exit 0) (⟨[(1,dI v0.1)],[(1000000,.arr .sh ax v0.2)]⟩:St))):=by kernel_rfl
theorem con61_ok:aP P 61 c61:=aR C61 func61 (kC con124_ok kN) fun args hp K h0=>by
 unfold c61 at h0
 dsimp only at h0
 obtain⟨x,rfl,h00⟩:=jr (n:=1000000) (d:=.sh) (t:=ax) h0
 obtain⟨a0,a1,rfl,_,h1⟩:=bu h00
 obtain⟨rfl,h2⟩:=iU h1
 obtain⟨k,rfl,h3⟩:=bX h2
 obtain⟨h_x,p0,p1,hK⟩:=h3
 have h:ok (F.mm x k) (fun r=>K (dI r.2) [(1000000,.arr .sh ax r.1)]):=ak (F.uI x k h_x p0 p1) (hK _ rfl)
 refine⟨rfl,ann61,(L61 x k),.raw,(aL (i0:=0) (by kernel_rfl) ?_),?_⟩
 ·rintro _ _ K ⟨hc0,i0,v0,rfl,hl0,rfl,hv0,h⟩
  exact cast (lvc61_0 _ _ _ _ _ _).symm (aM h (fun ht0 h=>⟨hl0,⟨ht0,⟨hl0,⟨ht0,(have h:=fH h _ rfl;⟨hl0,⟨ht0,(have h:=fH h _ rfl;⟨hl0,⟨ht0,(have h:=fH h _ rfl;(oG h fun _ h=>(oL h fun _ _ h=>⟨hl0,⟨ht0,(have h:=fH h _ rfl;(aG (fun _ hm=>⟨hc0,hm⟩) _ rfl hl0 dS ht0 (aS h_x) trivial h))⟩⟩)))⟩⟩)⟩⟩)⟩⟩⟩⟩) fun h=>(h trivial))
 ·rw[vc61]
  exact(aE (fun m hm=>⟨trivial,hm⟩) Z0 _ rfl (Int.natCast_nonneg 0) trivial (aI h (fun v0 h hv0=>h) (fun _ h=>h.elim)))
def c21:Con:=⟨[.dat au],fun args hp K=>hpN 1000000 .dp TBond (fun x=>args2 (fun a0 a1=>uJ 1000000 (x.length:Int) a0 (ja au a1 fun k=>(Ln (Ty.sl TBond) x)/\(0<=k)/\(k+(M.count (Ty.sl TBond) x:Int)<=M.big)/\(LD (M.mark (Ty.sl TBond) x k,k+(M.count (Ty.sl TBond) x:Int)) fun r=>K (dI r.2) [(1000000,.arr .dp TBond r.1)]))) args []) hp,.io,false⟩
abbrev C21:Ctx:=cx [(60,c60),(61,c61)] 64 [] 0 false
def ann21:=an [[kp 3],[kp 35],[kp 547],[kp 35],[kp 35],[kp 35],[kp 35],[kp 35],[kp 35],[kp 35],[kp 35],[kp 35],[kp 35],[kp 35],[kp 35],[kp 16]] [[kp 2]]
abbrev s21_0 (x:(List TBond.D)) (k:Int) (i0:Int) (v0:Int×(List TBond.D)):St:=⟨[(0,.clp 1000000 (x.length:Int)),(1,dI v0.1),(5,dI i0)],[(1000000,.arr .dp TBond v0.2)]⟩
abbrev LP21_0 (x:(List TBond.D)) (k:Int) (m:Nat) (st_:St) (K:KX):Prop:=True/\bg (s21_0 x k) Z0 (x.length:Int) (F.gn x k) (fun v0:Int×(List TBond.D)=>True) (aU (fun v0:Int×(List TBond.D)=>True->K (.exit 0) (⟨[(1,dI v0.1)],[(1000000,.arr .dp TBond v0.2)]⟩:St)) (fun _=>False)) m st_
def L21 (x:(List TBond.D)) (k:Int):aX:=lp1 0 (LP21_0 x k)
theorem vc21 (x:(List TBond.D)) (k:Int) (K:KA):vcT C21 (L21 x k) ann21 f21 [.clp 1000000 (x.length:Int),dI k] [(1000000,.arr .dp TBond x)] .raw K =
 (∃m_,True/\bg (s21_0 x k) Z0 (x.length:Int) (F.gn x k) (fun v0:Int×(List TBond.D)=>True) (aU (fun v0:Int×(List TBond.D)=>True->K (dI v0.1) [(1000000,.arr .dp TBond v0.2)]) (fun _=>False)) m_ (s21_0 x k Z0 (k,x))):=by kernel_rfl
theorem lvc21_0 (x:(List TBond.D)) (k:Int)  (i0:Int) (v0:Int×(List TBond.D)) (m:Nat) (K:KX):lvT C21 (L21 x k) ann21 f21 0 0 (s21_0 x k i0 v0) m K =
 (cond (decide (i0<(x.length:Int))) ((0<=i0)/\(i0<(x.length:Int))/\(0<=i0)/\(i0<(x.length:Int))/\(let y1:(List TBond.D):=((v0.2.set i0.toNat (v0.1,(nth (t:=TBond) v0.2 i0).2)).set i0.toNat ((nth (t:=TBond) (v0.2.set i0.toNat (v0.1,(nth (t:=TBond) v0.2 i0).2)) i0).1,(wrap64 (v0.1+Z1),(nth (t:=TBond) (v0.2.set i0.toNat (v0.1,(nth (t:=TBond) v0.2 i0).2)) i0).2.2)));(0<=i0)/\(i0<(x.length:Int))/\(((nth (t:=TBond) y1 i0).2.2.1.length:Int)=((nth (t:=TBond) y1 i0).2.2.1.length:Int))/\(Ln (Ty.sl au) (nth (t:=TBond) y1 i0).2.2.1)/\(0<=(wrap64 (wrap64 (v0.1+Z1)+Z1)))/\((wrap64 (wrap64 (v0.1+Z1)+Z1))+(M.count (Ty.sl au) (nth (t:=TBond) y1 i0).2.2.1:Int)<=M.big)/\(LD (M.mark (Ty.sl au) (nth (t:=TBond) y1 i0).2.2.1 (wrap64 (wrap64 (v0.1+Z1)+Z1)),(wrap64 (wrap64 (v0.1+Z1)+Z1))+(M.count (Ty.sl au) (nth (t:=TBond) y1 i0).2.2.1:Int)) fun r1=>(r1.1.length=(nth (t:=TBond) y1 i0).2.2.1.length)/\(0<=i0)/\(i0<(x.length:Int))/\(let y2:(List TBond.D):=((y1.set i0.toNat ((nth (t:=TBond) y1 i0).1,((nth (t:=TBond) y1 i0).2.1,(r1.1,(nth (t:=TBond) y1 i0).2.2.2)))).set i0.toNat ((nth (t:=TBond) (y1.set i0.toNat ((nth (t:=TBond) y1 i0).1,((nth (t:=TBond) y1 i0).2.1,(r1.1,(nth (t:=TBond) y1 i0).2.2.2)))) i0).1,((nth (t:=TBond) (y1.set i0.toNat ((nth (t:=TBond) y1 i0).1,((nth (t:=TBond) y1 i0).2.1,(r1.1,(nth (t:=TBond) y1 i0).2.2.2)))) i0).2.1,((nth (t:=TBond) (y1.set i0.toNat ((nth (t:=TBond) y1 i0).1,((nth (t:=TBond) y1 i0).2.1,(r1.1,(nth (t:=TBond) y1 i0).2.2.2)))) i0).2.2.1,(r1.2,(nth (t:=TBond) (y1.set i0.toNat ((nth (t:=TBond) y1 i0).1,((nth (t:=TBond) y1 i0).2.1,(r1.1,(nth (t:=TBond) y1 i0).2.2.2)))) i0).2.2.2.2)))));(0<=i0)/\(i0<(x.length:Int))/\(((nth (t:=TBond) y2 i0).2.2.2.2.1.length:Int)=((nth (t:=TBond) y2 i0).2.2.2.2.1.length:Int))/\(Ln (Ty.sl au) (nth (t:=TBond) y2 i0).2.2.2.2.1)/\(0<=(wrap64 (r1.2+Z1)))/\((wrap64 (r1.2+Z1))+(M.count (Ty.sl au) (nth (t:=TBond) y2 i0).2.2.2.2.1:Int)<=M.big)/\(LD (M.mark (Ty.sl au) (nth (t:=TBond) y2 i0).2.2.2.2.1 (wrap64 (r1.2+Z1)),(wrap64 (r1.2+Z1))+(M.count (Ty.sl au) (nth (t:=TBond) y2 i0).2.2.2.2.1:Int)) fun r2=>(r2.1.length=(nth (t:=TBond) y2 i0).2.2.2.2.1.length)/\(Z3≠0)/\(0<=i0)/\(i0<(x.length:Int))/\(let y3:(List TBond.D):=((y2.set i0.toNat ((nth (t:=TBond) y2 i0).1,((nth (t:=TBond) y2 i0).2.1,((nth (t:=TBond) y2 i0).2.2.1,((nth (t:=TBond) y2 i0).2.2.2.1,(r2.1,(nth (t:=TBond) y2 i0).2.2.2.2.2)))))).set i0.toNat ((nth (t:=TBond) (y2.set i0.toNat ((nth (t:=TBond) y2 i0).1,((nth (t:=TBond) y2 i0).2.1,((nth (t:=TBond) y2 i0).2.2.1,((nth (t:=TBond) y2 i0).2.2.2.1,(r2.1,(nth (t:=TBond) y2 i0).2.2.2.2.2)))))) i0).1,((nth (t:=TBond) (y2.set i0.toNat ((nth (t:=TBond) y2 i0).1,((nth (t:=TBond) y2 i0).2.1,((nth (t:=TBond) y2 i0).2.2.1,((nth (t:=TBond) y2 i0).2.2.2.1,(r2.1,(nth (t:=TBond) y2 i0).2.2.2.2.2)))))) i0).2.1,((nth (t:=TBond) (y2.set i0.toNat ((nth (t:=TBond) y2 i0).1,((nth (t:=TBond) y2 i0).2.1,((nth (t:=TBond) y2 i0).2.2.1,((nth (t:=TBond) y2 i0).2.2.2.1,(r2.1,(nth (t:=TBond) y2 i0).2.2.2.2.2)))))) i0).2.2.1,((nth (t:=TBond) (y2.set i0.toNat ((nth (t:=TBond) y2 i0).1,((nth (t:=TBond) y2 i0).2.1,((nth (t:=TBond) y2 i0).2.2.1,((nth (t:=TBond) y2 i0).2.2.2.1,(r2.1,(nth (t:=TBond) y2 i0).2.2.2.2.2)))))) i0).2.2.2.1,((nth (t:=TBond) (y2.set i0.toNat ((nth (t:=TBond) y2 i0).1,((nth (t:=TBond) y2 i0).2.1,((nth (t:=TBond) y2 i0).2.2.1,((nth (t:=TBond) y2 i0).2.2.2.1,(r2.1,(nth (t:=TBond) y2 i0).2.2.2.2.2)))))) i0).2.2.2.2.1,((decide ((r2.2.tmod Z3)=Z0)),(nth (t:=TBond) (y2.set i0.toNat ((nth (t:=TBond) y2 i0).1,((nth (t:=TBond) y2 i0).2.1,((nth (t:=TBond) y2 i0).2.2.1,((nth (t:=TBond) y2 i0).2.2.2.1,(r2.1,(nth (t:=TBond) y2 i0).2.2.2.2.2)))))) i0).2.2.2.2.2.2)))))));(0<=i0)/\(i0<(x.length:Int))/\(((nth (t:=TBond) y3 i0).2.2.2.2.2.2.1.length:Int)=((nth (t:=TBond) y3 i0).2.2.2.2.2.2.1.length:Int))/\(Ln TPS (nth (t:=TBond) y3 i0).2.2.2.2.2.2.1)/\(0<=(wrap64 (r2.2+Z1)))/\((wrap64 (r2.2+Z1))+(M.count TPS (nth (t:=TBond) y3 i0).2.2.2.2.2.2.1:Int)<=M.big)/\(LD (M.mark TPS (nth (t:=TBond) y3 i0).2.2.2.2.2.2.1 (wrap64 (r2.2+Z1)),(wrap64 (r2.2+Z1))+(M.count TPS (nth (t:=TBond) y3 i0).2.2.2.2.2.2.1:Int)) fun r3=>(r3.1.length=(nth (t:=TBond) y3 i0).2.2.2.2.2.2.1.length)/\(nxT (LP21_0 x k) m K (s21_0 x k (wrap64 (i0+Z1)) (r3.2,(y3.set i0.toNat ((nth (t:=TBond) y3 i0).1,((nth (t:=TBond) y3 i0).2.1,((nth (t:=TBond) y3 i0).2.2.1,((nth (t:=TBond) y3 i0).2.2.2.1,((nth (t:=TBond) y3 i0).2.2.2.2.1,((nth (t:=TBond) y3 i0).2.2.2.2.2.1,(r3.1,())))))))))))))))))) (K (.exit 0) (⟨[(1,dI v0.1)],[(1000000,.arr .dp TBond v0.2)]⟩:St))):=by kernel_rfl
theorem con21_ok:aP P 21 c21:=aR C21 func21 (kC con60_ok (kC con61_ok kN)) fun args hp K h0=>by
 unfold c21 at h0
 dsimp only at h0
 obtain⟨x,rfl,h00⟩:=jr (n:=1000000) (d:=.dp) (t:=TBond) h0
 obtain⟨a0,a1,rfl,_,h1⟩:=bu h00
 obtain⟨rfl,h2⟩:=iU h1
 obtain⟨k,rfl,h3⟩:=bX h2
 obtain⟨h_x,p0,p1,hK⟩:=h3
 have h:ok (F.mG x k) (fun r=>K (dI r.2) [(1000000,.arr .dp TBond r.1)]):=ak (F.vr x k h_x p0 p1) (hK _ rfl)
 refine⟨rfl,ann21,(L21 x k),.raw,(aL (i0:=0) (by kernel_rfl) ?_),?_⟩
 ·rintro _ _ K ⟨hc0,i0,v0,rfl,hl0,rfl,hv0,h⟩
  exact cast (lvc21_0 _ _ _ _ _ _).symm (aM h (fun ht0 h=>⟨hl0,⟨ht0,⟨hl0,⟨ht0,(have h:=fH h _ rfl;⟨hl0,⟨ht0,⟨rfl,(oG h fun _ h=>(oG h fun _ h=>(oG h fun _ h=>(oL h fun _ er1 h=>⟨(by rw[er1];exact(M.fQ au _ _)),⟨hl0,⟨ht0,(have h:=fH h _ rfl;⟨hl0,⟨ht0,⟨rfl,(oG h fun _ h=>(oG h fun _ h=>(oG h fun _ h=>(oL h fun _ er2 h=>⟨(by rw[er2];exact(M.fQ au _ _)),⟨(by decide),⟨hl0,⟨ht0,(have h:=fH h _ rfl;⟨hl0,⟨ht0,⟨rfl,(oG h fun _ h=>(oG h fun _ h=>(oG h fun _ h=>(oL h fun _ er3 h=>⟨(by rw[er3];exact(M.fQ ax _ _)),(aG (fun _ hm=>⟨hc0,hm⟩) _ rfl hl0 dS ht0 (aS h_x) trivial h)⟩))))⟩⟩⟩)⟩⟩⟩⟩))))⟩⟩⟩)⟩⟩⟩))))⟩⟩⟩)⟩⟩⟩⟩) fun h=>(h trivial))
 ·rw[vc21]
  exact(aE (fun m hm=>⟨trivial,hm⟩) Z0 _ rfl (Int.natCast_nonneg 0) trivial (aI h (fun v0 h hv0=>h) (fun _ h=>h.elim)))
def c63:Con:=⟨[.dat TCS,.dat au],fun args hp K=>g2 (pD TCS) (pD au) (fun x k=>(Ln TCS x)/\(0<=k)/\(k+(M.count TCS x:Int)<=M.big)/\(M.mark TCS x k=x)/\K (dI (k+(M.count TCS x:Int))) []) args hp,.bor,false⟩
abbrev C63:Ctx:=cx [] 33 [] 0 false
def ann63:=an [[kp 3],[kp 35],[kp 547],[kp 35],[kp 262179],[kp 16],[kp 35],[kp 536870947],[kp 16],[kp 35],[kp 16]] [[kp 2]]
abbrev s63_0 (x:LC) (k:Int) (i0:Int) (v0:Int):St:=⟨[(0,.data TCS x),(1,dI v0),(5,dI i0)],[]⟩
abbrev LP63_0 (x:LC) (k:Int) (m:Nat) (st_:St) (K:KX):Prop:=True/\bO (t:=ai) (s63_0 x k) x (F.eY x k) (fun v0:Int=>True) (aU (fun v0:Int=>True->K (.exit 0) (⟨[(1,dI v0)],[]⟩:St)) (fun q0:Unit=>K .ret (⟨[(4,dI (-1:Int))],[]⟩:St))) m st_
def L63 (x:LC) (k:Int):aX:=lp1 0 (LP63_0 x k)
theorem vc63 (x:LC) (k:Int) (K:KA):vcT C63 (L63 x k) ann63 f63 [.data TCS x,dI k] [] (.dat au) K =
 (∃m_,True/\bO (t:=ai) (s63_0 x k) x (F.eY x k) (fun v0:Int=>True) (aU (fun v0:Int=>True->K (dI v0) []) (fun q0:Unit=>K (dI (-1:Int)) [])) m_ (s63_0 x k Z0 k)):=by kernel_rfl
theorem lvc63_0 (x:LC) (k:Int)  (i0:Int) (v0:Int) (m:Nat) (K:KX):lvT C63 (L63 x k) ann63 f63 0 0 (s63_0 x k i0 v0) m K =
 (cond (decide (i0<(x.length:Int))) ((0<=i0)/\(i0<(x.length:Int))/\cond (!decide ((nC x i0).1=v0)) (K .ret (⟨[(4,dI (-1:Int))],[]⟩:St)) ((0<=i0)/\(i0<(x.length:Int))/\(Z3≠0)/\cond (!(Ty.beq Ty.bool (nC x i0).2.1 (decide (((wrap64 (v0+Z1)).tmod Z3)=Z0)))) (K .ret (⟨[(4,dI (-1:Int))],[]⟩:St)) (nxT (LP63_0 x k) m K (s63_0 x k (wrap64 (i0+Z1)) (wrap64 (wrap64 (v0+Z1)+Z1)))))) (K (.exit 0) (⟨[(1,dI v0)],[]⟩:St))):=by kernel_rfl
theorem con63_ok:aP P 63 c63:=aR C63 func63 kN fun args hp K h0=>by
 obtain⟨x,k,rfl,rfl,h_x,p0,p1,p2,hK⟩:=g2e h0
 have h:ok (F.ke x k) (fun r=>K (dI r) []):=ak (F.sJ x k h_x p0 p1 p2) hK
 refine⟨rfl,ann63,(L63 x k),(.dat au),(aL (i0:=0) (by kernel_rfl) ?_),?_⟩
 ·rintro _ _ K ⟨hc0,i0,v0,rfl,hl0,rfl,hv0,h⟩
  exact cast (lvc63_0 _ _ _ _ _ _).symm (bw (t:=ai) hl0 h (fun ht0 h=>⟨hl0,⟨ht0,(oC h (fun _ h=>h) fun _ h=>⟨hl0,⟨ht0,⟨(by decide),(oC h (fun _ h=>h) fun _ h=>(br (t:=ai) (fun _ hm=>⟨hc0,hm⟩) _ rfl hl0 ht0 (aS h_x) trivial h))⟩⟩⟩)⟩⟩) fun h=>(h trivial))
 ·rw[vc63]
  exact(bp (t:=ai) (fun m hm=>⟨trivial,hm⟩) _ rfl trivial (aI h (fun v0 h hv0=>h) (fun q0 h=>h)))
def c125:Con:=⟨[.dat TVS,.dat au],fun args hp K=>g2 (pD TVS) (pD au) (fun x k=>(Ln TVS x)/\(0<=k)/\(k+(M.count TVS x:Int)<=M.big)/\(M.mark TVS x k=x)/\K (dI (k+(M.count TVS x:Int))) []) args hp,.bor,false⟩
abbrev C125:Ctx:=cx [(124,c124)] 41 [] 0 false
def ann125:=an [[kp 3],[kp 35],[kp 547],[kp 35],[kp 262179],[kp 16],[kp 35],[kp 134217763],[kp 16],[kp 35],[kp 137438953507],[kp 16],[kp 35],[kp 16]] [[kp 2]]
abbrev s125_0 (x:LV) (k:Int) (i0:Int) (v0:Int):St:=⟨[(0,.data TVS x),(1,dI v0),(5,dI i0)],[]⟩
abbrev LP125_0 (x:LV) (k:Int) (m:Nat) (st_:St) (K:KX):Prop:=True/\bO (t:=aa) (s125_0 x k) x (F.fL x k) (fun v0:Int=>True) (aU (fun v0:Int=>True->K (.exit 0) (⟨[(1,dI v0)],[]⟩:St)) (fun q0:Unit=>K .ret (⟨[(4,dI (-1:Int))],[]⟩:St))) m st_
def L125 (x:LV) (k:Int):aX:=lp1 0 (LP125_0 x k)
theorem vc125 (x:LV) (k:Int) (K:KA):vcT C125 (L125 x k) ann125 f125 [.data TVS x,dI k] [] (.dat au) K =
 (∃m_,True/\bO (t:=aa) (s125_0 x k) x (F.fL x k) (fun v0:Int=>True) (aU (fun v0:Int=>True->K (dI v0) []) (fun q0:Unit=>K (dI (-1:Int)) [])) m_ (s125_0 x k Z0 k)):=by kernel_rfl
theorem lvc125_0 (x:LV) (k:Int)  (i0:Int) (v0:Int) (m:Nat) (K:KX):lvT C125 (L125 x k) ann125 f125 0 0 (s125_0 x k i0 v0) m K =
 (cond (decide (i0<(x.length:Int))) ((0<=i0)/\(i0<(x.length:Int))/\cond (!decide ((nV x i0).1=v0)) (K .ret (⟨[(4,dI (-1:Int))],[]⟩:St)) ((0<=i0)/\(i0<(x.length:Int))/\cond (!decide ((nV x i0).2.1=wrap64 (v0+Z1))) (K .ret (⟨[(4,dI (-1:Int))],[]⟩:St)) ((0<=i0)/\(i0<(x.length:Int))/\((wrap64 (wrap64 (v0+Z1)+Z1))<=M.big)/\(LD (M.eK (wrap64 (wrap64 (v0+Z1)+Z1))) fun r1=>cond (!decide ((nV x i0).2.2.1=r1)) (K .ret (⟨[(4,dI (-1:Int))],[]⟩:St)) (nxT (LP125_0 x k) m K (s125_0 x k (wrap64 (i0+Z1)) (wrap64 (wrap64 (wrap64 (v0+Z1)+Z1)+Z1)))))))) (K (.exit 0) (⟨[(1,dI v0)],[]⟩:St))):=by kernel_rfl
theorem con125_ok:aP P 125 c125:=aR C125 func125 (kC con124_ok kN) fun args hp K h0=>by
 obtain⟨x,k,rfl,rfl,h_x,p0,p1,p2,hK⟩:=g2e h0
 have h:ok (F.lB x k) (fun r=>K (dI r) []):=ak (F.tI x k h_x p0 p1 p2) hK
 refine⟨rfl,ann125,(L125 x k),(.dat au),(aL (i0:=0) (by kernel_rfl) ?_),?_⟩
 ·rintro _ _ K ⟨hc0,i0,v0,rfl,hl0,rfl,hv0,h⟩
  exact cast (lvc125_0 _ _ _ _ _ _).symm (bw (t:=aa) hl0 h (fun ht0 h=>⟨hl0,⟨ht0,(oC h (fun _ h=>h) fun _ h=>⟨hl0,⟨ht0,(oC h (fun _ h=>h) fun _ h=>⟨hl0,⟨ht0,(oG h fun _ h=>(oL h fun _ _ h=>(oC h (fun _ h=>h) fun _ h=>(br (t:=aa) (fun _ hm=>⟨hc0,hm⟩) _ rfl hl0 ht0 (aS h_x) trivial h))))⟩⟩)⟩⟩)⟩⟩) fun h=>(h trivial))
 ·rw[vc125]
  exact(bp (t:=aa) (fun m hm=>⟨trivial,hm⟩) _ rfl trivial (aI h (fun v0 h hv0=>h) (fun q0 h=>h)))
def c64:Con:=⟨[.dat (Ty.sl TVS),.dat au],fun args hp K=>g2 (pD (Ty.sl TVS)) (pD au) (fun x k=>(Ln (Ty.sl TVS) x)/\(0<=k)/\(k+(M.count (Ty.sl TVS) x:Int)<=M.big)/\(M.mark (Ty.sl TVS) x k=x)/\K (dI (k+(M.count (Ty.sl TVS) x:Int))) []) args hp,.bor,false⟩
abbrev C64:Ctx:=cx [(125,c125)] 21 [] 0 false
def ann64:=an [[kp 3],[kp 35],[kp 547],[kp 35],[kp 35],[kp 524323],[kp 16],[kp 16]] [[kp 2]]
abbrev s64_0 (x:(List LV)) (k:Int) (i0:Int) (v0:Int):St:=⟨[(0,.data (Ty.sl TVS) x),(1,dI v0),(5,dI i0)],[]⟩
abbrev LP64_0 (x:(List LV)) (k:Int) (m:Nat) (st_:St) (K:KX):Prop:=True/\bO (t:=TVS) (s64_0 x k) x (F.eW x k) (fun v0:Int=>True) (aU (fun v0:Int=>True->K (.exit 0) (⟨[(1,dI v0)],[]⟩:St)) (fun q0:Unit=>K .ret (⟨[(4,dI (-1:Int))],[]⟩:St))) m st_
def L64 (x:(List LV)) (k:Int):aX:=lp1 0 (LP64_0 x k)
theorem vc64 (x:(List LV)) (k:Int) (K:KA):vcT C64 (L64 x k) ann64 f64 [.data (Ty.sl TVS) x,dI k] [] (.dat au) K =
 (∃m_,True/\bO (t:=TVS) (s64_0 x k) x (F.eW x k) (fun v0:Int=>True) (aU (fun v0:Int=>True->K (dI v0) []) (fun q0:Unit=>K (dI (-1:Int)) [])) m_ (s64_0 x k Z0 k)):=by kernel_rfl
theorem lvc64_0 (x:(List LV)) (k:Int)  (i0:Int) (v0:Int) (m:Nat) (K:KX):lvT C64 (L64 x k) ann64 f64 0 0 (s64_0 x k i0 v0) m K =
 (cond (decide (i0<(x.length:Int))) ((0<=i0)/\(i0<(x.length:Int))/\(Ln TVS (nth (t:=TVS) x i0))/\(0<=v0)/\(v0+(M.count TVS (nth (t:=TVS) x i0):Int)<=M.big)/\(M.mark TVS (nth (t:=TVS) x i0) v0=(nth (t:=TVS) x i0))/\cond (decide ((v0+(M.count TVS (nth (t:=TVS) x i0):Int))<Z0)) (K .ret (⟨[(4,dI (-1:Int))],[]⟩:St)) (nxT (LP64_0 x k) m K (s64_0 x k (wrap64 (i0+Z1)) (v0+(M.count TVS (nth (t:=TVS) x i0):Int))))) (K (.exit 0) (⟨[(1,dI v0)],[]⟩:St))):=by kernel_rfl
theorem con64_ok:aP P 64 c64:=aR C64 func64 (kC con125_ok kN) fun args hp K h0=>by
 obtain⟨x,k,rfl,rfl,h_x,p0,p1,p2,hK⟩:=g2e h0
 have h:ok (F.jQ x k) (fun r=>K (dI r) []):=ak (F.sI x k h_x p0 p1 p2) hK
 refine⟨rfl,ann64,(L64 x k),(.dat au),(aL (i0:=0) (by kernel_rfl) ?_),?_⟩
 ·rintro _ _ K ⟨hc0,i0,v0,rfl,hl0,rfl,hv0,h⟩
  exact cast (lvc64_0 _ _ _ _ _ _).symm (bw (t:=TVS) hl0 h (fun ht0 h=>⟨hl0,⟨ht0,⟨(ay h_x i0),(oG h fun _ h=>(oG h fun _ h=>(oG h fun _ h=>(oC h (fun _ h=>h) fun _ h=>(br (t:=TVS) (fun _ hm=>⟨hc0,hm⟩) _ rfl hl0 ht0 (aS h_x) trivial h)))))⟩⟩⟩) fun h=>(h trivial))
 ·rw[vc64]
  exact(bp (t:=TVS) (fun m hm=>⟨trivial,hm⟩) _ rfl trivial (aI h (fun v0 h hv0=>h) (fun q0 h=>h)))
def c23:Con:=⟨[.dat TTb,.dat au],fun args hp K=>g2 (pD TTb) (pD au) (fun x k=>(Ln TTb x)/\(0<=k)/\(k+(M.count TTb x:Int)<=M.big)/\(M.mark TTb x k=x)/\K (dI (k+(M.count TTb x:Int))) []) args hp,.bor,false⟩
abbrev C23:Ctx:=cx [(63,c63),(64,c64)] 31 [] 0 false
def ann23:=an [[kp 3],[kp 35],[kp 547],[kp 35],[kp 35],[kp 1048611],[kp 16],[kp 35],[kp 536870947],[kp 16],[kp 16]] [[kp 2]]
abbrev s23_0 (x:LTb) (k:Int) (i0:Int) (v0:Int):St:=⟨[(0,.data TTb x),(1,dI v0),(5,dI i0)],[]⟩
abbrev LP23_0 (x:LTb) (k:Int) (m:Nat) (st_:St) (K:KX):Prop:=True/\bO (t:=TTable) (s23_0 x k) x (F.fG x k) (fun v0:Int=>True) (aU (fun v0:Int=>True->K (.exit 0) (⟨[(1,dI v0)],[]⟩:St)) (fun q0:Unit=>K .ret (⟨[(4,dI (-1:Int))],[]⟩:St))) m st_
def L23 (x:LTb) (k:Int):aX:=lp1 0 (LP23_0 x k)
theorem vc23 (x:LTb) (k:Int) (K:KA):vcT C23 (L23 x k) ann23 f23 [.data TTb x,dI k] [] (.dat au) K =
 (∃m_,True/\bO (t:=TTable) (s23_0 x k) x (F.fG x k) (fun v0:Int=>True) (aU (fun v0:Int=>True->K (dI v0) []) (fun q0:Unit=>K (dI (-1:Int)) [])) m_ (s23_0 x k Z0 k)):=by kernel_rfl
theorem lvc23_0 (x:LTb) (k:Int)  (i0:Int) (v0:Int) (m:Nat) (K:KX):lvT C23 (L23 x k) ann23 f23 0 0 (s23_0 x k i0 v0) m K =
 (cond (decide (i0<(x.length:Int))) ((0<=i0)/\(i0<(x.length:Int))/\(Ln TCS (nT x i0).1)/\(0<=v0)/\(v0+(M.count TCS (nT x i0).1:Int)<=M.big)/\(M.mark TCS (nT x i0).1 v0=(nT x i0).1)/\cond (decide ((v0+(M.count TCS (nT x i0).1:Int))<Z0)) (K .ret (⟨[(4,dI (-1:Int))],[]⟩:St)) ((0<=i0)/\(i0<(x.length:Int))/\(Ln (Ty.sl TVS) (nT x i0).2.1)/\(0<=(v0+(M.count TCS (nT x i0).1:Int)))/\((v0+(M.count TCS (nT x i0).1:Int))+(M.count (Ty.sl TVS) (nT x i0).2.1:Int)<=M.big)/\(M.mark (Ty.sl TVS) (nT x i0).2.1 (v0+(M.count TCS (nT x i0).1:Int))=(nT x i0).2.1)/\cond (decide (((v0+(M.count TCS (nT x i0).1:Int))+(M.count (Ty.sl TVS) (nT x i0).2.1:Int))<Z0)) (K .ret (⟨[(4,dI (-1:Int))],[]⟩:St)) (nxT (LP23_0 x k) m K (s23_0 x k (wrap64 (i0+Z1)) ((v0+(M.count TCS (nT x i0).1:Int))+(M.count (Ty.sl TVS) (nT x i0).2.1:Int)))))) (K (.exit 0) (⟨[(1,dI v0)],[]⟩:St))):=by kernel_rfl
theorem con23_ok:aP P 23 c23:=aR C23 func23 (kC con63_ok (kC con64_ok kN)) fun args hp K h0=>by
 obtain⟨x,k,rfl,rfl,h_x,p0,p1,p2,hK⟩:=g2e h0
 have h:ok (F.kY x k) (fun r=>K (dI r) []):=ak (F.tU x k h_x p0 p1 p2) hK
 refine⟨rfl,ann23,(L23 x k),(.dat au),(aL (i0:=0) (by kernel_rfl) ?_),?_⟩
 ·rintro _ _ K ⟨hc0,i0,v0,rfl,hl0,rfl,hv0,h⟩
  exact cast (lvc23_0 _ _ _ _ _ _).symm (bw (t:=TTable) hl0 h (fun ht0 h=>⟨hl0,⟨ht0,⟨(ay h_x i0).1,(oG h fun _ h=>(oG h fun _ h=>(oG h fun _ h=>(oC h (fun _ h=>h) fun _ h=>⟨hl0,⟨ht0,⟨(ay h_x i0).2.1,(oG h fun _ h=>(oG h fun _ h=>(oG h fun _ h=>(oC h (fun _ h=>h) fun _ h=>(br (t:=TTable) (fun _ hm=>⟨hc0,hm⟩) _ rfl hl0 ht0 (aS h_x) trivial h)))))⟩⟩⟩))))⟩⟩⟩) fun h=>(h trivial))
 ·rw[vc23]
  exact(bp (t:=TTable) (fun m hm=>⟨trivial,hm⟩) _ rfl trivial (aI h (fun v0 h hv0=>h) (fun q0 h=>h)))
def c34:Con:=⟨[.dat TChange,.dat au],fun args hp K=>g2 (pD TChange) (pD au) (fun x left=>(Ln TChange x)/\(0<=left)/\(left<=1048576)/\K (dI (M.ir x left)) []) args hp,.plain,false⟩
abbrev C34:Ctx:=cx [(81,c81)] 12 [] 0 false
def ann34:=an [[.fixRow 2 TChange,kp 6],[kp 2],[kp 1026],[kp 16],[kp 16]] []
theorem vc34 (x:TChange.D) (left:Int) (K:KA):vcT C34 aq ann34 f34 [.data TChange x,dI left] [] (.dat au) K =
 ((Ln TVS x.2.1)/\(0<=left)/\(left<=1048576)/\cond (decide ((M.szS M.bM x.2.1 left)<Z0)) (K (dI (-1:Int)) []) (K (dI (M.szS M.bM x.2.1 left)) [])):=by kernel_rfl
theorem con34_ok:aP P 34 c34:=aR C34 func34 (kC con81_ok kN) fun args hp K h0=>by
 obtain⟨x,left,rfl,rfl,h_x,p0,p1,hK⟩:=g2e h0
 have h:ok (F.nB x left) (fun r=>K (dI r) []):=ak (F.wj x left h_x p0 p1) hK
 refine⟨rfl,ann34,aq,(.dat au),(az (by kernel_rfl)),?_⟩
 ·rw[vc34]
  exact⟨h_x.2.1,⟨p0,⟨p1,(oC h (fun _ h=>h) fun _ h=>h)⟩⟩⟩
def c143:Con:=⟨[.dat au,.dat au,.dat au],fun args hp K=>g3 (pD au) (pD au) (pD au) (fun n low high=>K (dB (M.inR n low high)) []) args hp,.plain,false⟩
abbrev C143:Ctx:=cx [] 15 [] 0 false
def ann143:=an [[kp 7],[kp 64]] []
theorem vc143 (n:Int) (low:Int) (high:Int) (K:KA):vcT C143 aq ann143 f143 [dI n,dI low,dI high] [] (.dat Ty.bool) K =
 (cond ((decide (low<=n))==true) (K (dB (decide (n<=high))) []) (K (dB false) [])):=by kernel_rfl
theorem con143_ok:aP P 143 c143:=aR C143 func143 kN fun args hp K h0=>by
 obtain⟨n,low,high,rfl,rfl,hK⟩:=g3e h0
 have h:ok (F.vY n low high) (fun r=>K (dB r) []):=ak (F.Cm n low high) hK
 refine⟨rfl,ann143,aq,(.dat Ty.bool),(az (by kernel_rfl)),?_⟩
 ·rw[vc143]
  exact(oC h (fun _ h=>h) fun _ h=>h)
def c178:Con:=⟨[.dat TCS],fun args hp K=>g1 (pD TCS) (fun columns=>(Sm TCS columns)/\K (dB (M.bC columns)) []) args hp,.plain,false⟩
abbrev C178:Ctx:=cx [(143,c143)] 20 [] 0 false
def ann178:=an [[kp 1],[kp 9],[kp 137],[kp 9],[kp 65545],[kp 4],[kp 4]] [[kp 1]]
abbrev s178_0 (columns:LC) (i0:Int) (v0:Unit):St:=⟨[(0,.data TCS columns),(3,dI i0)],[]⟩
abbrev LP178_0 (columns:LC) (m:Nat) (st_:St) (K:KX):Prop:=True/\bO (t:=ai) (s178_0 columns) columns (F.gu columns) (fun v0:Unit=>True) (aU (fun v0:Unit=>True->K (.exit 0) (⟨[(0,.data TCS columns)],[]⟩:St)) (fun q0:Unit=>K .ret (⟨[(2,dB false)],[]⟩:St))) m st_
def L178 (columns:LC):aX:=lp1 0 (LP178_0 columns)
theorem vc178 (columns:LC) (K:KA):vcT C178 (L178 columns) ann178 f178 [.data TCS columns] [] (.dat Ty.bool) K =
 (∃m_,True/\bO (t:=ai) (s178_0 columns) columns (F.gu columns) (fun v0:Unit=>True) (aU (fun v0:Unit=>True->K (dB (decide ((columns.length:Int)<=Z4))) []) (fun q0:Unit=>K (dB false) [])) m_ (s178_0 columns Z0 ())):=by kernel_rfl
theorem lvc178_0 (columns:LC)  (i0:Int) (v0:Unit) (m:Nat) (K:KX):lvT C178 (L178 columns) ann178 f178 0 0 (s178_0 columns i0 v0) m K =
 (cond (decide (i0<(columns.length:Int))) ((0<=i0)/\(i0<(columns.length:Int))/\cond (!(M.inR (nC columns i0).1 Z1 Z3)) (K .ret (⟨[(2,dB false)],[]⟩:St)) (nxT (LP178_0 columns) m K (s178_0 columns (wrap64 (i0+Z1)) ()))) (K (.exit 0) (⟨[(0,.data TCS columns)],[]⟩:St))):=by kernel_rfl
theorem con178_ok:aP P 178 c178:=aR C178 func178 (kC con143_ok kN) fun args hp K h0=>by
 obtain⟨columns,rfl,rfl,h_columns,hK⟩:=g1e h0
 have h:ok (F.mD columns) (fun r=>K (dB r) []):=ak (F.vu columns h_columns) hK
 refine⟨rfl,ann178,(L178 columns),(.dat Ty.bool),(aL (i0:=0) (by kernel_rfl) ?_),?_⟩
 ·rintro _ _ K ⟨hc0,i0,v0,rfl,hl0,rfl,hv0,h⟩
  exact cast (lvc178_0 _ _ _ _ _).symm (bw (t:=ai) hl0 h (fun ht0 h=>⟨hl0,⟨ht0,(oC h (fun _ h=>h) fun _ h=>(br (t:=ai) (fun _ hm=>⟨hc0,hm⟩) _ rfl hl0 ht0 (aS h_columns) trivial h))⟩⟩) fun h=>(h trivial))
 ·rw[vc178]
  exact(bp (t:=ai) (fun m hm=>⟨trivial,hm⟩) _ rfl trivial (aI h (fun v0 h hv0=>h) (fun q0 h=>h)))
def c249:Con:=⟨[.dat Ty.str],fun args hp K=>g1 (pD Ty.str) (fun s=>(Sm Ty.str s)/\K (dB (M.text s)) []) args hp,.plain,false⟩
abbrev C249:Ctx:=cx [] 23 [] 0 false
def ann249:=an [[kp 1],[kp 9],[kp 137],[kp 9],[kp 524297],[kp 4],[kp 4]] [[kp 1]]
abbrev s249_0 (s:ByteArray) (i0:Int) (v0:Unit):St:=⟨[(0,.data Ty.str s),(3,dI i0)],[]⟩
abbrev LP249_0 (s:ByteArray) (m:Nat) (st_:St) (K:KX):Prop:=True/\bg (s249_0 s) Z0 (s.size:Int) (F.jo s) (fun v0:Unit=>True) (aU (fun v0:Unit=>True->K (.exit 0) (⟨[(0,.data Ty.str s)],[]⟩:St)) (fun q0:Unit=>K .ret (⟨[(2,dB false)],[]⟩:St))) m st_
def L249 (s:ByteArray):aX:=lp1 0 (LP249_0 s)
theorem vc249 (s:ByteArray) (K:KA):vcT C249 (L249 s) ann249 f249 [.data Ty.str s] [] (.dat Ty.bool) K =
 (∃m_,True/\bg (s249_0 s) Z0 (s.size:Int) (F.jo s) (fun v0:Unit=>True) (aU (fun v0:Unit=>True->K (dB (decide ((s.size:Int)<=Z6))) []) (fun q0:Unit=>K (dB false) [])) m_ (s249_0 s Z0 ())):=by kernel_rfl
theorem lvc249_0 (s:ByteArray)  (i0:Int) (v0:Unit) (m:Nat) (K:KX):lvT C249 (L249 s) ann249 f249 0 0 (s249_0 s i0 v0) m K =
 (cond (decide (i0<(s.size:Int))) ((0<=i0)/\(i0<(s.size:Int))/\cond ((decide (((s.get! i0.toNat).toNat:Int)<(97:Int)))==false) ((0<=i0)/\(i0<(s.size:Int))/\cond (decide ((122:Int)<((s.get! i0.toNat).toNat:Int))) (K .ret (⟨[(2,dB false)],[]⟩:St)) (nxT (LP249_0 s) m K (s249_0 s (wrap64 (i0+Z1)) ()))) (K .ret (⟨[(2,dB false)],[]⟩:St))) (K (.exit 0) (⟨[(0,.data Ty.str s)],[]⟩:St))):=by kernel_rfl
theorem con249_ok:aP P 249 c249:=aR C249 func249 kN fun args hp K h0=>by
 obtain⟨s,rfl,rfl,h_s,hK⟩:=g1e h0
 have h:ok (F.rQ s) (fun r=>K (dB r) []):=ak (F.zL s h_s) hK
 refine⟨rfl,ann249,(L249 s),(.dat Ty.bool),(aL (i0:=0) (by kernel_rfl) ?_),?_⟩
 ·rintro _ _ K ⟨hc0,i0,v0,rfl,hl0,rfl,hv0,h⟩
  exact cast (lvc249_0 _ _ _ _ _).symm (aM h (fun ht0 h=>⟨hl0,⟨ht0,(oC h (fun _ h=>⟨hl0,⟨ht0,(oC h (fun _ h=>h) fun _ h=>(aG (fun _ hm=>⟨hc0,hm⟩) _ rfl hl0 dS ht0 (HW h_s) trivial h))⟩⟩) fun _ h=>h)⟩⟩) fun h=>(h trivial))
 ·rw[vc249]
  exact(aE (fun m hm=>⟨trivial,hm⟩) Z0 _ rfl (Int.natCast_nonneg 0) trivial (aI h (fun v0 h hv0=>h) (fun q0 h=>h)))
def c223:Con:=⟨[.dat aa],fun args hp K=>g1 (pD aa) (fun v=>(Sm aa v)/\K (dB (M.aO v)) []) args hp,.plain,false⟩
abbrev C223:Ctx:=cx [(143,c143),(249,c249)] 45 [] 0 false
def ann223:=an [[.fixRow 1 aa,kp 2],[kp 18],[kp 50],[kp 4],[kp 32786],[kp 4],[kp 33554450],[kp 4],[.keep [1,35]],[kp 4],[kp 4]] []
theorem vc223 (v:aa.D) (K:KA):vcT C223 aq ann223 f223 [.data aa v] [] (.dat Ty.bool) K =
 (cond (decide (v.1=Z0)) (cond ((decide (v.2.1=Z0))==true) (K (dB (decide (v.2.2.1=(⟨#[]⟩:ByteArray)))) []) (K (dB false) [])) (cond (decide (v.1=Z1)) (cond ((M.inR v.2.1 (-9999:Int) (9999:Int))==true) (K (dB (decide (v.2.2.1=(⟨#[]⟩:ByteArray)))) []) (K (dB false) [])) (cond (decide (v.1=Z2)) (cond ((decide (v.2.1=Z0))==true) ((Sm Ty.str v.2.2.1)/\K (dB (M.text v.2.2.1)) []) (K (dB false) [])) (cond (decide (v.1=Z3)) (cond ((M.inR v.2.1 Z0 Z1)==true) (K (dB (decide (v.2.2.1=(⟨#[]⟩:ByteArray)))) []) (K (dB false) [])) (K (dB false) []))))):=by kernel_rfl
theorem con223_ok:aP P 223 c223:=aR C223 func223 (kC con143_ok (kC con249_ok kN)) fun args hp K h0=>by
 obtain⟨v,rfl,rfl,h_v,hK⟩:=g1e h0
 have h:ok (F.pW v) (fun r=>K (dB r) []):=ak (F.xQ v h_v) hK
 refine⟨rfl,ann223,aq,(.dat Ty.bool),(az (by kernel_rfl)),?_⟩
 ·rw[vc223]
  exact(oC h (fun _ h=>(oC h (fun _ h=>h) fun _ h=>h)) fun _ h=>(oC h (fun _ h=>(oC h (fun _ h=>h) fun _ h=>h)) fun _ h=>(oC h (fun _ h=>(oC h (fun _ h=>⟨h_v.2.2.1,h⟩) fun _ h=>h)) fun _ h=>(oC h (fun _ h=>(oC h (fun _ h=>h) fun _ h=>h)) fun _ h=>h))))
def c195:Con:=⟨[.dat TVS],fun args hp K=>g1 (pD TVS) (fun row=>(Sm TVS row)/\K (dB (M.oS row)) []) args hp,.plain,false⟩
abbrev C195:Ctx:=cx [(223,c223)] 19 [] 0 false
def ann195:=an [[kp 1],[kp 9],[kp 137],[kp 9],[kp 32777],[kp 4],[kp 4]] [[kp 1]]
abbrev s195_0 (row:LV) (i0:Int) (v0:Unit):St:=⟨[(0,.data TVS row),(3,dI i0)],[]⟩
abbrev LP195_0 (row:LV) (m:Nat) (st_:St) (K:KX):Prop:=True/\bO (t:=aa) (s195_0 row) row (F.kj row) (fun v0:Unit=>True) (aU (fun v0:Unit=>True->K (.exit 0) (⟨[(0,.data TVS row)],[]⟩:St)) (fun q0:Unit=>K .ret (⟨[(2,dB false)],[]⟩:St))) m st_
def L195 (row:LV):aX:=lp1 0 (LP195_0 row)
theorem vc195 (row:LV) (K:KA):vcT C195 (L195 row) ann195 f195 [.data TVS row] [] (.dat Ty.bool) K =
 (∃m_,True/\bO (t:=aa) (s195_0 row) row (F.kj row) (fun v0:Unit=>True) (aU (fun v0:Unit=>True->K (dB (decide ((row.length:Int)<=Z4))) []) (fun q0:Unit=>K (dB false) [])) m_ (s195_0 row Z0 ())):=by kernel_rfl
theorem lvc195_0 (row:LV)  (i0:Int) (v0:Unit) (m:Nat) (K:KX):lvT C195 (L195 row) ann195 f195 0 0 (s195_0 row i0 v0) m K =
 (cond (decide (i0<(row.length:Int))) ((0<=i0)/\(i0<(row.length:Int))/\(Sm aa (nV row i0))/\cond (!(M.aO (nV row i0))) (K .ret (⟨[(2,dB false)],[]⟩:St)) (nxT (LP195_0 row) m K (s195_0 row (wrap64 (i0+Z1)) ()))) (K (.exit 0) (⟨[(0,.data TVS row)],[]⟩:St))):=by kernel_rfl
theorem con195_ok:aP P 195 c195:=aR C195 func195 (kC con223_ok kN) fun args hp K h0=>by
 obtain⟨row,rfl,rfl,h_row,hK⟩:=g1e h0
 have h:ok (F.tC row) (fun r=>K (dB r) []):=ak (F.Bi row h_row) hK
 refine⟨rfl,ann195,(L195 row),(.dat Ty.bool),(aL (i0:=0) (by kernel_rfl) ?_),?_⟩
 ·rintro _ _ K ⟨hc0,i0,v0,rfl,hl0,rfl,hv0,h⟩
  exact cast (lvc195_0 _ _ _ _ _).symm (bw (t:=aa) hl0 h (fun ht0 h=>⟨hl0,⟨ht0,⟨(ay h_row i0),(oC h (fun _ h=>h) fun _ h=>(br (t:=aa) (fun _ hm=>⟨hc0,hm⟩) _ rfl hl0 ht0 (aS h_row) trivial h))⟩⟩⟩) fun h=>(h trivial))
 ·rw[vc195]
  exact(bp (t:=aa) (fun m hm=>⟨trivial,hm⟩) _ rfl trivial (aI h (fun v0 h hv0=>h) (fun q0 h=>h)))
def c144:Con:=⟨[.dat TCS,.dat TVS],fun args hp K=>g2 (pD TCS) (pD TVS) (fun columns row=>(Sm TCS columns)/\(Sm TVS row)/\K (dB (M.bG columns row)) []) args hp,.plain,false⟩
abbrev C144:Ctx:=cx [(178,c178),(195,c195)] 54 [] 0 false
def ann144:=an [[kp 3],[kp 1048579],[kp 16],[kp 35],[kp 16777251],[kp 35],[kp 9007199254741027],[kp 16],[kp 16]] [[kp 0]]
abbrev s144_0 (columns:LC) (row:LV) (i0:Int) (v0:Unit):St:=⟨[(0,.data TCS columns),(1,.data TVS row),(5,dI i0)],[]⟩
abbrev LP144_0 (columns:LC) (row:LV) (m:Nat) (st_:St) (K:KX):Prop:=True/\bg (s144_0 columns row) Z0 (row.length:Int) (F.iK columns row) (fun v0:Unit=>True) (aU (fun v0:Unit=>True->K (.exit 0) (⟨[],[]⟩:St)) (fun q0:Unit=>K .ret (⟨[(4,dB false)],[]⟩:St))) m st_
def L144 (columns:LC) (row:LV):aX:=lp1 0 (LP144_0 columns row)
theorem vc144 (columns:LC) (row:LV) (K:KA):vcT C144 (L144 columns row) ann144 f144 [.data TCS columns,.data TVS row] [] (.dat Ty.bool) K =
 ((Sm TCS columns)/\cond ((!(M.bC columns))==false) ((Sm TVS row)/\cond ((!(M.oS row))==false) (cond (!decide ((row.length:Int)=(columns.length:Int))) (K (dB false) []) (∃m_,True/\bg (s144_0 columns row) Z0 (row.length:Int) (F.iK columns row) (fun v0:Unit=>True) (aU (fun v0:Unit=>True->K (dB true) []) (fun q0:Unit=>K (dB false) [])) m_ (s144_0 columns row Z0 ()))) (K (dB false) [])) (K (dB false) [])):=by kernel_rfl
theorem lvc144_0 (columns:LC) (row:LV)  (i0:Int) (v0:Unit) (m:Nat) (K:KX):lvT C144 (L144 columns row) ann144 f144 0 0 (s144_0 columns row i0 v0) m K =
 (cond (decide (i0<(row.length:Int))) ((0<=i0)/\(i0<(row.length:Int))/\(0<=i0)/\(i0<(columns.length:Int))/\cond ((!decide ((nV row i0).1=(nC columns i0).1))==true) ((0<=i0)/\(i0<(row.length:Int))/\cond ((!decide ((nV row i0).1=Z0))==false) ((0<=i0)/\(i0<(columns.length:Int))/\cond (!(nC columns i0).2.1) (K .ret (⟨[(4,dB false)],[]⟩:St)) (nxT (LP144_0 columns row) m K (s144_0 columns row (wrap64 (i0+Z1)) ()))) (K .ret (⟨[(4,dB false)],[]⟩:St))) (nxT (LP144_0 columns row) m K (s144_0 columns row (wrap64 (i0+Z1)) ()))) (K (.exit 0) (⟨[],[]⟩:St))):=by kernel_rfl
theorem con144_ok:aP P 144 c144:=aR C144 func144 (kC con178_ok (kC con195_ok kN)) fun args hp K h0=>by
 obtain⟨columns,row,rfl,rfl,h_columns,h_row,hK⟩:=g2e h0
 have h:ok (F.oW columns row) (fun r=>K (dB r) []):=ak (F.yB columns row h_columns h_row) hK
 refine⟨rfl,ann144,(L144 columns row),(.dat Ty.bool),(aL (i0:=0) (by kernel_rfl) ?_),?_⟩
 ·rintro _ _ K ⟨hc0,i0,v0,rfl,hl0,rfl,hv0,h⟩
  exact cast (lvc144_0 _ _ _ _ _ _).symm (aM h (fun ht0 h=>⟨hl0,⟨ht0,⟨hl0,(oG h fun g1 h=>(oC h (fun _ h=>⟨hl0,⟨ht0,(oC h (fun _ h=>⟨hl0,⟨g1,(oC h (fun _ h=>h) fun _ h=>(aG (fun _ hm=>⟨hc0,hm⟩) _ rfl hl0 dS ht0 (aS h_row) trivial h))⟩⟩) fun _ h=>h)⟩⟩) fun _ h=>(aG (fun _ hm=>⟨hc0,hm⟩) _ rfl hl0 dS ht0 (aS h_row) trivial h)))⟩⟩⟩) fun h=>(h trivial))
 ·rw[vc144]
  exact⟨h_columns,(oC h (fun _ h=>⟨h_row,(oC h (fun _ h=>(oC h (fun _ h=>h) fun _ h=>(aE (fun m hm=>⟨trivial,hm⟩) Z0 _ rfl (Int.natCast_nonneg 0) trivial (aI h (fun v0 h hv0=>h) (fun q0 h=>h))))) fun _ h=>h)⟩) fun _ h=>h)⟩
def c108:Con:=⟨[.dat TCS,.dat (Ty.sl TVS)],fun args hp K=>g2 (pD TCS) (pD (Ty.sl TVS)) (fun columns rows=>(Sm TCS columns)/\(Sm (Ty.sl TVS) rows)/\K (dB (M.fX columns rows)) []) args hp,.plain,false⟩
abbrev C108:Ctx:=cx [(144,c144),(178,c178)] 21 [] 0 false
def ann108:=an [[kp 3],[kp 35],[kp 547],[kp 35],[kp 262179],[kp 16],[kp 16]] [[kp 1]]
abbrev s108_0 (columns:LC) (rows:(List LV)) (i0:Int) (v0:Unit):St:=⟨[(0,.data TCS columns),(1,.data (Ty.sl TVS) rows),(5,dI i0)],[]⟩
abbrev LP108_0 (columns:LC) (rows:(List LV)) (m:Nat) (st_:St) (K:KX):Prop:=True/\bO (t:=TVS) (s108_0 columns rows) rows (F.ji columns rows) (fun v0:Unit=>True) (aU (fun v0:Unit=>True->K (.exit 0) (⟨[(0,.data TCS columns)],[]⟩:St)) (fun q0:Unit=>K .ret (⟨[(4,dB false)],[]⟩:St))) m st_
def L108 (columns:LC) (rows:(List LV)):aX:=lp1 0 (LP108_0 columns rows)
theorem vc108 (columns:LC) (rows:(List LV)) (K:KA):vcT C108 (L108 columns rows) ann108 f108 [.data TCS columns,.data (Ty.sl TVS) rows] [] (.dat Ty.bool) K =
 (∃m_,True/\bO (t:=TVS) (s108_0 columns rows) rows (F.ji columns rows) (fun v0:Unit=>True) (aU (fun v0:Unit=>True->(Sm TCS columns)/\K (dB (M.bC columns)) []) (fun q0:Unit=>K (dB false) [])) m_ (s108_0 columns rows Z0 ())):=by kernel_rfl
theorem lvc108_0 (columns:LC) (rows:(List LV))  (i0:Int) (v0:Unit) (m:Nat) (K:KX):lvT C108 (L108 columns rows) ann108 f108 0 0 (s108_0 columns rows i0 v0) m K =
 (cond (decide (i0<(rows.length:Int))) ((0<=i0)/\(i0<(rows.length:Int))/\(Sm TCS columns)/\(Sm TVS (nth (t:=TVS) rows i0))/\cond (!(M.bG columns (nth (t:=TVS) rows i0))) (K .ret (⟨[(4,dB false)],[]⟩:St)) (nxT (LP108_0 columns rows) m K (s108_0 columns rows (wrap64 (i0+Z1)) ()))) (K (.exit 0) (⟨[(0,.data TCS columns)],[]⟩:St))):=by kernel_rfl
theorem con108_ok:aP P 108 c108:=aR C108 func108 (kC con144_ok (kC con178_ok kN)) fun args hp K h0=>by
 obtain⟨columns,rows,rfl,rfl,h_columns,h_rows,hK⟩:=g2e h0
 have h:ok (F.rE columns rows) (fun r=>K (dB r) []):=ak (F.zY columns rows h_columns h_rows) hK
 refine⟨rfl,ann108,(L108 columns rows),(.dat Ty.bool),(aL (i0:=0) (by kernel_rfl) ?_),?_⟩
 ·rintro _ _ K ⟨hc0,i0,v0,rfl,hl0,rfl,hv0,h⟩
  exact cast (lvc108_0 _ _ _ _ _ _).symm (bw (t:=TVS) hl0 h (fun ht0 h=>⟨hl0,⟨ht0,⟨h_columns,⟨(ay h_rows i0),(oC h (fun _ h=>h) fun _ h=>(br (t:=TVS) (fun _ hm=>⟨hc0,hm⟩) _ rfl hl0 ht0 (aS h_rows) trivial h))⟩⟩⟩⟩) fun h=>(h trivial))
 ·rw[vc108]
  exact(bp (t:=TVS) (fun m hm=>⟨trivial,hm⟩) _ rfl trivial (aI h (fun v0 h hv0=>⟨h_columns,h⟩) (fun q0 h=>h)))
def c48:Con:=⟨[.dat TTb],fun args hp K=>g1 (pD TTb) (fun tables=>(Sm TTb tables)/\K (dB (M.aA tables)) []) args hp,.plain,false⟩
abbrev C48:Ctx:=cx [(108,c108)] 34 [] 0 false
def ann48:=an [[kp 1],[kp 9],[kp 137],[kp 9],[kp 1073741833],[kp 4],[kp 4]] [[kp 1]]
abbrev s48_0 (tables:LTb) (i0:Int) (v0:Unit):St:=⟨[(0,.data TTb tables),(3,dI i0)],[]⟩
abbrev LP48_0 (tables:LTb) (m:Nat) (st_:St) (K:KX):Prop:=True/\bO (t:=TTable) (s48_0 tables) tables (F.gX tables) (fun v0:Unit=>True) (aU (fun v0:Unit=>True->K (.exit 0) (⟨[(0,.data TTb tables)],[]⟩:St)) (fun q0:Unit=>K .ret (⟨[(2,dB false)],[]⟩:St))) m st_
def L48 (tables:LTb):aX:=lp1 0 (LP48_0 tables)
theorem vc48 (tables:LTb) (K:KA):vcT C48 (L48 tables) ann48 f48 [.data TTb tables] [] (.dat Ty.bool) K =
 (∃m_,True/\bO (t:=TTable) (s48_0 tables) tables (F.gX tables) (fun v0:Unit=>True) (aU (fun v0:Unit=>True->K (dB (decide ((tables.length:Int)<=Z3))) []) (fun q0:Unit=>K (dB false) [])) m_ (s48_0 tables Z0 ())):=by kernel_rfl
theorem lvc48_0 (tables:LTb)  (i0:Int) (v0:Unit) (m:Nat) (K:KX):lvT C48 (L48 tables) ann48 f48 0 0 (s48_0 tables i0 v0) m K =
 (cond (decide (i0<(tables.length:Int))) ((0<=i0)/\(i0<(tables.length:Int))/\cond ((decide (Z6<((nT tables i0).2.1.length:Int)))==false) ((0<=i0)/\(i0<(tables.length:Int))/\(0<=i0)/\(i0<(tables.length:Int))/\(Sm TCS (nT tables i0).1)/\(Sm (Ty.sl TVS) (nT tables i0).2.1)/\cond (!(M.fX (nT tables i0).1 (nT tables i0).2.1)) (K .ret (⟨[(2,dB false)],[]⟩:St)) (nxT (LP48_0 tables) m K (s48_0 tables (wrap64 (i0+Z1)) ()))) (K .ret (⟨[(2,dB false)],[]⟩:St))) (K (.exit 0) (⟨[(0,.data TTb tables)],[]⟩:St))):=by kernel_rfl
theorem con48_ok:aP P 48 c48:=aR C48 func48 (kC con108_ok kN) fun args hp K h0=>by
 obtain⟨tables,rfl,rfl,h_tables,hK⟩:=g1e h0
 have h:ok (F.oz tables) (fun r=>K (dB r) []):=ak (F.wV tables h_tables) hK
 refine⟨rfl,ann48,(L48 tables),(.dat Ty.bool),(aL (i0:=0) (by kernel_rfl) ?_),?_⟩
 ·rintro _ _ K ⟨hc0,i0,v0,rfl,hl0,rfl,hv0,h⟩
  exact cast (lvc48_0 _ _ _ _ _).symm (bw (t:=TTable) hl0 h (fun ht0 h=>⟨hl0,⟨ht0,(oC h (fun _ h=>⟨hl0,⟨ht0,⟨hl0,⟨ht0,⟨(ay h_tables i0).1,⟨(ay h_tables i0).2.1,(oC h (fun _ h=>h) fun _ h=>(br (t:=TTable) (fun _ hm=>⟨hc0,hm⟩) _ rfl hl0 ht0 (aS h_tables) trivial h))⟩⟩⟩⟩⟩⟩) fun _ h=>h)⟩⟩) fun h=>(h trivial))
 ·rw[vc48]
  exact(bp (t:=TTable) (fun m hm=>⟨trivial,hm⟩) _ rfl trivial (aI h (fun v0 h hv0=>h) (fun q0 h=>h)))
def c146:Con:=⟨[.dat TCS,.dat (Ty.sl au)],fun args hp K=>g2 (pD TCS) (pD (Ty.sl au)) (fun columns list=>(Sm TCS columns)/\(Sm (Ty.sl au) list)/\K (dB (M.bT columns list)) []) args hp,.plain,false⟩
abbrev C146:Ctx:=cx [(143,c143)] 24 [] 0 false
def ann146:=an [[kp 3],[kp 35],[kp 547],[kp 35],[kp 1048611],[kp 16],[kp 16]] [[kp 2]]
abbrev s146_0 (columns:LC) (list:LI) (i0:Int) (v0:Unit):St:=⟨[(0,.data TCS columns),(1,.data (Ty.sl au) list),(5,dI i0)],[]⟩
abbrev LP146_0 (columns:LC) (list:LI) (m:Nat) (st_:St) (K:KX):Prop:=True/\bO (t:=au) (s146_0 columns list) list (F.fN columns list) (fun v0:Unit=>True) (aU (fun v0:Unit=>True->K (.exit 0) (⟨[(1,.data (Ty.sl au) list)],[]⟩:St)) (fun q0:Unit=>K .ret (⟨[(4,dB false)],[]⟩:St))) m st_
def L146 (columns:LC) (list:LI):aX:=lp1 0 (LP146_0 columns list)
theorem vc146 (columns:LC) (list:LI) (K:KA):vcT C146 (L146 columns list) ann146 f146 [.data TCS columns,.data (Ty.sl au) list] [] (.dat Ty.bool) K =
 (∃m_,True/\bO (t:=au) (s146_0 columns list) list (F.fN columns list) (fun v0:Unit=>True) (aU (fun v0:Unit=>True->K (dB (M.inR (list.length:Int) Z1 Z4)) []) (fun q0:Unit=>K (dB false) [])) m_ (s146_0 columns list Z0 ())):=by kernel_rfl
theorem lvc146_0 (columns:LC) (list:LI)  (i0:Int) (v0:Unit) (m:Nat) (K:KX):lvT C146 (L146 columns list) ann146 f146 0 0 (s146_0 columns list i0 v0) m K =
 (cond (decide (i0<(list.length:Int))) ((0<=i0)/\(i0<(list.length:Int))/\cond (!(M.inR (nI list i0) Z0 (wrap64 ((columns.length:Int)-Z1)))) (K .ret (⟨[(4,dB false)],[]⟩:St)) (nxT (LP146_0 columns list) m K (s146_0 columns list (wrap64 (i0+Z1)) ()))) (K (.exit 0) (⟨[(1,.data (Ty.sl au) list)],[]⟩:St))):=by kernel_rfl
theorem con146_ok:aP P 146 c146:=aR C146 func146 (kC con143_ok kN) fun args hp K h0=>by
 obtain⟨columns,list,rfl,rfl,h_columns,h_list,hK⟩:=g2e h0
 have h:ok (F.lE columns list) (fun r=>K (dB r) []):=ak (F.tN columns list h_columns h_list) hK
 refine⟨rfl,ann146,(L146 columns list),(.dat Ty.bool),(aL (i0:=0) (by kernel_rfl) ?_),?_⟩
 ·rintro _ _ K ⟨hc0,i0,v0,rfl,hl0,rfl,hv0,h⟩
  exact cast (lvc146_0 _ _ _ _ _ _).symm (bw (t:=au) hl0 h (fun ht0 h=>⟨hl0,⟨ht0,(oC h (fun _ h=>h) fun _ h=>(br (t:=au) (fun _ hm=>⟨hc0,hm⟩) _ rfl hl0 ht0 (aS h_list) trivial h))⟩⟩) fun h=>(h trivial))
 ·rw[vc146]
  exact(bp (t:=au) (fun m hm=>⟨trivial,hm⟩) _ rfl trivial (aI h (fun v0 h hv0=>h) (fun q0 h=>h)))
def c196:Con:=⟨[.dat TCS,.mv,.dat ax],fun args hp K=>hpN 0 .sh au (fun kinds=>Da (fun a0 a1 a2=>ja TCS a0 fun columns=>Fv 0 a1 (ja ax a2 fun p=>(Sm TCS columns)/\(Sm (Ty.sl au) kinds)/\(Sm ax p)/\(kinds.length<=1000)/\(LD (M.wY columns kinds p) fun r=>K (.tup [.own 0 none,dB r.2]) [(0,.arr .sh au r.1)]))) args []) hp,.mv,false⟩
abbrev C196:Ctx:=cx [(143,c143),(223,c223)] 191 [] 0 true
def ann196:=an [[.fixRow 5 ax,kp 35],[kp 291],[kp 137438953763],[kp 192],[kp 1099511628067],[kp 3298534883619],[.keep [1,5,52]],[kp 192],[kp 192],[kp 1152922604118475043],[.keep [0,1,5,68]],[kp 192],[kp 192],[.keep [1,5,8,40,79]],[kp 770],[kp 192],[.keep [1,5,8,40,107]],[kp 1282],[kp 192],[.keep [1,8,40,137]],[.keep [1,8,40,137]],[kp 2306],[kp 192],[.keep [1,8,40,166]],[kp 192],[.keep [1,8,179]],[kp 192],[kp 192]] []
abbrev S196_0 (columns:LC) (kinds:LI) (p:ax.D) (K:KA):Prop:=(0<=Z0)/\(Z0<=(bA (wrap64 ((kinds.length:Int)-Z2)) Z0))/\((bA (wrap64 ((kinds.length:Int)-Z2)) Z0)<=(kinds.length:Int))/\((bA (wrap64 ((kinds.length:Int)-Z2)) Z0)=(bA (wrap64 ((kinds.length:Int)-Z2)) Z0))/\(Z0=0)/\(((bA (wrap64 ((kinds.length:Int)-Z2)) Z0).toNat+[Z1].length) * 8<=lim)/\K (.tup [.own 0 none,dB false]) [(0,.arr .sh au (kinds.take (bA (wrap64 ((kinds.length:Int)-Z2)) Z0).toNat++[Z1]))]
abbrev S196_1 (columns:LC) (kinds:LI) (p:ax.D) (K:KA):Prop:=(0<=Z0)/\(Z0<=(bA (wrap64 ((kinds.length:Int)-Z2)) Z0))/\((bA (wrap64 ((kinds.length:Int)-Z2)) Z0)<=(kinds.length:Int))/\((bA (wrap64 ((kinds.length:Int)-Z2)) Z0)=(bA (wrap64 ((kinds.length:Int)-Z2)) Z0))/\(Z0=0)/\(((bA (wrap64 ((kinds.length:Int)-Z2)) Z0).toNat+[Z3].length) * 8<=lim)/\K (.tup [.own 0 none,dB false]) [(0,.arr .sh au (kinds.take (bA (wrap64 ((kinds.length:Int)-Z2)) Z0).toNat++[Z3]))]
abbrev S196_2 (columns:LC) (kinds:LI) (p:ax.D) (K:KA):Prop:=(S196_1 columns kinds p K)
abbrev S196_3 (columns:LC) (kinds:LI) (p:ax.D) (K:KA):Prop:=cond ((decide (Z1<(kinds.length:Int)))==true) ((0<=wrap64 ((kinds.length:Int)-Z1))/\(wrap64 ((kinds.length:Int)-Z1)<(kinds.length:Int))/\cond ((decide ((nI kinds (wrap64 ((kinds.length:Int)-Z1)))=Z3))==true) ((0<=wrap64 ((kinds.length:Int)-Z2))/\(wrap64 ((kinds.length:Int)-Z2)<(kinds.length:Int))/\(0<=Z0)/\(Z0<=(bA (wrap64 ((kinds.length:Int)-Z2)) Z0))/\((bA (wrap64 ((kinds.length:Int)-Z2)) Z0)<=(kinds.length:Int))/\((bA (wrap64 ((kinds.length:Int)-Z2)) Z0)=(bA (wrap64 ((kinds.length:Int)-Z2)) Z0))/\(Z0=0)/\(((bA (wrap64 ((kinds.length:Int)-Z2)) Z0).toNat+[Z3].length) * 8<=lim)/\K (.tup [.own 0 none,dB (decide ((nI kinds (wrap64 ((kinds.length:Int)-Z2)))=Z3))]) [(0,.arr .sh au (kinds.take (bA (wrap64 ((kinds.length:Int)-Z2)) Z0).toNat++[Z3]))]) (S196_2 columns kinds p K)) (S196_2 columns kinds p K)
abbrev S196_4 (columns:LC) (kinds:LI) (p:ax.D) (K:KA):Prop:=cond (decide (p.1=(7:Int))) (cond ((decide (Z0<(kinds.length:Int)))==true) ((0<=wrap64 ((kinds.length:Int)-Z1))/\(wrap64 ((kinds.length:Int)-Z1)<(kinds.length:Int))/\K (.tup [.own 0 none,dB (decide ((nI kinds (wrap64 ((kinds.length:Int)-Z1)))=Z3))]) [(0,.arr .sh au kinds)]) (K (.tup [.own 0 none,dB false]) [(0,.arr .sh au kinds)])) (cond (decide (p.1=(8:Int))) ((0<=Z0)/\(Z0<=(bA (wrap64 ((kinds.length:Int)-Z1)) Z0))/\((bA (wrap64 ((kinds.length:Int)-Z1)) Z0)<=(kinds.length:Int))/\((bA (wrap64 ((kinds.length:Int)-Z1)) Z0)=(bA (wrap64 ((kinds.length:Int)-Z1)) Z0))/\(Z0=0)/\(((bA (wrap64 ((kinds.length:Int)-Z1)) Z0).toNat+[Z3].length) * 8<=lim)/\K (.tup [.own 0 none,dB (decide (Z0<(kinds.length:Int)))]) [(0,.arr .sh au (kinds.take (bA (wrap64 ((kinds.length:Int)-Z1)) Z0).toNat++[Z3]))]) (K (.tup [.own 0 none,dB false]) [(0,.arr .sh au kinds)]))
abbrev S196_5 (columns:LC) (kinds:LI) (p:ax.D) (K:KA):Prop:=cond (decide (p.1=Z1)) ((Sm aa p.2.2.1)/\cond ((!(M.aO p.2.2.1))==false) (cond (decide (p.2.2.1.1=Z0)) (K (.tup [.own 0 none,dB false]) [(0,.arr .sh au kinds)]) (((kinds.length+[p.2.2.1.1].length) * 8<=lim)/\K (.tup [.own 0 none,dB true]) [(0,.arr .sh au (kinds++[p.2.2.1.1]))])) (K (.tup [.own 0 none,dB false]) [(0,.arr .sh au kinds)])) (cond (decide (p.1=Z2)) (cond (!(M.inR p.2.1 Z0 (wrap64 ((columns.length:Int)-Z1)))) (K (.tup [.own 0 none,dB false]) [(0,.arr .sh au kinds)]) ((0<=p.2.1)/\(p.2.1<(columns.length:Int))/\((kinds.length+[(nC columns p.2.1).1].length) * 8<=lim)/\K (.tup [.own 0 none,dB true]) [(0,.arr .sh au (kinds++[(nC columns p.2.1).1]))])) (cond (decide (p.1=Z3)) (cond ((decide (Z1<(kinds.length:Int)))==true) ((0<=wrap64 ((kinds.length:Int)-Z1))/\(wrap64 ((kinds.length:Int)-Z1)<(kinds.length:Int))/\cond ((decide ((nI kinds (wrap64 ((kinds.length:Int)-Z1)))=Z1))==true) ((0<=wrap64 ((kinds.length:Int)-Z2))/\(wrap64 ((kinds.length:Int)-Z2)<(kinds.length:Int))/\(0<=Z0)/\(Z0<=(bA (wrap64 ((kinds.length:Int)-Z2)) Z0))/\((bA (wrap64 ((kinds.length:Int)-Z2)) Z0)<=(kinds.length:Int))/\((bA (wrap64 ((kinds.length:Int)-Z2)) Z0)=(bA (wrap64 ((kinds.length:Int)-Z2)) Z0))/\(Z0=0)/\(((bA (wrap64 ((kinds.length:Int)-Z2)) Z0).toNat+[Z1].length) * 8<=lim)/\K (.tup [.own 0 none,dB (decide ((nI kinds (wrap64 ((kinds.length:Int)-Z2)))=Z1))]) [(0,.arr .sh au (kinds.take (bA (wrap64 ((kinds.length:Int)-Z2)) Z0).toNat++[Z1]))]) (S196_0 columns kinds p K)) (S196_0 columns kinds p K)) (cond (decide (p.1=Z4)) (cond ((decide (Z1<(kinds.length:Int)))==true) ((0<=wrap64 ((kinds.length:Int)-Z1))/\(wrap64 ((kinds.length:Int)-Z1)<(kinds.length:Int))/\(0<=wrap64 ((kinds.length:Int)-Z2))/\(wrap64 ((kinds.length:Int)-Z2)<(kinds.length:Int))/\cond ((decide ((nI kinds (wrap64 ((kinds.length:Int)-Z1)))=(nI kinds (wrap64 ((kinds.length:Int)-Z2)))))==true) ((0<=Z0)/\(Z0<=(bA (wrap64 ((kinds.length:Int)-Z2)) Z0))/\((bA (wrap64 ((kinds.length:Int)-Z2)) Z0)<=(kinds.length:Int))/\((bA (wrap64 ((kinds.length:Int)-Z2)) Z0)=(bA (wrap64 ((kinds.length:Int)-Z2)) Z0))/\(Z0=0)/\(((bA (wrap64 ((kinds.length:Int)-Z2)) Z0).toNat+[Z3].length) * 8<=lim)/\K (.tup [.own 0 none,dB (M.inR p.2.1 Z1 Z4)]) [(0,.arr .sh au (kinds.take (bA (wrap64 ((kinds.length:Int)-Z2)) Z0).toNat++[Z3]))]) (S196_2 columns kinds p K)) (S196_2 columns kinds p K)) (cond (decide (p.1=Z5)) (cond (decide (p.1=Z5)) (S196_3 columns kinds p K) (S196_4 columns kinds p K)) (cond (decide (p.1=Z6)) (S196_3 columns kinds p K) (S196_4 columns kinds p K))))))
abbrev S196_6 (columns:LC) (kinds:LI) (p:ax.D) (K:KA):Prop:=cond ((!decide (p.1=Z2))==true) (cond ((!decide (p.1=Z4))==true) (cond (!decide (p.2.1=Z0)) (K (.tup [.own 0 none,dB false]) [(0,.arr .sh au kinds)]) (S196_5 columns kinds p K)) (S196_5 columns kinds p K)) (S196_5 columns kinds p K)
theorem vc196 (columns:LC) (kinds:LI) (p:ax.D) (K:KA):vcT C196 aq ann196 f196 [.data TCS columns,.own 0 none,.data ax p] [(0,.arr .sh au kinds)] .raw K =
 (cond ((!decide (p.1=Z1))==true) (cond ((!(Ty.beq aa p.2.2.1 (Z0,(Z0,((⟨#[]⟩:ByteArray),())))))==false) (S196_6 columns kinds p K) (K (.tup [.own 0 none,dB false]) [(0,.arr .sh au kinds)])) (S196_6 columns kinds p K)):=by kernel_rfl
theorem con196_ok:aP P 196 c196:=aR C196 func196 (kC con143_ok (kC con223_ok kN)) fun args hp K h0=>by
 unfold c196 at h0
 dsimp only at h0
 obtain⟨kinds,rfl,h00⟩:=jr (n:=0) (d:=.sh) (t:=au) h0
 obtain⟨a0,a1,a2,rfl,_,h1⟩:=tB h00
 obtain⟨columns,rfl,h2⟩:=bX h1
 obtain⟨rfl,h3⟩:=zW h2
 obtain⟨p,rfl,h4⟩:=bX h3
 obtain⟨h_columns,h_kinds,h_p,p0,hK⟩:=h4
 have h:ok (F.kM columns kinds p) (fun r=>K (.tup [.own 0 none,dB r.2]) [(0,.arr .sh au r.1)]):=ak (F.zR columns kinds p h_columns h_kinds h_p p0) (hK _ rfl)
 refine⟨rfl,ann196,aq,.raw,(az (by kernel_rfl)),?_⟩
 ·rw[vc196]
  exact(oC h (fun b_1 h=>(oC h (fun _ h=>(oC h (fun b_3 h=>(oC h (fun b_4 h=>(oC h (fun _ h=>h) fun _ h=>(dN (bnt (bet b_1)) (dN (bnt (bet b_3)) (oC h (fun _ h=>(oC h (fun _ h=>(oG h fun _ h=>(oG h fun _ h=>(oC h (fun _ h=>(oG h fun _ h=>(oG h fun _ h=>⟨(Int.natCast_nonneg 0),(oG h fun _ h=>(oG h fun _ h=>⟨rfl,⟨rfl,(oG h fun _ h=>h)⟩⟩))⟩))) fun _ h=>⟨(Int.natCast_nonneg 0),(oG h fun _ h=>(oG h fun _ h=>⟨rfl,⟨rfl,(oG h fun _ h=>h)⟩⟩))⟩)))) fun _ h=>⟨(Int.natCast_nonneg 0),(oG h fun _ h=>(oG h fun _ h=>⟨rfl,⟨rfl,(oG h fun _ h=>h)⟩⟩))⟩)) fun _ h=>(dN (bnt (bet b_4)) (oC h (fun b_25 h=>(fJ b_25 (oC h (fun _ h=>(oG h fun _ h=>(oG h fun _ h=>(oC h (fun _ h=>(oG h fun _ h=>(oG h fun _ h=>⟨(Int.natCast_nonneg 0),(oG h fun _ h=>(oG h fun _ h=>⟨rfl,⟨rfl,(oG h fun _ h=>h)⟩⟩))⟩))) fun _ h=>⟨(Int.natCast_nonneg 0),(oG h fun _ h=>(oG h fun _ h=>⟨rfl,⟨rfl,(oG h fun _ h=>h)⟩⟩))⟩)))) fun _ h=>⟨(Int.natCast_nonneg 0),(oG h fun _ h=>(oG h fun _ h=>⟨rfl,⟨rfl,(oG h fun _ h=>h)⟩⟩))⟩))) fun _ h=>(oC h (fun _ h=>(oC h (fun _ h=>(oG h fun _ h=>(oG h fun _ h=>(oC h (fun _ h=>(oG h fun _ h=>(oG h fun _ h=>⟨(Int.natCast_nonneg 0),(oG h fun _ h=>(oG h fun _ h=>⟨rfl,⟨rfl,(oG h fun _ h=>h)⟩⟩))⟩))) fun _ h=>⟨(Int.natCast_nonneg 0),(oG h fun _ h=>(oG h fun _ h=>⟨rfl,⟨rfl,(oG h fun _ h=>h)⟩⟩))⟩)))) fun _ h=>⟨(Int.natCast_nonneg 0),(oG h fun _ h=>(oG h fun _ h=>⟨rfl,⟨rfl,(oG h fun _ h=>h)⟩⟩))⟩)) fun _ h=>(oC h (fun _ h=>(oC h (fun _ h=>(oG h fun _ h=>(oG h fun _ h=>h))) fun _ h=>h)) fun _ h=>(oC h (fun _ h=>⟨(Int.natCast_nonneg 0),(oG h fun _ h=>(oG h fun _ h=>⟨rfl,⟨rfl,(oG h fun _ h=>h)⟩⟩))⟩) fun _ h=>h)))))))))) fun b_4 h=>(dN (bnt (bet b_1)) (dN (bnt (bet b_3)) (dN (oV (bnf (bef b_4)) (by decide)) (fJ (bnf (bef b_4)) (oC h (fun _ h=>(oG h fun _ h=>(oG h fun _ h=>(oG h fun _ h=>(oG h fun _ h=>(oC h (fun _ h=>⟨(Int.natCast_nonneg 0),(oG h fun _ h=>(oG h fun _ h=>⟨rfl,⟨rfl,(oG h fun _ h=>h)⟩⟩))⟩) fun _ h=>⟨(Int.natCast_nonneg 0),(oG h fun _ h=>(oG h fun _ h=>⟨rfl,⟨rfl,(oG h fun _ h=>h)⟩⟩))⟩)))))) fun _ h=>⟨(Int.natCast_nonneg 0),(oG h fun _ h=>(oG h fun _ h=>⟨rfl,⟨rfl,(oG h fun _ h=>h)⟩⟩))⟩))))))) fun b_3 h=>(dN (bnt (bet b_1)) (fJ (bnf (bef b_3)) (oC h (fun _ h=>h) fun b_110 h=>⟨(jN (bnf b_110)),⟨(nW (bnf b_110)),⟨(rZ h_kinds (Ay trivial) rfl),h⟩⟩⟩))))) fun _ h=>h)) fun b_1 h=>(fJ (uet (unt (oV (bnf (bef b_1)) (by decide)))) (fJ (uet (unt (oV (bnf (bef b_1)) (by decide)))) (oC h (fun _ h=>h) fun _ h=>(fJ (bnf (bef b_1)) ⟨h_p.2.2.1,(oC h (fun _ h=>(oC h (fun _ h=>h) fun _ h=>⟨(rZ h_kinds (Ay trivial) rfl),h⟩)) fun _ h=>h)⟩)))))
def c147:Con:=⟨[.dat TCS,.dat TPS],fun args hp K=>g2 (pD TCS) (pD TPS) (fun columns e=>(Sm TCS columns)/\(Sm TPS e)/\K (dI (M.dg columns e)) []) args hp,.plain,false⟩
abbrev C147:Ctx:=cx [(178,c178),(196,c196)] 46 [] 0 false
def ann147:=an [[kp 3],[kp 32771],[kp 16],[kp 35],[kp 99],[kp 227],[kp 8388835],[kp 227],[kp 227],[.keep [5,42]],[kp 16],[kp 16]] [[kp 96]]
abbrev s147_0 (columns:LC) (e:LPt) (v0:Bool×Int×LI):St:=⟨[(0,.data TCS columns),(1,.data TPS e),(5,.own 16 none),(6,dB v0.1),(7,dI v0.2.1)],[(16,.arr .sh au v0.2.2)]⟩
abbrev LP147_0 (columns:LC) (e:LPt) (m:Nat) (st_:St) (K:KX):Prop:=True/\jH (s147_0 columns e) (F.cL columns e) (fun v0:Bool×Int×LI=>True) (fun e0:Bool×LI=>True->K (.exit 0) (⟨[(5,.own 16 none),(6,dB e0.1)],[(16,.arr .sh au e0.2)]⟩:St)) m st_
def L147 (columns:LC) (e:LPt):aX:=lp1 0 (LP147_0 columns e)
theorem vc147 (columns:LC) (e:LPt) (K:KA):vcT C147 (L147 columns e) ann147 f147 [.data TCS columns,.data TPS e] [] (.dat au) K =
 ((Sm TCS columns)/\cond ((!(M.bC columns))==false) (cond (decide ((12:Int)<(e.length:Int))) (K (dI (-1:Int)) []) (∃m_,True/\jH (s147_0 columns e) (F.cL columns e) (fun v0:Bool×Int×LI=>True) (fun e0:Bool×LI=>True->cond ((!e0.1)==false) (cond (!decide ((e0.2.length:Int)=Z1)) (K (dI (-1:Int)) []) ((0<=Z0)/\(Z0<(e0.2.length:Int))/\K (dI (nI e0.2 Z0)) [])) (K (dI (-1:Int)) [])) m_ (s147_0 columns e (true,Z0,[])))) (K (dI (-1:Int)) [])):=by kernel_rfl
theorem lvc147_0 (columns:LC) (e:LPt)  (v0:Bool×Int×LI) (m:Nat) (K:KX):lvT C147 (L147 columns e) ann147 f147 0 0 (s147_0 columns e v0) m K =
 (cond ((decide (v0.2.1<(e.length:Int)))==true) (cond v0.1 ((0<=v0.2.1)/\(v0.2.1<(e.length:Int))/\(Sm TCS columns)/\(Sm (Ty.sl au) v0.2.2)/\(Sm ax (nP e v0.2.1))/\(v0.2.2.length<=1000)/\(LD (M.wY columns v0.2.2 (nP e v0.2.1)) fun r1=>(nxT (LP147_0 columns e) m K (s147_0 columns e (r1.2,wrap64 (v0.2.1+Z1),r1.1))))) (K (.exit 0) (⟨[(5,.own 16 none),(6,dB v0.1)],[(16,.arr .sh au v0.2.2)]⟩:St))) (K (.exit 0) (⟨[(5,.own 16 none),(6,dB v0.1)],[(16,.arr .sh au v0.2.2)]⟩:St))):=by kernel_rfl
theorem con147_ok:aP P 147 c147:=aR C147 func147 (kC con178_ok (kC con196_ok kN)) fun args hp K h0=>by
 obtain⟨columns,e,rfl,rfl,h_columns,h_e,hK⟩:=g2e h0
 have h:ok (F.nY columns e) (fun r=>K (dI r) []):=ak (F.wz columns e h_columns h_e) hK
 refine⟨rfl,ann147,(L147 columns e),(.dat au),(aL (i0:=0) (by kernel_rfl) ?_),?_⟩
 ·rintro _ _ K ⟨hc0,v0,rfl,hv0,h⟩
  exact cast (lvc147_0 _ _ _ _ _).symm (gI h (fun m1 hm0 h=>(oC h (fun _ h=>(oC h (fun _ h=>(oG h fun _ h=>(oG h fun _ h=>⟨h_columns,(oG h fun _ h=>⟨(ay h_e v0.2.1),(oG h fun _ h=>(oL h fun _ _ h=>(eN (fun _ hm=>⟨hc0,hm⟩) hm0 _ rfl trivial h)))⟩)⟩))) fun _ h=>((lz h :) trivial))) fun _ h=>((lz h :) trivial))))
 ·rw[vc147]
  exact⟨h_columns,(oC h (fun _ h=>(oC h (fun _ h=>h) fun _ h=>(fE (fun m hm=>⟨trivial,hm⟩) _ rfl trivial (pK h (fun e0 h hv0=>(oC h (fun _ h=>(oC h (fun _ h=>h) fun _ h=>⟨(Int.natCast_nonneg 0),(oG h fun _ h=>h)⟩)) fun _ h=>h)))))) fun _ h=>h)⟩
def c80:Con:=⟨[.dat TTb,.dat TBond],fun args hp K=>g2 (pD TTb) (pD TBond) (fun tables b=>(Sm TTb tables)/\(Sm TBond b)/\K (dB (M.aA tables&&M.aN tables b)) []) args hp,.plain,false⟩
abbrev C80:Ctx:=cx [(48,c48),(143,c143),(146,c146),(147,c147)] 158 [] 0 false
def ann80:=an [[.fixRow 3 TBond,kp 9],[kp 262153],[kp 16],[kp 41],[kp 67108905],[kp 201326633],[kp 16],[kp 36028797086072873],[kp 16],[.keep [0,3,5,84]],[.keep [0,3,5,126]],[kp 16],[kp 105],[.keep [0,3,5,6,131]],[kp 105],[.keep [0,3,5,6,157]],[kp 16],[kp 16],[kp 16]] [[],[kp 0]]
abbrev s80_1 (tables:LTb) (b:TBond.D) (i1:Int) (v1:Unit):St:=⟨[(0,.data TTb tables),(3,.adr TBond b),(5,.data TCS (nT tables b.2.1).1),(6,dI i1)],[]⟩
abbrev LP80_1 (tables:LTb) (b:TBond.D) (m:Nat) (st_:St) (K:KX):Prop:=True/\bg (s80_1 tables b) Z0 (b.2.2.1.length:Int) (F.jj tables b) (fun v1:Unit=>True) (aU (fun v1:Unit=>True->K (.exit 1) (⟨[],[]⟩:St)) (fun q1:Unit=>K .ret (⟨[(4,dB false)],[]⟩:St))) m st_
def L80 (tables:LTb) (b:TBond.D):aX:=lp1 1 (LP80_1 tables b)
theorem vc80 (tables:LTb) (b:TBond.D) (K:KA):vcT C80 (L80 tables b) ann80 f80 [.data TTb tables,.data TBond b] [] (.dat Ty.bool) K =
 ((Sm TTb tables)/\cond ((!(M.aA tables))==false) (cond (!(M.inR b.2.1 Z0 (wrap64 ((tables.length:Int)-Z1)))) (K (dB false) []) ((0<=b.2.1)/\(b.2.1<(tables.length:Int))/\cond (decide (b.1=Z1)) ((Sm TCS (nT tables b.2.1).1)/\(Sm (Ty.sl au) b.2.2.1)/\cond ((M.bT (nT tables b.2.1).1 b.2.2.1)==true) (cond ((decide (b.2.2.2.1=Z0))==true) (cond ((decide ((b.2.2.2.2.1.length:Int)=Z0))==true) (cond ((!b.2.2.2.2.2.1)==true) (K (dB (decide ((b.2.2.2.2.2.2.1.length:Int)=Z0))) []) (K (dB false) [])) (K (dB false) [])) (K (dB false) [])) (K (dB false) [])) (cond (decide (b.1=Z3)) ((Sm TCS (nT tables b.2.1).1)/\(Sm TPS b.2.2.2.2.2.2.1)/\cond ((decide ((M.dg (nT tables b.2.1).1 b.2.2.2.2.2.2.1)=Z3))==true) (cond ((decide ((b.2.2.1.length:Int)=Z0))==true) (cond ((decide (b.2.2.2.1=Z0))==true) (cond ((decide ((b.2.2.2.2.1.length:Int)=Z0))==true) (K (dB (!b.2.2.2.2.2.1)) []) (K (dB false) [])) (K (dB false) [])) (K (dB false) [])) (K (dB false) [])) (cond (decide (b.1=Z2)) (cond ((!(M.inR b.2.2.2.1 Z0 (wrap64 ((tables.length:Int)-Z1))))==false) ((Sm TCS (nT tables b.2.1).1)/\(Sm (Ty.sl au) b.2.2.1)/\cond ((!(M.bT (nT tables b.2.1).1 b.2.2.1))==false) ((0<=b.2.2.2.1)/\(b.2.2.2.1<(tables.length:Int))/\(Sm TCS (nT tables b.2.2.2.1).1)/\(Sm (Ty.sl au) b.2.2.2.2.1)/\cond ((!(M.bT (nT tables b.2.2.2.1).1 b.2.2.2.2.1))==false) (cond ((!decide ((b.2.2.1.length:Int)=(b.2.2.2.2.1.length:Int)))==false) (cond (decide (Z0<(b.2.2.2.2.2.2.1.length:Int))) (K (dB false) []) (∃m_,True/\bg (s80_1 tables b) Z0 (b.2.2.1.length:Int) (F.jj tables b) (fun v1:Unit=>True) (aU (fun v1:Unit=>True->K (dB true) []) (fun q1:Unit=>K (dB false) [])) m_ (s80_1 tables b Z0 ()))) (K (dB false) [])) (K (dB false) [])) (K (dB false) [])) (K (dB false) [])) (K (dB false) []))))) (K (dB false) [])):=by kernel_rfl
theorem lvc80_0 (tables:LTb) (b:TBond.D)  (i1:Int) (v1:Unit) (m:Nat) (K:KX):lvT C80 (L80 tables b) ann80 f80 0 1 (s80_1 tables b i1 v1) m K =
 (cond (decide (i1<(b.2.2.1.length:Int))) ((0<=i1)/\(i1<(b.2.2.1.length:Int))/\(0<=(nI b.2.2.1 i1))/\((nI b.2.2.1 i1)<((nT tables b.2.1).1.length:Int))/\(0<=b.2.2.2.1)/\(b.2.2.2.1<(tables.length:Int))/\(0<=i1)/\(i1<(b.2.2.2.2.1.length:Int))/\(0<=(nI b.2.2.2.2.1 i1))/\((nI b.2.2.2.2.1 i1)<((nT tables b.2.2.2.1).1.length:Int))/\cond (!decide ((nC (nT tables b.2.1).1 (nI b.2.2.1 i1)).1=(nC (nT tables b.2.2.2.1).1 (nI b.2.2.2.2.1 i1)).1)) (K .ret (⟨[(4,dB false)],[]⟩:St)) (nxT (LP80_1 tables b) m K (s80_1 tables b (wrap64 (i1+Z1)) ()))) (K (.exit 1) (⟨[],[]⟩:St))):=by kernel_rfl
theorem con80_ok:aP P 80 c80:=aR C80 func80 (kC con48_ok (kC con143_ok (kC con146_ok (kC con147_ok kN)))) fun args hp K h0=>by
 obtain⟨tables,b,rfl,rfl,h_tables,h_b,hK⟩:=g2e h0
 have h:ok (F.qJ tables b) (fun r=>K (dB r) []):=ak (F.zJ tables b h_tables h_b) hK
 refine⟨rfl,ann80,(L80 tables b),(.dat Ty.bool),(aL (i0:=1) (by kernel_rfl) ?_),?_⟩
 ·rintro _ _ K ⟨hc1,i1,v1,rfl,hl1,rfl,hv1,h⟩
  exact cast (lvc80_0 _ _ _ _ _ _).symm (aM h (fun ht1 h=>⟨hl1,⟨ht1,(oG h fun _ h=>(oG h fun _ h=>(oG h fun _ h=>(oG h fun _ h=>⟨hl1,(oG h fun _ h=>(oG h fun _ h=>(oG h fun _ h=>(oC h (fun _ h=>h) fun _ h=>(aG (fun _ hm=>⟨hc1,hm⟩) _ rfl hl1 dS ht1 (aS h_b.2.2.1) trivial h)))))⟩))))⟩⟩) fun h=>(h trivial))
 ·rw[vc80]
  exact⟨h_tables,(oC h (fun _ h=>(oC h (fun _ h=>h) fun b_2 h=>⟨(jN (bnf b_2)),⟨(nW (bnf b_2)),(oC h (fun _ h=>⟨(ay h_tables b.2.1).1,⟨h_b.2.2.1,(oC h (fun _ h=>(oC h (fun _ h=>(oC h (fun _ h=>(oC h (fun _ h=>h) fun _ h=>h)) fun _ h=>h)) fun _ h=>h)) fun _ h=>h)⟩⟩) fun _ h=>(oC h (fun _ h=>⟨(ay h_tables b.2.1).1,⟨h_b.2.2.2.2.2.2.1,(oC h (fun _ h=>(oC h (fun _ h=>(oC h (fun _ h=>(oC h (fun _ h=>h) fun _ h=>h)) fun _ h=>h)) fun _ h=>h)) fun _ h=>h)⟩⟩) fun _ h=>(oC h (fun _ h=>(oC h (fun b_14 h=>⟨(ay h_tables b.2.1).1,⟨h_b.2.2.1,(oC h (fun _ h=>⟨(jN (bnf (bgt b_14))),⟨(nW (bnf (bgt b_14))),⟨(ay h_tables b.2.2.2.1).1,⟨h_b.2.2.2.2.1,(oC h (fun _ h=>(oC h (fun _ h=>(oC h (fun _ h=>h) fun _ h=>(aE (fun m hm=>⟨trivial,hm⟩) Z0 _ rfl (Int.natCast_nonneg 0) trivial (aI h (fun v1 h hv1=>h) (fun q1 h=>h))))) fun _ h=>h)) fun _ h=>h)⟩⟩⟩⟩) fun _ h=>h)⟩⟩) fun _ h=>h)) fun _ h=>h)))⟩⟩)) fun _ h=>h)⟩
def c150:Con:=⟨[.dat au],fun args hp K=>g1 (pD au) (fun truth=>(LD (M.valueOf truth) fun r=>K (.data aa r) [])) args hp,.plain,false⟩
abbrev C150:Ctx:=cx [] 12 [] 0 false
def ann150:=an [[kp 5],[kp 261],[kp 4],[kp 4]] []
theorem vc150 (truth:Int) (K:KA):vcT C150 aq ann150 f150 [dI truth] [] (.dat aa) K =
 (cond ((decide (truth=Z0))==false) (cond (decide (truth=Z1)) (K (.data aa (Z3,(truth,((⟨#[]⟩:ByteArray),())))) []) (K (.data aa (Z0,(Z0,((⟨#[]⟩:ByteArray),())))) [])) (K (.data aa (Z3,(truth,((⟨#[]⟩:ByteArray),())))) [])):=by kernel_rfl
theorem con150_ok:aP P 150 c150:=aR C150 func150 kN fun args hp K h0=>by
 obtain⟨truth,rfl,rfl,hK⟩:=g1e h0
 have h:ok (F.qn truth) (fun r=>K (.data aa r) []):=ak (F.xY truth) (hK _ rfl)
 refine⟨rfl,ann150,aq,(.dat aa),(az (by kernel_rfl)),?_⟩
 ·rw[vc150]
  exact(oC h (fun _ h=>(oC h (fun _ h=>h) fun _ h=>h)) fun _ h=>h)
def c224:Con:=⟨[.dat aa,.dat aa],fun args hp K=>g2 (pD aa) (pD aa) (fun a b=>(Sm aa a)/\(Sm aa b)/\(LD (M.sum a b) fun r=>K (.data aa r) [])) args hp,.plain,false⟩
abbrev C224:Ctx:=cx [(143,c143)] 27 [] 0 false
def ann224:=an [[.fixRow 2 aa,.fixRow 3 aa,kp 28],[kp 60],[kp 8388656],[kp 16],[kp 16]] []
theorem vc224 (a:aa.D) (b:aa.D) (K:KA):vcT C224 aq ann224 f224 [.data aa a,.data aa b] [] (.dat aa) K =
 (cond ((decide (a.1=Z0))==false) (cond ((decide (b.1=Z0))==false) (cond (!(M.inR (wrap64 (a.2.1+b.2.1)) (-9999:Int) (9999:Int))) (K (.data aa (Z0,(Z0,((⟨#[]⟩:ByteArray),())))) []) (K (.data aa (Z1,(wrap64 (a.2.1+b.2.1),((⟨#[]⟩:ByteArray),())))) [])) (K (.data aa (Z0,(Z0,((⟨#[]⟩:ByteArray),())))) [])) (K (.data aa (Z0,(Z0,((⟨#[]⟩:ByteArray),())))) [])):=by kernel_rfl
theorem con224_ok:aP P 224 c224:=aR C224 func224 (kC con143_ok kN) fun args hp K h0=>by
 obtain⟨a,b,rfl,rfl,h_a,h_b,hK⟩:=g2e h0
 have h:ok (F.tV a b) (fun r=>K (.data aa r) []):=ak (F.AJ a b h_a h_b) (hK _ rfl)
 refine⟨rfl,ann224,aq,(.dat aa),(az (by kernel_rfl)),?_⟩
 ·rw[vc224]
  exact(oC h (fun _ h=>(oC h (fun _ h=>(oC h (fun _ h=>h) fun _ h=>h)) fun _ h=>h)) fun _ h=>h)
def c230:Con:=⟨[.dat Ty.bool],fun args hp K=>g1 (pD Ty.bool) (fun b=>K (dI (M.bool b)) []) args hp,.plain,false⟩
abbrev C230:Ctx:=cx [] 4 [] 0 false
def ann230:=an [[kp 1],[kp 8],[kp 4],[kp 4]] []
theorem vc230 (b:Bool) (K:KA):vcT C230 aq ann230 f230 [dB b] [] (.dat au) K =
 (cond b (K (dI Z1) []) (K (dI Z0) [])):=by kernel_rfl
theorem con230_ok:aP P 230 c230:=aR C230 func230 kN fun args hp K h0=>by
 obtain⟨b,rfl,rfl,hK⟩:=g1e h0
 have h:ok (F.qG b) (fun r=>K (dI r) []):=ak (F.zH b) hK
 refine⟨rfl,ann230,aq,(.dat au),(az (by kernel_rfl)),?_⟩
 ·rw[vc230]
  exact(oC h (fun _ h=>h) fun _ h=>h)
def c258:Con:=⟨[.dat au,.dat au],fun args hp K=>g2 (pD au) (pD au) (fun a b=>K (dI (M.less a b)) []) args hp,.plain,false⟩
abbrev C258:Ctx:=cx [] 8 [] 0 false
def ann258:=an [[kp 3],[kp 128],[kp 16],[kp 16]] []
theorem vc258 (a:Int) (b:Int) (K:KA):vcT C258 aq ann258 f258 [dI a,dI b] [] (.dat au) K =
 (cond (decide (a<b)) (K (dI Z1) []) (K (dI Z0) [])):=by kernel_rfl
theorem con258_ok:aP P 258 c258:=aR C258 func258 kN fun args hp K h0=>by
 obtain⟨a,b,rfl,rfl,hK⟩:=g2e h0
 have h:ok (F.rD a b) (fun r=>K (dI r) []):=ak (F.zB a b) hK
 refine⟨rfl,ann258,aq,(.dat au),(az (by kernel_rfl)),?_⟩
 ·rw[vc258]
  exact(oC h (fun _ h=>h) fun _ h=>h)
def c259:Con:=⟨[.dat Ty.str,.dat Ty.str],fun args hp K=>g2 (pD Ty.str) (pD Ty.str) (fun a b=>(Sm Ty.str a)/\(Sm Ty.str b)/\K (dI (M.uN a b)) []) args hp,.plain,false⟩
abbrev C259:Ctx:=cx [] 11 [] 0 false
def ann259:=an [[kp 3],[kp 131],[kp 16],[kp 1024],[kp 16],[kp 16]] []
theorem vc259 (a:ByteArray) (b:ByteArray) (K:KA):vcT C259 aq ann259 f259 [.data Ty.str a,.data Ty.str b] [] (.dat au) K =
 (cond (Op.bytesLess a.toList b.toList) (K (dI (-1:Int)) []) (cond (!(Op.bytesLess a.toList b.toList||decide (a=b))) (K (dI Z1) []) (K (dI Z0) []))):=by kernel_rfl
theorem con259_ok:aP P 259 c259:=aR C259 func259 kN fun args hp K h0=>by
 obtain⟨a,b,rfl,rfl,h_a,h_b,hK⟩:=g2e h0
 have h:ok (F.tG a b) (fun r=>K (dI r) []):=ak (F.Bd a b h_a h_b) hK
 refine⟨rfl,ann259,aq,(.dat au),(az (by kernel_rfl)),?_⟩
 ·rw[vc259]
  exact(oC h (fun _ h=>h) fun _ h=>(oC h (fun _ h=>h) fun _ h=>h))
def c250:Con:=⟨[.dat aa,.dat aa],fun args hp K=>g2 (pD aa) (pD aa) (fun a b=>(Sm aa a)/\(Sm aa b)/\K (dI (M.dK a b)) []) args hp,.plain,false⟩
abbrev C250:Ctx:=cx [(223,c223),(258,c258),(259,c259)] 44 [] 0 false
def ann250:=an [[.fixRow 2 aa,.fixRow 3 aa,kp 12],[kp 4108],[kp 16],[kp 8204],[kp 16],[kp 67108876],[kp 16],[kp 16]] []
theorem vc250 (a:aa.D) (b:aa.D) (K:KA):vcT C250 aq ann250 f250 [.data aa a,.data aa b] [] (.dat au) K =
 ((Sm aa a)/\cond ((!(M.aO a))==false) ((Sm aa b)/\cond (!(M.aO b)) (K (dI Z0) []) (cond (!decide (a.1=b.1)) (K (dI (wrap64 (wrap64 (Z2 * (M.less b.1 a.1))-Z1))) []) (cond (!decide (a.2.1=b.2.1)) (K (dI (wrap64 (wrap64 (Z2 * (M.less b.2.1 a.2.1))-Z1))) []) ((Sm Ty.str a.2.2.1)/\(Sm Ty.str b.2.2.1)/\K (dI (M.uN a.2.2.1 b.2.2.1)) [])))) (K (dI Z0) [])):=by kernel_rfl
theorem con250_ok:aP P 250 c250:=aR C250 func250 (kC con223_ok (kC con258_ok (kC con259_ok kN))) fun args hp K h0=>by
 obtain⟨a,b,rfl,rfl,h_a,h_b,hK⟩:=g2e h0
 have h:ok (F.kS a b) (fun r=>K (dI r) []):=ak (F.tX a b h_a h_b) hK
 refine⟨rfl,ann250,aq,(.dat au),(az (by kernel_rfl)),?_⟩
 ·rw[vc250]
  exact⟨h_a,(oC h (fun _ h=>⟨h_b,(oC h (fun _ h=>h) fun _ h=>(oC h (fun _ h=>h) fun _ h=>(oC h (fun _ h=>h) fun _ h=>⟨h_a.2.2.1,⟨h_b.2.2.1,h⟩⟩)))⟩) fun _ h=>h)⟩
def c225:Con:=⟨[.dat au,.dat aa,.dat aa],fun args hp K=>g3 (pD au) (pD aa) (pD aa) (fun kind a b=>(Sm aa a)/\(Sm aa b)/\K (dI (M.compare kind a b)) []) args hp,.plain,false⟩
abbrev C225:Ctx:=cx [(143,c143),(223,c223),(230,c230),(250,c250)] 65 [] 0 false
def ann225:=an [[.fixRow 4 aa,.fixRow 5 aa,kp 49],[kp 177],[kp 64],[kp 2097201],[kp 64],[kp 1073741873],[kp 64],[kp 68719476785],[kp 64],[kp 17592186044465],[kp 64],[.keep [4,5,52]],[kp 64],[kp 64]] []
theorem vc225 (kind:Int) (a:aa.D) (b:aa.D) (K:KA):vcT C225 aq ann225 f225 [dI kind,.data aa a,.data aa b] [] (.dat au) K =
 (cond ((!(M.inR kind Z1 Z4))==false) ((Sm aa a)/\cond ((!(M.aO a))==false) ((Sm aa b)/\cond (!(M.aO b)) (K (dI (-1:Int)) []) (cond ((decide (a.1=Z0))==false) (cond (decide (b.1=Z0)) (K (dI Z2) []) (cond (!decide (a.1=b.1)) (K (dI (-1:Int)) []) (cond (decide (kind=Z1)) ((Sm aa a)/\(Sm aa b)/\K (dI (M.bool (decide ((M.dK a b)=Z0)))) []) (cond (decide (kind=Z2)) ((Sm aa a)/\(Sm aa b)/\K (dI (M.bool (!decide ((M.dK a b)=Z0)))) []) (cond (decide (kind=Z3)) ((Sm aa a)/\(Sm aa b)/\K (dI (M.bool (decide ((M.dK a b)<Z0)))) []) ((Sm aa a)/\(Sm aa b)/\K (dI (M.bool (decide ((M.dK a b)<=Z0)))) [])))))) (K (dI Z2) []))) (K (dI (-1:Int)) [])) (K (dI (-1:Int)) [])):=by kernel_rfl
theorem con225_ok:aP P 225 c225:=aR C225 func225 (kC con143_ok (kC con223_ok (kC con230_ok (kC con250_ok kN)))) fun args hp K h0=>by
 obtain⟨kind,a,b,rfl,rfl,h_a,h_b,hK⟩:=g3e h0
 have h:ok (F.ql kind a b) (fun r=>K (dI r) []):=ak (F.ya kind a b h_a h_b) hK
 refine⟨rfl,ann225,aq,(.dat au),(az (by kernel_rfl)),?_⟩
 ·rw[vc225]
  exact(oC h (fun _ h=>⟨h_a,(oC h (fun _ h=>⟨h_b,(oC h (fun _ h=>h) fun _ h=>(oC h (fun _ h=>(oC h (fun _ h=>h) fun _ h=>(oC h (fun _ h=>h) fun _ h=>(oC h (fun _ h=>⟨h_a,⟨h_b,h⟩⟩) fun _ h=>(oC h (fun _ h=>⟨h_a,⟨h_b,h⟩⟩) fun _ h=>(oC h (fun _ h=>⟨h_a,⟨h_b,h⟩⟩) fun _ h=>⟨h_a,⟨h_b,h⟩⟩)))))) fun _ h=>h))⟩) fun _ h=>h)⟩) fun _ h=>h)
def c251:Con:=⟨[.dat au],fun args hp K=>g1 (pD au) (fun n=>K (dB (M.inR n 0 2)) []) args hp,.plain,false⟩
abbrev C251:Ctx:=cx [(143,c143)] 5 [] 0 false
def ann251:=an [[kp 1],[kp 4]] []
theorem vc251 (n:Int) (K:KA):vcT C251 aq ann251 f251 [dI n] [] (.dat Ty.bool) K =
 (K (dB (M.inR n Z0 Z2)) []):=by kernel_rfl
theorem con251_ok:aP P 251 c251:=aR C251 func251 (kC con143_ok kN) fun args hp K h0=>by
 obtain⟨n,rfl,rfl,hK⟩:=g1e h0
 have h:ok (F.vz n) (fun r=>K (dB r) []):=ak (F.yc n) hK
 refine⟨rfl,ann251,aq,(.dat Ty.bool),(az (by kernel_rfl)),?_⟩
 ·rw[vc251]
  exact h
def c252:Con:=⟨[.dat au],fun args hp K=>g1 (pD au) (fun n=>(M.inR n 0 2=true)/\K (dI (M.sure n)) []) args hp,.plain,false⟩
abbrev C252:Ctx:=cx [] 7 [] 0 false
def ann252:=an [[kp 1],[kp 4]] []
theorem vc252 (n:Int) (K:KA):vcT C252 aq ann252 f252 [dI n] [] (.dat au) K =
 ((0<=n)/\(n<([Z0,Z2,Z1].length:Int))/\K (dI (nI [Z0,Z2,Z1] n)) []):=by kernel_rfl
theorem con252_ok:aP P 252 c252:=aR C252 func252 kN fun args hp K h0=>by
 obtain⟨n,rfl,rfl,p0,hK⟩:=g1e h0
 have h:ok (F.ri n) (fun r=>K (dI r) []):=ak (F.zv n p0) hK
 refine⟨rfl,ann252,aq,(.dat au),(az (by kernel_rfl)),?_⟩
 ·rw[vc252]
  exact(oG h fun _ h=>(oG h fun _ h=>h))
def c226:Con:=⟨[.dat au,.dat au],fun args hp K=>g2 (pD au) (pD au) (fun a b=>K (dI (M.rj a b)) []) args hp,.plain,false⟩
abbrev C226:Ctx:=cx [(251,c251),(252,c252)] 19 [] 0 false
def ann226:=an [[kp 3],[kp 4099],[kp 16],[kp 16]] []
theorem vc226 (a:Int) (b:Int) (K:KA):vcT C226 aq ann226 f226 [dI a,dI b] [] (.dat au) K =
 (cond ((!(M.inR a 0 2))==false) (cond (!(M.inR b 0 2)) (K (dI (-1:Int)) []) ((M.inR a 0 2=true)/\(M.inR b 0 2=true)/\(M.inR (Ij (M.sure a) (M.sure b)) 0 2=true)/\K (dI (M.sure (Ij (M.sure a) (M.sure b)))) [])) (K (dI (-1:Int)) [])):=by kernel_rfl
theorem con226_ok:aP P 226 c226:=aR C226 func226 (kC con251_ok (kC con252_ok kN)) fun args hp K h0=>by
 obtain⟨a,b,rfl,rfl,hK⟩:=g2e h0
 have h:ok (F.tR a b) (fun r=>K (dI r) []):=ak (F.AH a b) hK
 refine⟨rfl,ann226,aq,(.dat au),(az (by kernel_rfl)),?_⟩
 ·rw[vc226]
  exact(oC h (fun b_1 h=>(oC h (fun _ h=>h) fun b_2 h=>⟨(bnf (bgt b_1)),⟨(bnf b_2),(oG h fun _ h=>h)⟩⟩)) fun _ h=>h)
def c227:Con:=⟨[.dat aa],fun args hp K=>g1 (pD aa) (fun v=>(Sm aa v)/\K (dI (M.bU v)) []) args hp,.plain,false⟩
abbrev C227:Ctx:=cx [(223,c223)] 23 [] 0 false
def ann227:=an [[.fixRow 1 aa,kp 2],[kp 10],[kp 4],[kp 131074],[kp 4],[kp 4]] []
theorem vc227 (v:aa.D) (K:KA):vcT C227 aq ann227 f227 [.data aa v] [] (.dat au) K =
 ((Sm aa v)/\cond ((!(M.aO v))==false) (cond ((decide (v.1=Z1))==false) (cond (decide (v.1=Z2)) (K (dI (-1:Int)) []) (cond (decide (v.1=Z0)) (K (dI Z2) []) (K (dI v.2.1) []))) (K (dI (-1:Int)) [])) (K (dI (-1:Int)) [])):=by kernel_rfl
theorem con227_ok:aP P 227 c227:=aR C227 func227 (kC con223_ok kN) fun args hp K h0=>by
 obtain⟨v,rfl,rfl,h_v,hK⟩:=g1e h0
 have h:ok (F.pM v) (fun r=>K (dI r) []):=ak (F.yC v h_v) hK
 refine⟨rfl,ann227,aq,(.dat au),(az (by kernel_rfl)),?_⟩
 ·rw[vc227]
  exact⟨h_v,(oC h (fun _ h=>(oC h (fun _ h=>(oC h (fun _ h=>h) fun _ h=>(oC h (fun _ h=>h) fun _ h=>h))) fun _ h=>h)) fun _ h=>h)⟩
def c228:Con:=⟨[.dat au,.dat au],fun args hp K=>g2 (pD au) (pD au) (fun a b=>K (dI (M.zE a b)) []) args hp,.plain,false⟩
abbrev C228:Ctx:=cx [(251,c251),(252,c252)] 19 [] 0 false
def ann228:=an [[kp 3],[kp 4099],[kp 16],[kp 16]] []
theorem vc228 (a:Int) (b:Int) (K:KA):vcT C228 aq ann228 f228 [dI a,dI b] [] (.dat au) K =
 (cond ((!(M.inR a 0 2))==false) (cond (!(M.inR b 0 2)) (K (dI (-1:Int)) []) ((M.inR a 0 2=true)/\(M.inR b 0 2=true)/\(M.inR (bA (M.sure a) (M.sure b)) 0 2=true)/\K (dI (M.sure (bA (M.sure a) (M.sure b)))) [])) (K (dI (-1:Int)) [])):=by kernel_rfl
theorem con228_ok:aP P 228 c228:=aR C228 func228 (kC con251_ok (kC con252_ok kN)) fun args hp K h0=>by
 obtain⟨a,b,rfl,rfl,hK⟩:=g2e h0
 have h:ok (F.vS a b) (fun r=>K (dI r) []):=ak (F.Cz a b) hK
 refine⟨rfl,ann228,aq,(.dat au),(az (by kernel_rfl)),?_⟩
 ·rw[vc228]
  exact(oC h (fun b_1 h=>(oC h (fun _ h=>h) fun b_2 h=>⟨(bnf (bgt b_1)),⟨(bnf b_2),(oG h fun _ h=>h)⟩⟩)) fun _ h=>h)
def c229:Con:=⟨[.dat au],fun args hp K=>g1 (pD au) (fun a=>K (dI (M.rK a)) []) args hp,.plain,false⟩
abbrev C229:Ctx:=cx [(251,c251),(252,c252)] 10 [] 0 false
def ann229:=an [[kp 1],[kp 33],[kp 4],[kp 4]] []
theorem vc229 (a:Int) (K:KA):vcT C229 aq ann229 f229 [dI a] [] (.dat au) K =
 (cond (!(M.inR a 0 2)) (K (dI (-1:Int)) []) ((M.inR a 0 2=true)/\(M.inR (wrap64 (Z2-(M.sure a))) 0 2=true)/\K (dI (M.sure (wrap64 (Z2-(M.sure a))))) [])):=by kernel_rfl
theorem con229_ok:aP P 229 c229:=aR C229 func229 (kC con251_ok (kC con252_ok kN)) fun args hp K h0=>by
 obtain⟨a,rfl,rfl,hK⟩:=g1e h0
 have h:ok (F.tD a) (fun r=>K (dI r) []):=ak (F.AQ a) hK
 refine⟨rfl,ann229,aq,(.dat au),(az (by kernel_rfl)),?_⟩
 ·rw[vc229]
  exact(oC h (fun _ h=>h) fun b_1 h=>⟨(bnf b_1),(oG h fun _ h=>h)⟩)
def c197:Con:=⟨[.dat TVS,.mv,.dat ax],fun args hp K=>hpN 0 .sh aa (fun values=>Da (fun a0 a1 a2=>ja TVS a0 fun row=>Fv 0 a1 (ja ax a2 fun p=>(Sm TVS row)/\(Sm TVS values)/\(Sm ax p)/\(values.length<=1000)/\(M.takes p<=(values.length:Int))/\(1<=p.1/\p.1<=8)/\(M.nr p row.length)/\(LD (M.eM row values p) fun r=>K (.own 0 none) [(0,.arr .sh aa r)]))) args []) hp,.mv,false⟩
abbrev C197:Ctx:=cx [(150,c150),(224,c224),(225,c225),(226,c226),(227,c227),(228,c228),(229,c229),(230,c230)] 145 [] 0 true
def ann197:=an [[.fixRow 5 ax,kp 35],[kp 163],[kp 2211],[kp 6307],[kp 64],[kp 526499],[kp 64],[kp 536873122],[kp 64],[kp 281474976712866],[kp 64],[.keep [1,7,11,70]],[kp 64],[.keep [1,7,11,92]],[kp 64],[.keep [1,7,114]],[kp 64],[kp 64]] []
theorem vc197 (row:LV) (values:LV) (p:ax.D) (K:KA):vcT C197 aq ann197 f197 [.data TVS row,.own 0 none,.data ax p] [(0,.arr .sh aa values)] .raw K =
 (cond (decide (p.1=Z1)) (((values.length+[p.2.2.1].length) * 32<=lim)/\K (.own 0 none) [(0,.arr .sh aa (values++[p.2.2.1]))]) (cond (decide (p.1=Z2)) ((0<=p.2.1)/\(p.2.1<(row.length:Int))/\((values.length+[(nV row p.2.1)].length) * 32<=lim)/\K (.own 0 none) [(0,.arr .sh aa (values++[(nV row p.2.1)]))]) (cond (decide (p.1=Z3)) ((0<=Z0)/\(Z0<=wrap64 ((values.length:Int)-Z2))/\(wrap64 ((values.length:Int)-Z2)<=(values.length:Int))/\(wrap64 ((values.length:Int)-Z2)=wrap64 ((values.length:Int)-Z2))/\(0<=wrap64 ((values.length:Int)-Z2))/\(wrap64 ((values.length:Int)-Z2)<(values.length:Int))/\(0<=wrap64 ((values.length:Int)-Z1))/\(wrap64 ((values.length:Int)-Z1)<(values.length:Int))/\(Sm aa (nV values (wrap64 ((values.length:Int)-Z2))))/\(Sm aa (nV values (wrap64 ((values.length:Int)-Z1))))/\(LD (M.sum (nV values (wrap64 ((values.length:Int)-Z2))) (nV values (wrap64 ((values.length:Int)-Z1)))) fun r1=>(Z0=0)/\(((wrap64 ((values.length:Int)-Z2)).toNat+[r1].length) * 32<=lim)/\K (.own 0 none) [(0,.arr .sh aa (values.take (wrap64 ((values.length:Int)-Z2)).toNat++[r1]))])) (cond (decide (p.1=Z4)) ((0<=Z0)/\(Z0<=wrap64 ((values.length:Int)-Z2))/\(wrap64 ((values.length:Int)-Z2)<=(values.length:Int))/\(wrap64 ((values.length:Int)-Z2)=wrap64 ((values.length:Int)-Z2))/\(0<=wrap64 ((values.length:Int)-Z2))/\(wrap64 ((values.length:Int)-Z2)<(values.length:Int))/\(0<=wrap64 ((values.length:Int)-Z1))/\(wrap64 ((values.length:Int)-Z1)<(values.length:Int))/\(Sm aa (nV values (wrap64 ((values.length:Int)-Z2))))/\(Sm aa (nV values (wrap64 ((values.length:Int)-Z1))))/\(LD (M.valueOf (M.compare p.2.1 (nV values (wrap64 ((values.length:Int)-Z2))) (nV values (wrap64 ((values.length:Int)-Z1))))) fun r2=>(Z0=0)/\(((wrap64 ((values.length:Int)-Z2)).toNat+[r2].length) * 32<=lim)/\K (.own 0 none) [(0,.arr .sh aa (values.take (wrap64 ((values.length:Int)-Z2)).toNat++[r2]))])) (cond (decide (p.1=Z5)) ((0<=Z0)/\(Z0<=wrap64 ((values.length:Int)-Z2))/\(wrap64 ((values.length:Int)-Z2)<=(values.length:Int))/\(wrap64 ((values.length:Int)-Z2)=wrap64 ((values.length:Int)-Z2))/\(0<=wrap64 ((values.length:Int)-Z2))/\(wrap64 ((values.length:Int)-Z2)<(values.length:Int))/\(0<=wrap64 ((values.length:Int)-Z1))/\(wrap64 ((values.length:Int)-Z1)<(values.length:Int))/\(Sm aa (nV values (wrap64 ((values.length:Int)-Z2))))/\(Sm aa (nV values (wrap64 ((values.length:Int)-Z1))))/\(LD (M.valueOf (M.rj (M.bU (nV values (wrap64 ((values.length:Int)-Z2)))) (M.bU (nV values (wrap64 ((values.length:Int)-Z1)))))) fun r3=>(Z0=0)/\(((wrap64 ((values.length:Int)-Z2)).toNat+[r3].length) * 32<=lim)/\K (.own 0 none) [(0,.arr .sh aa (values.take (wrap64 ((values.length:Int)-Z2)).toNat++[r3]))])) (cond (decide (p.1=Z6)) ((0<=Z0)/\(Z0<=wrap64 ((values.length:Int)-Z2))/\(wrap64 ((values.length:Int)-Z2)<=(values.length:Int))/\(wrap64 ((values.length:Int)-Z2)=wrap64 ((values.length:Int)-Z2))/\(0<=wrap64 ((values.length:Int)-Z2))/\(wrap64 ((values.length:Int)-Z2)<(values.length:Int))/\(0<=wrap64 ((values.length:Int)-Z1))/\(wrap64 ((values.length:Int)-Z1)<(values.length:Int))/\(Sm aa (nV values (wrap64 ((values.length:Int)-Z2))))/\(Sm aa (nV values (wrap64 ((values.length:Int)-Z1))))/\(LD (M.valueOf (M.zE (M.bU (nV values (wrap64 ((values.length:Int)-Z2)))) (M.bU (nV values (wrap64 ((values.length:Int)-Z1)))))) fun r4=>(Z0=0)/\(((wrap64 ((values.length:Int)-Z2)).toNat+[r4].length) * 32<=lim)/\K (.own 0 none) [(0,.arr .sh aa (values.take (wrap64 ((values.length:Int)-Z2)).toNat++[r4]))])) (cond (decide (p.1=(7:Int))) ((0<=Z0)/\(Z0<=wrap64 ((values.length:Int)-Z1))/\(wrap64 ((values.length:Int)-Z1)<=(values.length:Int))/\(wrap64 ((values.length:Int)-Z1)=wrap64 ((values.length:Int)-Z1))/\(0<=wrap64 ((values.length:Int)-Z1))/\(wrap64 ((values.length:Int)-Z1)<(values.length:Int))/\(Sm aa (nV values (wrap64 ((values.length:Int)-Z1))))/\(LD (M.valueOf (M.rK (M.bU (nV values (wrap64 ((values.length:Int)-Z1)))))) fun r5=>(Z0=0)/\(((wrap64 ((values.length:Int)-Z1)).toNat+[r5].length) * 32<=lim)/\K (.own 0 none) [(0,.arr .sh aa (values.take (wrap64 ((values.length:Int)-Z1)).toNat++[r5]))])) ((0<=Z0)/\(Z0<=wrap64 ((values.length:Int)-Z1))/\(wrap64 ((values.length:Int)-Z1)<=(values.length:Int))/\(wrap64 ((values.length:Int)-Z1)=wrap64 ((values.length:Int)-Z1))/\(0<=wrap64 ((values.length:Int)-Z1))/\(wrap64 ((values.length:Int)-Z1)<(values.length:Int))/\(LD (M.valueOf (M.bool (decide ((nV values (wrap64 ((values.length:Int)-Z1))).1=Z0)))) fun r6=>(Z0=0)/\(((wrap64 ((values.length:Int)-Z1)).toNat+[r6].length) * 32<=lim)/\K (.own 0 none) [(0,.arr .sh aa (values.take (wrap64 ((values.length:Int)-Z1)).toNat++[r6]))]))))))))):=by kernel_rfl
theorem con197_ok:aP P 197 c197:=aR C197 func197 (kC con150_ok (kC con224_ok (kC con225_ok (kC con226_ok (kC con227_ok (kC con228_ok (kC con229_ok (kC con230_ok kN)))))))) fun args hp K h0=>by
 unfold c197 at h0
 dsimp only at h0
 obtain⟨values,rfl,h00⟩:=jr (n:=0) (d:=.sh) (t:=aa) h0
 obtain⟨a0,a1,a2,rfl,_,h1⟩:=tB h00
 obtain⟨row,rfl,h2⟩:=bX h1
 obtain⟨rfl,h3⟩:=zW h2
 obtain⟨p,rfl,h4⟩:=bX h3
 obtain⟨h_row,h_values,h_p,p0,p1,p2,p3,hK⟩:=h4
 have h:ok (F.rY row values p) (fun r=>K (.own 0 none) [(0,.arr .sh aa r)]):=ak (F.Cx row values p h_row h_values h_p p0 p1 p2 p3) (hK _ rfl)
 refine⟨rfl,ann197,aq,.raw,(az (by kernel_rfl)),?_⟩
 ·rw[vc197]
  exact(oC h (fun _ h=>⟨(rZ h_values (Ay h_p.2.2.1) rfl),h⟩) fun _ h=>(oC h (fun _ h=>(oG h fun _ h=>(oG h fun _ h=>⟨(rZ h_values (Ay (ay h_row p.2.1)) rfl),h⟩))) fun _ h=>(oC h (fun _ h=>⟨(Int.natCast_nonneg 0),(oG h fun _ h=>(oG h fun _ h=>⟨rfl,(oG h fun _ h=>(oG h fun _ h=>(oG h fun _ h=>(oG h fun _ h=>⟨(ay h_values (wrap64 ((values.length:Int)-Z2))),⟨(ay h_values (wrap64 ((values.length:Int)-Z1))),(oL h fun _ _ h=>⟨rfl,(oG h fun _ h=>h)⟩)⟩⟩))))⟩))⟩) fun _ h=>(oC h (fun _ h=>⟨(Int.natCast_nonneg 0),(oG h fun _ h=>(oG h fun _ h=>⟨rfl,(oG h fun _ h=>(oG h fun _ h=>(oG h fun _ h=>(oG h fun _ h=>⟨(ay h_values (wrap64 ((values.length:Int)-Z2))),⟨(ay h_values (wrap64 ((values.length:Int)-Z1))),(oL h fun _ _ h=>⟨rfl,(oG h fun _ h=>h)⟩)⟩⟩))))⟩))⟩) fun _ h=>(oC h (fun _ h=>⟨(Int.natCast_nonneg 0),(oG h fun _ h=>(oG h fun _ h=>⟨rfl,(oG h fun _ h=>(oG h fun _ h=>(oG h fun _ h=>(oG h fun _ h=>⟨(ay h_values (wrap64 ((values.length:Int)-Z2))),⟨(ay h_values (wrap64 ((values.length:Int)-Z1))),(oL h fun _ _ h=>⟨rfl,(oG h fun _ h=>h)⟩)⟩⟩))))⟩))⟩) fun _ h=>(oC h (fun _ h=>⟨(Int.natCast_nonneg 0),(oG h fun _ h=>(oG h fun _ h=>⟨rfl,(oG h fun _ h=>(oG h fun _ h=>(oG h fun _ h=>(oG h fun _ h=>⟨(ay h_values (wrap64 ((values.length:Int)-Z2))),⟨(ay h_values (wrap64 ((values.length:Int)-Z1))),(oL h fun _ _ h=>⟨rfl,(oG h fun _ h=>h)⟩)⟩⟩))))⟩))⟩) fun _ h=>(oC h (fun _ h=>⟨(Int.natCast_nonneg 0),(oG h fun _ h=>(oG h fun _ h=>⟨rfl,(oG h fun _ h=>(oG h fun _ h=>⟨(ay h_values (wrap64 ((values.length:Int)-Z1))),(oL h fun _ _ h=>⟨rfl,(oG h fun _ h=>h)⟩)⟩))⟩))⟩) fun _ h=>⟨(Int.natCast_nonneg 0),(oG h fun _ h=>(oG h fun _ h=>⟨rfl,(oG h fun _ h=>(oG h fun _ h=>(oL h fun _ _ h=>⟨rfl,(oG h fun _ h=>h)⟩)))⟩))⟩)))))))
def c149:Con:=⟨[.dat TVS,.dat TPS],fun args hp K=>g2 (pD TVS) (pD TPS) (fun row e=>(Sm TVS row)/\(Sm TPS e)/\(M.jB row.length e)/\(LD (M.ep row e) fun r=>K (.data aa r) [])) args hp,.plain,false⟩
abbrev C149:Ctx:=cx [(197,c197)] 24 [] 0 false
def ann149:=an [[kp 19],[kp 51],[kp 115],[kp 2163],[kp 115],[kp 115],[kp 16]] [[kp 48]]
abbrev s149_0 (row:LV) (e:LPt) (i0:Int) (v0:LV):St:=⟨[(0,.data TVS row),(1,.data TPS e),(4,.ptr 4 0),(5,.own 7 none),(6,dI i0)],[(4,.box [dI Z0,dI Z0,.data Ty.str (⟨#[]⟩:ByteArray)]),(7,.arr .sh aa v0)]⟩
abbrev LP149_0 (row:LV) (e:LPt) (m:Nat) (st_:St) (K:KX):Prop:=True/\bO (t:=ax) (s149_0 row e) e (F.ew row e) (fun v0:LV=>True) (aU (fun v0:LV=>True->K (.exit 0) (⟨[(4,.ptr 4 0),(5,.own 7 none)],[(4,.box [dI Z0,dI Z0,.data Ty.str (⟨#[]⟩:ByteArray)]),(7,.arr .sh aa v0)]⟩:St)) (fun _=>False)) m st_
def L149 (row:LV) (e:LPt):aX:=lp1 0 (LP149_0 row e)
theorem vc149 (row:LV) (e:LPt) (K:KA):vcT C149 (L149 row e) ann149 f149 [.data TVS row,.data TPS e] [] (.dat aa) K =
 (∃m_,True/\bO (t:=ax) (s149_0 row e) e (F.ew row e) (fun v0:LV=>True) (aU (fun v0:LV=>True->(0<=Z0)/\(Z0<(v0.length:Int))/\K (.data aa (nV v0 Z0)) []) (fun _=>False)) m_ (s149_0 row e Z0 [])):=by kernel_rfl
theorem lvc149_0 (row:LV) (e:LPt)  (i0:Int) (v0:LV) (m:Nat) (K:KX):lvT C149 (L149 row e) ann149 f149 0 0 (s149_0 row e i0 v0) m K =
 (cond (decide (i0<(e.length:Int))) ((0<=i0)/\(i0<(e.length:Int))/\(Sm TVS row)/\(Sm TVS v0)/\(Sm ax (nP e i0))/\(v0.length<=1000)/\(M.takes (nP e i0)<=(v0.length:Int))/\(1<=(nP e i0).1/\(nP e i0).1<=8)/\(M.nr (nP e i0) row.length)/\(LD (M.eM row v0 (nP e i0)) fun r1=>(nxT (LP149_0 row e) m K (s149_0 row e (wrap64 (i0+Z1)) r1)))) (K (.exit 0) (⟨[(4,.ptr 4 0),(5,.own 7 none)],[(4,.box [dI Z0,dI Z0,.data Ty.str (⟨#[]⟩:ByteArray)]),(7,.arr .sh aa v0)]⟩:St))):=by kernel_rfl
theorem con149_ok:aP P 149 c149:=aR C149 func149 (kC con197_ok kN) fun args hp K h0=>by
 obtain⟨row,e,rfl,rfl,h_row,h_e,p0,hK⟩:=g2e h0
 have h:ok (F.pJ row e) (fun r=>K (.data aa r) []):=ak (F.yz row e h_row h_e p0) (hK _ rfl)
 refine⟨rfl,ann149,(L149 row e),(.dat aa),(aL (i0:=0) (by kernel_rfl) ?_),?_⟩
 ·rintro _ _ K ⟨hc0,i0,v0,rfl,hl0,rfl,hv0,h⟩
  exact cast (lvc149_0 _ _ _ _ _ _).symm (bw (t:=ax) hl0 h (fun ht0 h=>⟨hl0,⟨ht0,⟨h_row,(oG h fun _ h=>⟨(ay h_e i0),(oG h fun _ h=>(oG h fun _ h=>(oG h fun _ h=>(oG h fun _ h=>(oL h fun _ _ h=>(br (t:=ax) (fun _ hm=>⟨hc0,hm⟩) _ rfl hl0 ht0 (aS h_e) trivial h))))))⟩)⟩⟩⟩) fun h=>(h trivial))
 ·rw[vc149]
  exact(bp (t:=ax) (fun m hm=>⟨trivial,hm⟩) _ rfl trivial (aI h (fun v0 h hv0=>⟨(Int.natCast_nonneg 0),(oG h fun _ h=>h)⟩) (fun _ h=>h.elim)))
def c151:Con:=⟨[.dat TVS,.dat (Ty.sl au)],fun args hp K=>g2 (pD TVS) (pD (Ty.sl au)) (fun row list=>(Sm TVS row)/\(Sm (Ty.sl au) list)/\(M.eJ row list)/\(LD (M.taken row list) fun r=>K (.own 0 none) [(0,.arr .sh aa r)])) args hp,.plain,false⟩
abbrev C151:Ctx:=cx [] 25 [] 0 false
def ann151:=an [[kp 3],[kp 35],[kp 99],[kp 2147],[kp 99],[kp 99],[kp 16]] [[kp 32]]
abbrev s151_0 (row:LV) (list:LI) (i0:Int) (v0:LV):St:=⟨[(0,.data TVS row),(1,.data (Ty.sl au) list),(5,.own 7 none),(6,dI i0)],[(7,.arr .sh aa v0)]⟩
abbrev LP151_0 (row:LV) (list:LI) (m:Nat) (st_:St) (K:KX):Prop:=True/\bO (t:=au) (s151_0 row list) list (F.iJ row list) (fun v0:LV=>True) (aU (fun v0:LV=>True->K (.exit 0) (⟨[(5,.own 7 none)],[(7,.arr .sh aa v0)]⟩:St)) (fun _=>False)) m st_
def L151 (row:LV) (list:LI):aX:=lp1 0 (LP151_0 row list)
theorem vc151 (row:LV) (list:LI) (K:KA):vcT C151 (L151 row list) ann151 f151 [.data TVS row,.data (Ty.sl au) list] [] .raw K =
 (∃m_,True/\bO (t:=au) (s151_0 row list) list (F.iJ row list) (fun v0:LV=>True) (aU (fun v0:LV=>True->K (.own 0 none) [(0,.arr .sh aa v0)]) (fun _=>False)) m_ (s151_0 row list Z0 [])):=by kernel_rfl
theorem lvc151_0 (row:LV) (list:LI)  (i0:Int) (v0:LV) (m:Nat) (K:KX):lvT C151 (L151 row list) ann151 f151 0 0 (s151_0 row list i0 v0) m K =
 (cond (decide (i0<(list.length:Int))) ((0<=i0)/\(i0<(list.length:Int))/\(0<=(nI list i0))/\((nI list i0)<(row.length:Int))/\((v0.length+[(nV row (nI list i0))].length) * 32<=lim)/\(nxT (LP151_0 row list) m K (s151_0 row list (wrap64 (i0+Z1)) (v0++[(nV row (nI list i0))])))) (K (.exit 0) (⟨[(5,.own 7 none)],[(7,.arr .sh aa v0)]⟩:St))):=by kernel_rfl
theorem con151_ok:aP P 151 c151:=aR C151 func151 kN fun args hp K h0=>by
 obtain⟨row,list,rfl,rfl,h_row,h_list,p0,hK⟩:=g2e h0
 have h:ok (F.qh row list) (fun r=>K (.own 0 none) [(0,.arr .sh aa r)]):=ak (F.yH row list h_row h_list p0) (hK _ rfl)
 refine⟨rfl,ann151,(L151 row list),.raw,(aL (i0:=0) (by kernel_rfl) ?_),?_⟩
 ·rintro _ _ K ⟨hc0,i0,v0,rfl,hl0,rfl,hv0,h⟩
  exact cast (lvc151_0 _ _ _ _ _ _).symm (bw (t:=au) hl0 h (fun ht0 h=>⟨hl0,⟨ht0,(oG h fun _ h=>(oG h fun _ h=>(oG h fun _ h=>(br (t:=au) (fun _ hm=>⟨hc0,hm⟩) _ rfl hl0 ht0 (aS h_list) trivial h))))⟩⟩) fun h=>(h trivial))
 ·rw[vc151]
  exact(bp (t:=au) (fun m hm=>⟨trivial,hm⟩) _ rfl trivial (aI h (fun v0 h hv0=>h) (fun _ h=>h.elim)))
def c152:Con:=⟨[.dat TVS],fun args hp K=>g1 (pD TVS) (fun values=>(Sm TVS values)/\K (dB (M.kB values)) []) args hp,.plain,false⟩
abbrev C152:Ctx:=cx [] 16 [] 0 false
def ann152:=an [[kp 1],[kp 9],[kp 137],[kp 9],[kp 32777],[kp 4],[kp 4]] [[kp 0]]
abbrev s152_0 (values:LV) (i0:Int) (v0:Unit):St:=⟨[(0,.data TVS values),(3,dI i0)],[]⟩
abbrev LP152_0 (values:LV) (m:Nat) (st_:St) (K:KX):Prop:=True/\bO (t:=aa) (s152_0 values) values (F.iD values) (fun v0:Unit=>True) (aU (fun v0:Unit=>True->K (.exit 0) (⟨[],[]⟩:St)) (fun q0:Unit=>K .ret (⟨[(2,dB true)],[]⟩:St))) m st_
def L152 (values:LV):aX:=lp1 0 (LP152_0 values)
theorem vc152 (values:LV) (K:KA):vcT C152 (L152 values) ann152 f152 [.data TVS values] [] (.dat Ty.bool) K =
 (∃m_,True/\bO (t:=aa) (s152_0 values) values (F.iD values) (fun v0:Unit=>True) (aU (fun v0:Unit=>True->K (dB false) []) (fun q0:Unit=>K (dB true) [])) m_ (s152_0 values Z0 ())):=by kernel_rfl
theorem lvc152_0 (values:LV)  (i0:Int) (v0:Unit) (m:Nat) (K:KX):lvT C152 (L152 values) ann152 f152 0 0 (s152_0 values i0 v0) m K =
 (cond (decide (i0<(values.length:Int))) ((0<=i0)/\(i0<(values.length:Int))/\cond (decide ((nV values i0).1=Z0)) (K .ret (⟨[(2,dB true)],[]⟩:St)) (nxT (LP152_0 values) m K (s152_0 values (wrap64 (i0+Z1)) ()))) (K (.exit 0) (⟨[],[]⟩:St))):=by kernel_rfl
theorem con152_ok:aP P 152 c152:=aR C152 func152 kN fun args hp K h0=>by
 obtain⟨values,rfl,rfl,h_values,hK⟩:=g1e h0
 have h:ok (F.pe values) (fun r=>K (dB r) []):=ak (F.yE values h_values) hK
 refine⟨rfl,ann152,(L152 values),(.dat Ty.bool),(aL (i0:=0) (by kernel_rfl) ?_),?_⟩
 ·rintro _ _ K ⟨hc0,i0,v0,rfl,hl0,rfl,hv0,h⟩
  exact cast (lvc152_0 _ _ _ _ _).symm (bw (t:=aa) hl0 h (fun ht0 h=>⟨hl0,⟨ht0,(oC h (fun _ h=>h) fun _ h=>(br (t:=aa) (fun _ hm=>⟨hc0,hm⟩) _ rfl hl0 ht0 (aS h_values) trivial h))⟩⟩) fun h=>(h trivial))
 ·rw[vc152]
  exact(bp (t:=aa) (fun m hm=>⟨trivial,hm⟩) _ rfl trivial (aI h (fun v0 h hv0=>h) (fun q0 h=>h)))
def c153:Con:=⟨[.dat TVS,.dat TVS],fun args hp K=>g2 (pD TVS) (pD TVS) (fun a b=>(Sm TVS a)/\(Sm TVS b)/\K (dB (decide (a=b))) []) args hp,.plain,false⟩
abbrev C153:Ctx:=cx [] 26 [] 0 false
def ann153:=an [[kp 3],[kp 1027],[kp 16],[kp 35],[kp 16419],[kp 35],[kp 33554467],[kp 16],[kp 16]] [[kp 0]]
abbrev s153_0 (a:LV) (b:LV) (i0:Int) (v0:Unit):St:=⟨[(0,.data TVS a),(1,.data TVS b),(5,dI i0)],[]⟩
abbrev LP153_0 (a:LV) (b:LV) (m:Nat) (st_:St) (K:KX):Prop:=True/\bg (s153_0 a b) Z0 (a.length:Int) (F.jy a b) (fun v0:Unit=>True) (aU (fun v0:Unit=>True->K (.exit 0) (⟨[],[]⟩:St)) (fun q0:Unit=>K .ret (⟨[(4,dB false)],[]⟩:St))) m st_
def L153 (a:LV) (b:LV):aX:=lp1 0 (LP153_0 a b)
theorem vc153 (a:LV) (b:LV) (K:KA):vcT C153 (L153 a b) ann153 f153 [.data TVS a,.data TVS b] [] (.dat Ty.bool) K =
 (cond (!decide ((a.length:Int)=(b.length:Int))) (K (dB false) []) (∃m_,True/\bg (s153_0 a b) Z0 (a.length:Int) (F.jy a b) (fun v0:Unit=>True) (aU (fun v0:Unit=>True->K (dB true) []) (fun q0:Unit=>K (dB false) [])) m_ (s153_0 a b Z0 ()))):=by kernel_rfl
theorem lvc153_0 (a:LV) (b:LV)  (i0:Int) (v0:Unit) (m:Nat) (K:KX):lvT C153 (L153 a b) ann153 f153 0 0 (s153_0 a b i0 v0) m K =
 (cond (decide (i0<(a.length:Int))) ((0<=i0)/\(i0<(a.length:Int))/\(0<=i0)/\(i0<(b.length:Int))/\cond (!(Ty.beq aa (nV a i0) (nV b i0))) (K .ret (⟨[(4,dB false)],[]⟩:St)) (nxT (LP153_0 a b) m K (s153_0 a b (wrap64 (i0+Z1)) ()))) (K (.exit 0) (⟨[],[]⟩:St))):=by kernel_rfl
theorem con153_ok:aP P 153 c153:=aR C153 func153 kN fun args hp K h0=>by
 obtain⟨a,b,rfl,rfl,h_a,h_b,hK⟩:=g2e h0
 have h:ok (F.xJ a b) (fun r=>K (dB r) []):=ak (F.zx a b h_a h_b) hK
 refine⟨rfl,ann153,(L153 a b),(.dat Ty.bool),(aL (i0:=0) (by kernel_rfl) ?_),?_⟩
 ·rintro _ _ K ⟨hc0,i0,v0,rfl,hl0,rfl,hv0,h⟩
  exact cast (lvc153_0 _ _ _ _ _ _).symm (aM h (fun ht0 h=>⟨hl0,⟨ht0,⟨hl0,(oG h fun _ h=>(oC h (fun _ h=>h) fun _ h=>(aG (fun _ hm=>⟨hc0,hm⟩) _ rfl hl0 dS ht0 (aS h_a) trivial h)))⟩⟩⟩) fun h=>(h trivial))
 ·rw[vc153]
  exact(oC h (fun _ h=>h) fun _ h=>(aE (fun m hm=>⟨trivial,hm⟩) Z0 _ rfl (Int.natCast_nonneg 0) trivial (aI h (fun v0 h hv0=>h) (fun q0 h=>h))))
def c82:Con:=⟨[.dat TTb,.dat TBond],fun args hp K=>g2 (pD TTb) (pD TBond) (fun tables b=>(Sm TTb tables)/\(Sm TBond b)/\((M.aA tables&&M.aN tables b)=true)/\K (dI (M.broken tables b)) []) args hp,.bor,false⟩
abbrev C82:Ctx:=cx [(149,c149),(150,c150),(151,c151),(152,c152),(153,c153)] 110 [] 0 false
def ann82:=an [[.fixRow 3 TBond,kp 9],[kp 41],[kp 105],[kp 2097257],[kp 105],[kp 33554537],[kp 100663401],[kp 68719476841],[kp 16],[kp 274911461481],[kp 233],[.freeze 46,kp 489],[kp 18014398509482473],[kp 489],[kp 36893488147419103721],[kp 16],[.keep [0,3,5,6,67]],[kp 617],[kp 1641],[kp 3689],[kp 1237940039285380274899127913],[kp 3689],[kp 3689],[.keep [0,3,5,6,108]],[kp 16],[kp 16]] [[kp 0],[],[],[kp 105],[],[kp 1129]]
abbrev s82_0 (tables:LTb) (b:TBond.D) (i0:Int) (v0:Unit):St:=⟨[(0,.data TTb tables),(3,.adr TBond b),(5,.data (Ty.sl TVS) (nT tables b.2.1).2.1),(6,dI i0)],[]⟩
abbrev LP82_0 (tables:LTb) (b:TBond.D) (m:Nat) (st_:St) (K:KX):Prop:=True/\bg (s82_0 tables b) Z0 ((nT tables b.2.1).2.1.length:Int) (F.gq tables b) (fun v0:Unit=>True) (aU (fun v0:Unit=>True->K (.exit 0) (⟨[],[]⟩:St)) (fun q0:Int=>K .ret (⟨[(4,dI q0)],[]⟩:St))) m st_
abbrev s82_3 (tables:LTb) (b:TBond.D) (c3_0:Int) (c3_1:LV) (v3:Int):St:=⟨[(0,.data TTb tables),(3,.adr TBond b),(5,.data (Ty.sl TVS) (nT tables b.2.1).2.1),(6,dI c3_0),(7,.data TVS c3_1),(8,dI v3)],[]⟩
abbrev LP82_3 (tables:LTb) (b:TBond.D) (m:Nat) (st_:St) (K:KX):Prop:=∃c3_0:Int,∃c3_1:LV,(Sm TVS c3_1/\True)/\jH (s82_3 tables b c3_0 c3_1) (F.eG tables b c3_0 c3_1) (fun v3:Int=>True) (aU (fun e3:Unit=>True->K (.exit 3) (⟨[(0,.data TTb tables),(3,.adr TBond b),(5,.data (Ty.sl TVS) (nT tables b.2.1).2.1),(6,dI c3_0)],[]⟩:St)) (fun q3:Unit=>K .ret (⟨[(4,dI c3_0)],[]⟩:St))) m st_
abbrev s82_5 (tables:LTb) (b:TBond.D) (c5_0:Int) (c5_1:LV) (v5:Bool×Int):St:=⟨[(0,.data TTb tables),(3,.adr TBond b),(5,.data (Ty.sl TVS) (nT tables b.2.1).2.1),(6,dI c5_0),(9,.data TVS c5_1),(10,dB v5.1),(11,dI v5.2)],[]⟩
abbrev LP82_5 (tables:LTb) (b:TBond.D) (m:Nat) (st_:St) (K:KX):Prop:=∃c5_0:Int,∃c5_1:LV,(Sm TVS c5_1/\True)/\jH (s82_5 tables b c5_0 c5_1) (F.gd tables b c5_0 c5_1) (fun v5:Bool×Int=>True) (fun e5:Bool=>True->K (.exit 5) (⟨[(0,.data TTb tables),(3,.adr TBond b),(5,.data (Ty.sl TVS) (nT tables b.2.1).2.1),(6,dI c5_0),(10,dB e5)],[]⟩:St)) m st_
def L82 (tables:LTb) (b:TBond.D):aX:=fun id m st_ K=>match id with
 | 0=>LP82_0 tables b m st_ K
 | 3=>LP82_3 tables b m st_ K
 | 5=>LP82_5 tables b m st_ K
 | _=>False
theorem vc82 (tables:LTb) (b:TBond.D) (K:KA):vcT C82 (L82 tables b) ann82 f82 [.data TTb tables,.data TBond b] [] (.dat au) K =
 ((0<=b.2.1)/\(b.2.1<(tables.length:Int))/\(∃m_,True/\bg (s82_0 tables b) Z0 ((nT tables b.2.1).2.1.length:Int) (F.gq tables b) (fun v0:Unit=>True) (aU (fun v0:Unit=>True->K (dI (-1:Int)) []) (fun q0:Int=>K (dI q0) [])) m_ (s82_0 tables b Z0 ()))):=by kernel_rfl
theorem lvc82_0 (tables:LTb) (b:TBond.D)  (i0:Int) (v0:Unit) (m:Nat) (K:KX):lvT C82 (L82 tables b) ann82 f82 0 0 (s82_0 tables b i0 v0) m K =
 (cond (decide (i0<((nT tables b.2.1).2.1.length:Int))) (cond (decide (b.1=Z3)) ((0<=i0)/\(i0<((nT tables b.2.1).2.1.length:Int))/\(Sm TVS (nth (t:=TVS) (nT tables b.2.1).2.1 i0))/\(Sm TPS b.2.2.2.2.2.2.1)/\(M.jB (nth (t:=TVS) (nT tables b.2.1).2.1 i0).length b.2.2.2.2.2.2.1)/\(LD (M.ep (nth (t:=TVS) (nT tables b.2.1).2.1 i0) b.2.2.2.2.2.2.1) fun r1=>(LD (M.valueOf Z0) fun r2=>cond (Ty.beq aa r1 r2) (K .ret (⟨[(4,dI i0)],[]⟩:St)) (nxT (LP82_0 tables b) m K (s82_0 tables b (wrap64 (i0+Z1)) ()))))) (cond (decide (b.1=Z1)) ((0<=i0)/\(i0<((nT tables b.2.1).2.1.length:Int))/\(Sm TVS (nth (t:=TVS) (nT tables b.2.1).2.1 i0))/\(Sm (Ty.sl au) b.2.2.1)/\(M.eJ (nth (t:=TVS) (nT tables b.2.1).2.1 i0) b.2.2.1)/\(LD (M.taken (nth (t:=TVS) (nT tables b.2.1).2.1 i0) b.2.2.1) fun r3=>(∃m_,∃c3_0:Int,∃c3_1:LV,(Sm TVS c3_1/\True)/\jH (s82_3 tables b c3_0 c3_1) (F.eG tables b c3_0 c3_1) (fun v3:Int=>True) (aU (fun e3:Unit=>True->(nxT (LP82_0 tables b) m K (s82_0 tables b (wrap64 (c3_0+Z1)) ()))) (fun q3:Unit=>K .ret (⟨[(4,dI c3_0)],[]⟩:St))) m_ (s82_3 tables b i0 r3 Z0)))) (cond (decide (b.1=Z2)) ((0<=i0)/\(i0<((nT tables b.2.1).2.1.length:Int))/\(Sm TVS (nth (t:=TVS) (nT tables b.2.1).2.1 i0))/\(Sm (Ty.sl au) b.2.2.1)/\(M.eJ (nth (t:=TVS) (nT tables b.2.1).2.1 i0) b.2.2.1)/\(LD (M.taken (nth (t:=TVS) (nT tables b.2.1).2.1 i0) b.2.2.1) fun r4=>(Sm TVS r4)/\(∃m_,∃c5_0:Int,∃c5_1:LV,(Sm TVS c5_1/\True)/\jH (s82_5 tables b c5_0 c5_1) (F.gd tables b c5_0 c5_1) (fun v5:Bool×Int=>True) (fun e5:Bool=>True->cond (!e5) (K .ret (⟨[(4,dI c5_0)],[]⟩:St)) (nxT (LP82_0 tables b) m K (s82_0 tables b (wrap64 (c5_0+Z1)) ()))) m_ (s82_5 tables b i0 r4 ((M.kB r4),Z0))))) (nxT (LP82_0 tables b) m K (s82_0 tables b (wrap64 (i0+Z1)) ()))))) (K (.exit 0) (⟨[],[]⟩:St))):=by kernel_rfl
abbrev S82l3_0 (tables:LTb) (b:TBond.D) (c3_0:Int) (c3_1:LV) (v3:Int) (m:Nat) (K:KX):Prop:=K (.exit 3) (⟨[(0,.data TTb tables),(3,.adr TBond b),(5,.data (Ty.sl TVS) (nT tables b.2.1).2.1),(6,dI c3_0)],[]⟩:St)
theorem lvc82_1 (tables:LTb) (b:TBond.D) (c3_0:Int) (c3_1:LV) (v3:Int) (m:Nat) (K:KX):lvT C82 (L82 tables b) ann82 f82 1 3 (s82_3 tables b c3_0 c3_1 v3) m K =
 (cond ((decide (v3<c3_0))==true) ((Sm TVS c3_1)/\cond (!(M.kB c3_1)) ((0<=v3)/\(v3<((nT tables b.2.1).2.1.length:Int))/\(Sm TVS (nth (t:=TVS) (nT tables b.2.1).2.1 v3))/\(Sm (Ty.sl au) b.2.2.1)/\(M.eJ (nth (t:=TVS) (nT tables b.2.1).2.1 v3) b.2.2.1)/\(LD (M.taken (nth (t:=TVS) (nT tables b.2.1).2.1 v3) b.2.2.1) fun r5=>(Sm TVS r5)/\(Sm TVS c3_1)/\cond (decide (r5=c3_1)) (K .ret (⟨[(4,dI c3_0)],[]⟩:St)) (nxT (LP82_3 tables b) m K (s82_3 tables b c3_0 c3_1 (wrap64 (v3+Z1)))))) (S82l3_0  tables b c3_0 c3_1 v3 m K)) (S82l3_0  tables b c3_0 c3_1 v3 m K)):=by kernel_rfl
abbrev S82l5_0 (tables:LTb) (b:TBond.D) (c5_0:Int) (c5_1:LV) (v5:Bool×Int) (m:Nat) (K:KX):Prop:=K (.exit 5) (⟨[(0,.data TTb tables),(3,.adr TBond b),(5,.data (Ty.sl TVS) (nT tables b.2.1).2.1),(6,dI c5_0),(10,dB v5.1)],[]⟩:St)
theorem lvc82_2 (tables:LTb) (b:TBond.D) (c5_0:Int) (c5_1:LV) (v5:Bool×Int) (m:Nat) (K:KX):lvT C82 (L82 tables b) ann82 f82 2 5 (s82_5 tables b c5_0 c5_1 v5) m K =
 ((0<=b.2.2.2.1)/\(b.2.2.2.1<(tables.length:Int))/\cond ((decide (v5.2<((nT tables b.2.2.2.1).2.1.length:Int)))==true) (cond (!v5.1) ((0<=b.2.2.2.1)/\(b.2.2.2.1<(tables.length:Int))/\(0<=v5.2)/\(v5.2<((nT tables b.2.2.2.1).2.1.length:Int))/\(Sm TVS (nth (t:=TVS) (nT tables b.2.2.2.1).2.1 v5.2))/\(Sm (Ty.sl au) b.2.2.2.2.1)/\(M.eJ (nth (t:=TVS) (nT tables b.2.2.2.1).2.1 v5.2) b.2.2.2.2.1)/\(LD (M.taken (nth (t:=TVS) (nT tables b.2.2.2.1).2.1 v5.2) b.2.2.2.2.1) fun r6=>(Sm TVS r6)/\(Sm TVS c5_1)/\(nxT (LP82_5 tables b) m K (s82_5 tables b c5_0 c5_1 ((decide (r6=c5_1)),wrap64 (v5.2+Z1)))))) (S82l5_0  tables b c5_0 c5_1 v5 m K)) (S82l5_0  tables b c5_0 c5_1 v5 m K)):=by kernel_rfl
theorem con82_ok:aP P 82 c82:=aR C82 func82 (kC con149_ok (kC con150_ok (kC con151_ok (kC con152_ok (kC con153_ok kN))))) fun args hp K h0=>by
 obtain⟨tables,b,rfl,rfl,h_tables,h_b,p0,hK⟩:=g2e h0
 have h:ok (F.mT tables b) (fun r=>K (dI r) []):=ak (F.uY tables b h_tables h_b p0) hK
 refine⟨rfl,ann82,(L82 tables b),(.dat au),(EO (i0:=0) (i1:=3) (i2:=5) (by kernel_rfl) ?_ ?_ ?_),?_⟩
 ·rintro _ _ K ⟨hc0,i0,v0,rfl,hl0,rfl,hv0,h⟩
  exact cast (lvc82_0 _ _ _ _ _ _).symm (aM h (fun ht0 h=>(oC h (fun _ h=>⟨hl0,⟨ht0,⟨(ay (ay h_tables b.2.1).2.1 i0),⟨h_b.2.2.2.2.2.2.1,(oG h fun _ h=>(oL h fun _ _ h=>(oL h fun _ _ h=>(oC h (fun _ h=>h) fun _ h=>(aG (fun _ hm=>⟨hc0,hm⟩) _ rfl hl0 dS ht0 (aS (ay h_tables b.2.1).2.1) trivial h)))))⟩⟩⟩⟩) fun _ h=>(oC h (fun _ h=>⟨hl0,⟨ht0,⟨(ay (ay h_tables b.2.1).2.1 i0),⟨h_b.2.2.1,(oG h fun _ h=>(oL h fun r3 er3 h=>(fE (fun m hm=>⟨i0,r3,⟨(gG er3 (M.fS (ay (ay h_tables b.2.1).2.1 i0) h_b.2.2.1)),trivial⟩,hm⟩) _ rfl trivial (aI h (fun e3 h hv3=>(aG (fun _ hm=>⟨hc0,hm⟩) _ rfl hl0 dS ht0 (aS (ay h_tables b.2.1).2.1) trivial h)) (fun q3 h=>h)))))⟩⟩⟩⟩) fun _ h=>(oC h (fun _ h=>⟨hl0,⟨ht0,⟨(ay (ay h_tables b.2.1).2.1 i0),⟨h_b.2.2.1,(oG h fun _ h=>(oL h fun r4 er4 h=>⟨(gG er4 (M.fS (ay (ay h_tables b.2.1).2.1 i0) h_b.2.2.1)),(fE (fun m hm=>⟨i0,r4,⟨(gG er4 (M.fS (ay (ay h_tables b.2.1).2.1 i0) h_b.2.2.1)),trivial⟩,hm⟩) _ rfl trivial (pK h (fun e5 h hv5=>(oC h (fun _ h=>h) fun _ h=>(aG (fun _ hm=>⟨hc0,hm⟩) _ rfl hl0 dS ht0 (aS (ay h_tables b.2.1).2.1) trivial h)))))⟩))⟩⟩⟩⟩) fun _ h=>(aG (fun _ hm=>⟨hc0,hm⟩) _ rfl hl0 dS ht0 (aS (ay h_tables b.2.1).2.1) trivial h))))) fun h=>(h trivial))
 ·rintro _ _ K ⟨c3_0,c3_1,hc3,v3,rfl,hv3,h⟩
  exact cast (lvc82_1 _ _ _ _ _ _ _).symm (gI h (fun m1 hm3 h=>(oC h (fun _ h=>⟨hc3.1,(oC h (fun _ h=>(oG h fun _ h=>(oG h fun _ h=>⟨(ay (ay h_tables b.2.1).2.1 v3),⟨h_b.2.2.1,(oG h fun _ h=>(oL h fun _ er5 h=>⟨(gG er5 (M.fS (ay (ay h_tables b.2.1).2.1 v3) h_b.2.2.1)),⟨hc3.1,(oC h (fun _ h=>h) fun _ h=>(eN (fun _ hm=>⟨c3_0,c3_1,hc3,hm⟩) hm3 _ rfl trivial h))⟩⟩))⟩⟩))) fun _ h=>((lz h :) trivial))⟩) fun _ h=>((lz h :) trivial))))
 ·rintro _ _ K ⟨c5_0,c5_1,hc5,v5,rfl,hv5,h⟩
  exact cast (lvc82_2 _ _ _ _ _ _ _).symm (gI h (fun m1 hm5 h=>(oG h fun g1 h=>(oG h fun g2 h=>(oC h (fun _ h=>(oC h (fun _ h=>⟨g1,⟨g2,(oG h fun _ h=>(oG h fun _ h=>⟨(ay (ay h_tables b.2.2.2.1).2.1 v5.2),⟨h_b.2.2.2.2.1,(oG h fun _ h=>(oL h fun _ er6 h=>⟨(gG er6 (M.fS (ay (ay h_tables b.2.2.2.1).2.1 v5.2) h_b.2.2.2.2.1)),⟨hc5.1,(eN (fun _ hm=>⟨c5_0,c5_1,hc5,hm⟩) hm5 _ rfl trivial h)⟩⟩))⟩⟩))⟩⟩) fun _ h=>((lz h :) trivial))) fun _ h=>((lz h :) trivial))))))
 ·rw[vc82]
  exact(oG h fun _ h=>(oG h fun _ h=>(aE (fun m hm=>⟨trivial,hm⟩) Z0 _ rfl (Int.natCast_nonneg 0) trivial (aI h (fun v0 h hv0=>h) (fun q0 h=>h)))))
def c109:Con:=⟨[.dat TTb,.dat TBond],fun args hp K=>g2 (pD TTb) (pD TBond) (fun tables b=>(Sm TTb tables)/\(Sm TBond b)/\K (dI (M.eS tables b)) []) args hp,.bor,false⟩
abbrev C109:Ctx:=cx [(80,c80),(82,c82)] 12 [] 0 false
def ann109:=an [[.fixRow 3 TBond,kp 9],[kp 265],[kp 16],[kp 16]] []
theorem vc109 (tables:LTb) (b:TBond.D) (K:KA):vcT C109 aq ann109 f109 [.data TTb tables,.data TBond b] [] (.dat au) K =
 ((Sm TTb tables)/\(Sm TBond b)/\cond (!(M.aA tables&&M.aN tables b)) (K (dI (-2:Int)) []) ((Sm TTb tables)/\(Sm TBond b)/\((M.aA tables&&M.aN tables b)=true)/\K (dI (M.broken tables b)) [])):=by kernel_rfl
theorem con109_ok:aP P 109 c109:=aR C109 func109 (kC con80_ok (kC con82_ok kN)) fun args hp K h0=>by
 obtain⟨tables,b,rfl,rfl,h_tables,h_b,hK⟩:=g2e h0
 have h:ok (F.kR tables b) (fun r=>K (dI r) []):=ak (F.tT tables b h_tables h_b) hK
 refine⟨rfl,ann109,aq,(.dat au),(az (by kernel_rfl)),?_⟩
 ·rw[vc109]
  exact⟨h_tables,⟨h_b,(oC h (fun _ h=>h) fun b_1 h=>⟨h_tables,⟨h_b,⟨(bnf b_1),h⟩⟩⟩)⟩⟩
def c49:Con:=⟨[.dat TTb,.dat (Ty.sl TBond)],fun args hp K=>g2 (pD TTb) (pD (Ty.sl TBond)) (fun tables bonds=>(Sm TTb tables)/\(Sm (Ty.sl TBond) bonds)/\K (dB (M.cU tables bonds)) []) args hp,.bor,false⟩
abbrev C49:Ctx:=cx [(109,c109)] 22 [] 0 false
def ann49:=an [[kp 3],[kp 35],[kp 547],[kp 35],[kp 262179],[kp 16],[kp 16]] [[kp 2]]
abbrev s49_0 (tables:LTb) (bonds:(List TBond.D)) (i0:Int) (v0:Unit):St:=⟨[(0,.data TTb tables),(1,.data (Ty.sl TBond) bonds),(5,dI i0)],[]⟩
abbrev LP49_0 (tables:LTb) (bonds:(List TBond.D)) (m:Nat) (st_:St) (K:KX):Prop:=True/\bO (t:=TBond) (s49_0 tables bonds) bonds (F.gv tables bonds) (fun v0:Unit=>True) (aU (fun v0:Unit=>True->K (.exit 0) (⟨[(1,.data (Ty.sl TBond) bonds)],[]⟩:St)) (fun q0:Unit=>K .ret (⟨[(4,dB false)],[]⟩:St))) m st_
def L49 (tables:LTb) (bonds:(List TBond.D)):aX:=lp1 0 (LP49_0 tables bonds)
theorem vc49 (tables:LTb) (bonds:(List TBond.D)) (K:KA):vcT C49 (L49 tables bonds) ann49 f49 [.data TTb tables,.data (Ty.sl TBond) bonds] [] (.dat Ty.bool) K =
 (∃m_,True/\bO (t:=TBond) (s49_0 tables bonds) bonds (F.gv tables bonds) (fun v0:Unit=>True) (aU (fun v0:Unit=>True->K (dB (decide ((bonds.length:Int)<=Z4))) []) (fun q0:Unit=>K (dB false) [])) m_ (s49_0 tables bonds Z0 ())):=by kernel_rfl
theorem lvc49_0 (tables:LTb) (bonds:(List TBond.D))  (i0:Int) (v0:Unit) (m:Nat) (K:KX):lvT C49 (L49 tables bonds) ann49 f49 0 0 (s49_0 tables bonds i0 v0) m K =
 (cond (decide (i0<(bonds.length:Int))) ((0<=i0)/\(i0<(bonds.length:Int))/\(Sm TTb tables)/\(Sm TBond (nth (t:=TBond) bonds i0))/\cond (!decide ((M.eS tables (nth (t:=TBond) bonds i0))=(-1:Int))) (K .ret (⟨[(4,dB false)],[]⟩:St)) (nxT (LP49_0 tables bonds) m K (s49_0 tables bonds (wrap64 (i0+Z1)) ()))) (K (.exit 0) (⟨[(1,.data (Ty.sl TBond) bonds)],[]⟩:St))):=by kernel_rfl
theorem con49_ok:aP P 49 c49:=aR C49 func49 (kC con109_ok kN) fun args hp K h0=>by
 obtain⟨tables,bonds,rfl,rfl,h_tables,h_bonds,hK⟩:=g2e h0
 have h:ok (F.mN tables bonds) (fun r=>K (dB r) []):=ak (F.uB tables bonds h_tables h_bonds) hK
 refine⟨rfl,ann49,(L49 tables bonds),(.dat Ty.bool),(aL (i0:=0) (by kernel_rfl) ?_),?_⟩
 ·rintro _ _ K ⟨hc0,i0,v0,rfl,hl0,rfl,hv0,h⟩
  exact cast (lvc49_0 _ _ _ _ _ _).symm (bw (t:=TBond) hl0 h (fun ht0 h=>⟨hl0,⟨ht0,⟨h_tables,⟨(ay h_bonds i0),(oC h (fun _ h=>h) fun _ h=>(br (t:=TBond) (fun _ hm=>⟨hc0,hm⟩) _ rfl hl0 ht0 (aS h_bonds) trivial h))⟩⟩⟩⟩) fun h=>(h trivial))
 ·rw[vc49]
  exact(bp (t:=TBond) (fun m hm=>⟨trivial,hm⟩) _ rfl trivial (aI h (fun v0 h hv0=>h) (fun q0 h=>h)))
def c110:Con:=⟨[.dat TVS],fun args hp K=>g1 (pD TVS) (fun row=>(Sm TVS row)/\(LD row fun r=>K (.own 0 none) [(0,.arr .sh aa r)])) args hp,.bor,false⟩
abbrev C110:Ctx:=cx [] 6 [] 0 false
def ann110:=an [[kp 1],[kp 4]] []
theorem vc110 (row:LV) (K:KA):vcT C110 aq ann110 f110 [.data TVS row] [] .raw K =
 (((([]:List aa.D).length+row.length) * 32<=lim)/\K (.own 0 none) [(0,.arr .sh aa ([]++row))]):=by kernel_rfl
theorem con110_ok:aP P 110 c110:=aR C110 func110 kN fun args hp K h0=>by
 obtain⟨row,rfl,rfl,h_row,hK⟩:=g1e h0
 have h:ok (F.zV row) (fun r=>K (.own 0 none) [(0,.arr .sh aa r)]):=ak (F.AR row h_row) (hK _ rfl)
 refine⟨rfl,ann110,aq,.raw,(az (by kernel_rfl)),?_⟩
 ·rw[vc110]
  exact⟨(rZ (wD aa) h_row rfl),h⟩
def c50:Con:=⟨[.dat TTb],fun args hp K=>g1 (pD TTb) (fun tables=>(Sm TTb tables)/\(LD tables fun r=>K (.own 0 none) [(0,.arr .dp TTable r)])) args hp,.bor,false⟩
abbrev C50:Ctx:=cx [(110,c110)] 51 [] 0 true
def ann50:=an [[kp 1],[kp 9],[kp 25],[kp 2073],[kp 25],[kp 57],[.mineC .dp 5 1 800081 TVS,kp 121],[kp 536871033],[kp 121],[kp 121],[kp 25],[kp 4]] [[kp 8],[],[kp 57]]
abbrev s50_0 (tables:LTb) (i0:Int) (v0:LTb):St:=⟨[(0,.data TTb tables),(3,.own 7 none),(4,dI i0)],[(7,.arr .dp TTable v0)]⟩
abbrev LP50_0 (tables:LTb) (m:Nat) (st_:St) (K:KX):Prop:=True/\bg (s50_0 tables) Z0 (tables.length:Int) (F.ga tables) (fun v0:LTb=>True) (aU (fun v0:LTb=>True->K (.exit 0) (⟨[(3,.own 7 none)],[(7,.arr .dp TTable v0)]⟩:St)) (fun _=>False)) m st_
abbrev s50_2 (tables:LTb) (c2_0:Int) (c2_1:LTb) (c2_2:LC) (v2:Int×(List LV)):St:=⟨[(0,.data TTb tables),(3,.own 7 none),(4,dI c2_0),(5,.ptr 5 0),(6,dI v2.1)],[(7,.arr .dp TTable c2_1),(5,.box [.own 14 none,.own 800081 none]),(14,.arr .sh ai c2_2),(800081,.arr .dp TVS v2.2)]⟩
abbrev LP50_2 (tables:LTb) (m:Nat) (st_:St) (K:KX):Prop:=∃c2_0:Int,∃c2_1:LTb,∃c2_2:LC,True/\jH (s50_2 tables c2_0 c2_1 c2_2) (F.ez tables c2_0 c2_1 c2_2) (fun v2:Int×(List LV)=>True) (fun e2:(List LV)=>True->K (.exit 2) (⟨[(0,.data TTb tables),(3,.own 7 none),(4,dI c2_0),(5,.ptr 5 0)],[(7,.arr .dp TTable c2_1),(5,.box [.own 14 none,.own 800081 none]),(14,.arr .sh ai c2_2),(800081,.arr .dp TVS e2)]⟩:St)) m st_
def L50 (tables:LTb):aX:=lp2 0 (LP50_0 tables) 2 (LP50_2 tables)
theorem vc50 (tables:LTb) (K:KA):vcT C50 (L50 tables) ann50 f50 [.data TTb tables] [] .raw K =
 (∃m_,True/\bg (s50_0 tables) Z0 (tables.length:Int) (F.ga tables) (fun v0:LTb=>True) (aU (fun v0:LTb=>True->K (.own 0 none) [(0,.arr .dp TTable v0)]) (fun _=>False)) m_ (s50_0 tables Z0 [])):=by kernel_rfl
theorem lvc50_0 (tables:LTb)  (i0:Int) (v0:LTb) (m:Nat) (K:KX):lvT C50 (L50 tables) ann50 f50 0 0 (s50_0 tables i0 v0) m K =
 (cond (decide (i0<(tables.length:Int))) ((0<=i0)/\(i0<(tables.length:Int))/\((([]:List ai.D).length+(nT tables i0).1.length) * 16<=lim)/\(∃m_,∃c2_0:Int,∃c2_1:LTb,∃c2_2:LC,True/\jH (s50_2 tables c2_0 c2_1 c2_2) (F.ez tables c2_0 c2_1 c2_2) (fun v2:Int×(List LV)=>True) (fun e2:(List LV)=>True->((c2_1.length+[(c2_2,(e2,()))].length) * 48<=lim)/\(nxT (LP50_0 tables) m K (s50_0 tables (wrap64 (c2_0+Z1)) (c2_1++[(c2_2,(e2,()))])))) m_ (s50_2 tables i0 v0 ([]++(nT tables i0).1) (Z0,[])))) (K (.exit 0) (⟨[(3,.own 7 none)],[(7,.arr .dp TTable v0)]⟩:St))):=by kernel_rfl
theorem lvc50_1 (tables:LTb) (c2_0:Int) (c2_1:LTb) (c2_2:LC) (v2:Int×(List LV)) (m:Nat) (K:KX):lvT C50 (L50 tables) ann50 f50 1 2 (s50_2 tables c2_0 c2_1 c2_2 v2) m K =
 ((0<=c2_0)/\(c2_0<(tables.length:Int))/\cond (decide (v2.1<((nT tables c2_0).2.1.length:Int))) ((0<=c2_0)/\(c2_0<(tables.length:Int))/\(0<=v2.1)/\(v2.1<((nT tables c2_0).2.1.length:Int))/\(Sm TVS (nth (t:=TVS) (nT tables c2_0).2.1 v2.1))/\(LD (nth (t:=TVS) (nT tables c2_0).2.1 v2.1) fun r1=>((v2.2.length+[r1].length) * 24<=lim)/\(nxT (LP50_2 tables) m K (s50_2 tables c2_0 c2_1 c2_2 (wrap64 (v2.1+Z1),(v2.2++[r1])))))) (K (.exit 2) (⟨[(0,.data TTb tables),(3,.own 7 none),(4,dI c2_0),(5,.ptr 5 0)],[(7,.arr .dp TTable c2_1),(5,.box [.own 14 none,.own 800081 none]),(14,.arr .sh ai c2_2),(800081,.arr .dp TVS v2.2)]⟩:St))):=by kernel_rfl
theorem con50_ok:aP P 50 c50:=aR C50 func50 (kC con110_ok kN) fun args hp K h0=>by
 obtain⟨tables,rfl,rfl,h_tables,hK⟩:=g1e h0
 have h:ok (F.mB tables) (fun r=>K (.own 0 none) [(0,.arr .dp TTable r)]):=ak (F.vF tables h_tables) (hK _ rfl)
 refine⟨rfl,ann50,(L50 tables),.raw,(HM (i0:=0) (i1:=2) (by kernel_rfl) ?_ ?_),?_⟩
 ·rintro _ _ K ⟨hc0,i0,v0,rfl,hl0,rfl,hv0,h⟩
  exact cast (lvc50_0 _ _ _ _ _).symm (aM h (fun ht0 h=>⟨hl0,⟨ht0,⟨(rZ (wD ai) (ay h_tables i0).1 rfl),(fE (fun m hm=>⟨i0,v0,([]++(nT tables i0).1),trivial,hm⟩) _ rfl trivial (pK h (fun e2 h hv2=>(oG h fun _ h=>(aG (fun _ hm=>⟨hc0,hm⟩) _ rfl hl0 dS ht0 (aS h_tables) trivial h)))))⟩⟩⟩) fun h=>(h trivial))
 ·rintro _ _ K ⟨c2_0,c2_1,c2_2,hc2,v2,rfl,hv2,h⟩
  exact cast (lvc50_1 _ _ _ _ _ _ _).symm (gI h (fun m1 hm2 h=>(oG h fun g1 h=>(oG h fun g2 h=>(oC h (fun _ h=>⟨g1,⟨g2,(oG h fun _ h=>(oG h fun _ h=>⟨(ay (ay h_tables c2_0).2.1 v2.1),(oL h fun _ _ h=>(oG h fun _ h=>(eN (fun _ hm=>⟨c2_0,c2_1,c2_2,hc2,hm⟩) hm2 _ rfl trivial h)))⟩))⟩⟩) fun _ h=>((lz h :) trivial))))))
 ·rw[vc50]
  exact(aE (fun m hm=>⟨trivial,hm⟩) Z0 _ rfl (Int.natCast_nonneg 0) trivial (aI h (fun v0 h hv0=>h) (fun _ h=>h.elim)))
def c145:Con:=⟨[.lent TVS,.dat TVS],fun args hp K=>g2 (pB TVS) (pD TVS) (fun rows row=>(Sm (Ty.sl TVS) rows)/\(Sm TVS row)/\K (dI (M.cE rows row:Int)) []) args hp,.plain,false⟩
abbrev C145:Ctx:=cx [(153,c153)] 22 [] 0 false
def ann145:=an [[kp 3],[kp 35],[kp 99],[kp 1123],[kp 99],[kp 262243],[kp 99],[kp 16]] [[kp 32]]
abbrev s145_0 (rows:(List LV)) (row:LV) (i0:Int) (v0:Int):St:=⟨[(0,.brw TVS rows),(1,.data TVS row),(5,dI v0),(6,dI i0)],[]⟩
abbrev LP145_0 (rows:(List LV)) (row:LV) (m:Nat) (st_:St) (K:KX):Prop:=True/\bO (t:=TVS) (s145_0 rows row) rows (F.fR rows row) (fun v0:Int=>True) (aU (fun v0:Int=>True->K (.exit 0) (⟨[(5,dI v0)],[]⟩:St)) (fun _=>False)) m st_
def L145 (rows:(List LV)) (row:LV):aX:=lp1 0 (LP145_0 rows row)
theorem vc145 (rows:(List LV)) (row:LV) (K:KA):vcT C145 (L145 rows row) ann145 f145 [.brw TVS rows,.data TVS row] [] (.dat au) K =
 (∃m_,True/\bO (t:=TVS) (s145_0 rows row) rows (F.fR rows row) (fun v0:Int=>True) (aU (fun v0:Int=>True->K (dI v0) []) (fun _=>False)) m_ (s145_0 rows row Z0 Z0)):=by kernel_rfl
theorem lvc145_0 (rows:(List LV)) (row:LV)  (i0:Int) (v0:Int) (m:Nat) (K:KX):lvT C145 (L145 rows row) ann145 f145 0 0 (s145_0 rows row i0 v0) m K =
 (cond (decide (i0<(rows.length:Int))) ((0<=i0)/\(i0<(rows.length:Int))/\(Sm TVS (nth (t:=TVS) rows i0))/\(Sm TVS row)/\cond (decide ((nth (t:=TVS) rows i0)=row)) (nxT (LP145_0 rows row) m K (s145_0 rows row (wrap64 (i0+Z1)) (wrap64 (v0+Z1)))) (nxT (LP145_0 rows row) m K (s145_0 rows row (wrap64 (i0+Z1)) v0))) (K (.exit 0) (⟨[(5,dI v0)],[]⟩:St))):=by kernel_rfl
theorem con145_ok:aP P 145 c145:=aR C145 func145 (kC con153_ok kN) fun args hp K h0=>by
 obtain⟨rows,row,rfl,rfl,h_rows,h_row,hK⟩:=g2e h0
 have h:ok (F.qb rows row) (fun r=>K (dI r) []):=ak (F.yw rows row h_rows h_row) hK
 refine⟨rfl,ann145,(L145 rows row),(.dat au),(aL (i0:=0) (by kernel_rfl) ?_),?_⟩
 ·rintro _ _ K ⟨hc0,i0,v0,rfl,hl0,rfl,hv0,h⟩
  exact cast (lvc145_0 _ _ _ _ _ _).symm (bw (t:=TVS) hl0 h (fun ht0 h=>⟨hl0,⟨ht0,⟨(ay h_rows i0),⟨h_row,(oC h (fun _ h=>(br (t:=TVS) (fun _ hm=>⟨hc0,hm⟩) _ rfl hl0 ht0 (aS h_rows) trivial h)) fun _ h=>(br (t:=TVS) (fun _ hm=>⟨hc0,hm⟩) _ rfl hl0 ht0 (aS h_rows) trivial h))⟩⟩⟩⟩) fun h=>(h trivial))
 ·rw[vc145]
  exact(bp (t:=TVS) (fun m hm=>⟨trivial,hm⟩) _ rfl trivial (aI h (fun v0 h hv0=>h) (fun _ h=>h.elim)))
def c79:Con:=⟨[.dat TTb,.dat TChange],fun args hp K=>g2 (pD TTb) (pD TChange) (fun tables c=>(Sm TTb tables)/\(Sm TChange c)/\K (dB (M.aV tables c)) []) args hp,.bor,false⟩
abbrev C79:Ctx:=cx [(48,c48),(143,c143),(144,c144),(145,c145)] 46 [] 0 false
def ann79:=an [[.fixRow 3 TChange,kp 9],[kp 536870921],[kp 16],[kp 40],[kp 137438953512],[kp 16],[kp 16]] []
theorem vc79 (tables:LTb) (c:TChange.D) (K:KA):vcT C79 aq ann79 f79 [.data TTb tables,.data TChange c] [] (.dat Ty.bool) K =
 ((Sm TTb tables)/\cond ((!(M.aA tables))==false) (cond ((!(M.inR c.1 Z0 (wrap64 ((tables.length:Int)-Z1))))==false) ((0<=c.1)/\(c.1<(tables.length:Int))/\(Sm TCS (nT tables c.1).1)/\(Sm TVS c.2.1)/\cond (!(M.bG (nT tables c.1).1 c.2.1)) (K (dB false) []) ((0<=c.1)/\(c.1<(tables.length:Int))/\cond c.2.2.1 (K (dB (decide (((nT tables c.1).2.1.length:Int)<Z6))) []) ((Sm (Ty.sl TVS) (nT tables c.1).2.1)/\(Sm TVS c.2.1)/\K (dB (decide (Z0<(M.cE (nT tables c.1).2.1 c.2.1:Int)))) []))) (K (dB false) [])) (K (dB false) [])):=by kernel_rfl
theorem con79_ok:aP P 79 c79:=aR C79 func79 (kC con48_ok (kC con143_ok (kC con144_ok (kC con145_ok kN)))) fun args hp K h0=>by
 obtain⟨tables,c,rfl,rfl,h_tables,h_c,hK⟩:=g2e h0
 have h:ok (F.nD tables c) (fun r=>K (dB r) []):=ak (F.wZ tables c h_tables h_c) hK
 refine⟨rfl,ann79,aq,(.dat Ty.bool),(az (by kernel_rfl)),?_⟩
 ·rw[vc79]
  exact⟨h_tables,(oC h (fun _ h=>(oC h (fun b_2 h=>⟨(jN (bnf (bgt b_2))),⟨(nW (bnf (bgt b_2))),⟨(ay h_tables c.1).1,⟨h_c.2.1,(oC h (fun _ h=>h) fun _ h=>⟨(jN (bnf (bgt b_2))),⟨(nW (bnf (bgt b_2))),(oC h (fun _ h=>h) fun _ h=>⟨(ay h_tables c.1).2.1,⟨h_c.2.1,h⟩⟩)⟩⟩)⟩⟩⟩⟩) fun _ h=>h)) fun _ h=>h)⟩
def c111:Con:=⟨[.dat (Ty.sl TVS),.dat (Ty.sl TVS)],fun args hp K=>g2 (pD (Ty.sl TVS)) (pD (Ty.sl TVS)) (fun a b=>(Sm (Ty.sl TVS) a)/\(Sm (Ty.sl TVS) b)/\(LD (M.mS a b) fun r=>K (.own 0 none) [(0,.arr .dp TVS r)])) args hp,.bor,false⟩
abbrev C111:Ctx:=cx [(110,c110),(145,c145)] 45 [] 0 true
def ann111:=an [[kp 3],[kp 35],[.weak 9,kp 99],[kp 227],[kp 8419],[kp 227],[kp 268435683],[kp 227],[kp 227],[kp 16]] [[kp 32]]
abbrev s111_0 (a:(List LV)) (b:(List LV)) (i0:Int) (v0:(List LV)×(List LV)):St:=⟨[(0,.data (Ty.sl TVS) a),(1,.data (Ty.sl TVS) b),(5,.own 8 none),(6,.own 9 none),(7,dI i0)],[(8,.arr .dp TVS v0.1),(9,.arr .sh TVS v0.2)]⟩
abbrev LP111_0 (a:(List LV)) (b:(List LV)) (m:Nat) (st_:St) (K:KX):Prop:=True/\bO (t:=TVS) (s111_0 a b) a (F.hG a b) (fun v0:(List LV)×(List LV)=>True) (aU (fun v0:(List LV)×(List LV)=>True->K (.exit 0) (⟨[(5,.own 8 none)],[(8,.arr .dp TVS v0.1)]⟩:St)) (fun _=>False)) m st_
def L111 (a:(List LV)) (b:(List LV)):aX:=lp1 0 (LP111_0 a b)
theorem vc111 (a:(List LV)) (b:(List LV)) (K:KA):vcT C111 (L111 a b) ann111 f111 [.data (Ty.sl TVS) a,.data (Ty.sl TVS) b] [] .raw K =
 (∃m_,True/\bO (t:=TVS) (s111_0 a b) a (F.hG a b) (fun v0:(List LV)×(List LV)=>True) (aU (fun v0:(List LV)×(List LV)=>True->K (.own 0 none) [(0,.arr .dp TVS v0.1)]) (fun _=>False)) m_ (s111_0 a b Z0 ([],[]))):=by kernel_rfl
theorem lvc111_0 (a:(List LV)) (b:(List LV))  (i0:Int) (v0:(List LV)×(List LV)) (m:Nat) (K:KX):lvT C111 (L111 a b) ann111 f111 0 0 (s111_0 a b i0 v0) m K =
 (cond (decide (i0<(a.length:Int))) ((0<=i0)/\(i0<(a.length:Int))/\(0<=i0)/\(i0<(a.length:Int))/\(Sm (Ty.sl TVS) v0.2)/\(Sm TVS (nth (t:=TVS) a i0))/\(Sm (Ty.sl TVS) b)/\(Sm TVS (nth (t:=TVS) a i0))/\cond (decide ((M.cE v0.2 (nth (t:=TVS) a i0):Int)<(M.cE b (nth (t:=TVS) a i0):Int))) ((0<=i0)/\(i0<(a.length:Int))/\((v0.2.length+[(nth (t:=TVS) a i0)].length) * 24<=lim)/\(nxT (LP111_0 a b) m K (s111_0 a b (wrap64 (i0+Z1)) (v0.1,(v0.2++[(nth (t:=TVS) a i0)]))))) ((0<=i0)/\(i0<(a.length:Int))/\(Sm TVS (nth (t:=TVS) a i0))/\(LD (nth (t:=TVS) a i0) fun r1=>((v0.1.length+[r1].length) * 24<=lim)/\(nxT (LP111_0 a b) m K (s111_0 a b (wrap64 (i0+Z1)) ((v0.1++[r1]),v0.2)))))) (K (.exit 0) (⟨[(5,.own 8 none)],[(8,.arr .dp TVS v0.1)]⟩:St))):=by kernel_rfl
theorem con111_ok:aP P 111 c111:=aR C111 func111 (kC con110_ok (kC con145_ok kN)) fun args hp K h0=>by
 obtain⟨a,b,rfl,rfl,h_a,h_b,hK⟩:=g2e h0
 have h:ok (F.nF a b) (fun r=>K (.own 0 none) [(0,.arr .dp TVS r)]):=ak (F.wu a b h_a h_b) (hK _ rfl)
 refine⟨rfl,ann111,(L111 a b),.raw,(aL (i0:=0) (by kernel_rfl) ?_),?_⟩
 ·rintro _ _ K ⟨hc0,i0,v0,rfl,hl0,rfl,hv0,h⟩
  exact cast (lvc111_0 _ _ _ _ _ _).symm (bw (t:=TVS) hl0 h (fun ht0 h=>⟨hl0,⟨ht0,⟨hl0,⟨ht0,(oG h fun _ h=>⟨(ay h_a i0),⟨h_b,⟨(ay h_a i0),(oC h (fun _ h=>⟨hl0,⟨ht0,(oG h fun _ h=>(br (t:=TVS) (fun _ hm=>⟨hc0,hm⟩) _ rfl hl0 ht0 (aS h_a) trivial h))⟩⟩) fun _ h=>⟨hl0,⟨ht0,⟨(ay h_a i0),(oL h fun _ _ h=>(oG h fun _ h=>(br (t:=TVS) (fun _ hm=>⟨hc0,hm⟩) _ rfl hl0 ht0 (aS h_a) trivial h)))⟩⟩⟩)⟩⟩⟩)⟩⟩⟩⟩) fun h=>(h trivial))
 ·rw[vc111]
  exact(bp (t:=TVS) (fun m hm=>⟨trivial,hm⟩) _ rfl trivial (aI h (fun v0 h hv0=>h) (fun _ h=>h.elim)))
def c51:Con:=⟨[.dat TTb,.dat TChange],fun args hp K=>g2 (pD TTb) (pD TChange) (fun tables c=>(Sm TTb tables)/\(Sm TChange c)/\(LD (cond (M.aV tables c) (M.bt tables c) [],M.aV tables c) fun r=>K (.tup [.own 0 none,dB r.2]) [(0,.arr .dp TTable r.1)])) args hp,.bor,false⟩
abbrev C51:Ctx:=cx [(50,c50),(79,c79),(110,c110),(111,c111)] 48 [] 0 true
def ann51:=an [[.fixRow 3 TChange,kp 9],[kp 1033],[kp 48],[kp 72],[kp 32840],[kp 64],[kp 64],[kp 48]] []
theorem vc51 (tables:LTb) (c:TChange.D) (K:KA):vcT C51 aq ann51 f51 [.data TTb tables,.data TChange c] [] .raw K =
 ((Sm TTb tables)/\(Sm TChange c)/\cond (!(M.aV tables c)) (K (.tup [.own 0 none,dB false]) [(0,.arr .dp TTable [])]) ((Sm TTb tables)/\(LD tables fun r1=>cond c.2.2.1 ((0<=c.1)/\(c.1<(r1.length:Int))/\(Sm TVS c.2.1)/\(LD c.2.1 fun r2=>(((nT r1 c.1).2.1.length+[r2].length) * 24<=lim)/\(0<=c.1)/\(c.1<((r1.set c.1.toNat ((nT r1 c.1).1,([],()))).length:Int))/\(c.1=c.1)/\(let y1:LTb:=((r1.set c.1.toNat ((nT r1 c.1).1,([],()))).set c.1.toNat ((nT (r1.set c.1.toNat ((nT r1 c.1).1,([],()))) c.1).1,(((nT r1 c.1).2.1++[r2]),())));K (.tup [.own 0 none,dB true]) [(0,.arr .dp TTable y1)]))) ((0<=c.1)/\(c.1<(r1.length:Int))/\(Sm (Ty.sl TVS) (nT r1 c.1).2.1)/\(Sm (Ty.sl TVS) [c.2.1])/\(LD (M.mS (nT r1 c.1).2.1 [c.2.1]) fun r3=>(0<=c.1)/\(c.1<(r1.length:Int))/\K (.tup [.own 0 none,dB true]) [(0,.arr .dp TTable (r1.set c.1.toNat ((nT r1 c.1).1,(r3,()))))]))))):=by kernel_rfl
theorem con51_ok:aP P 51 c51:=aR C51 func51 (kC con50_ok (kC con79_ok (kC con110_ok (kC con111_ok kN)))) fun args hp K h0=>by
 obtain⟨tables,c,rfl,rfl,h_tables,h_c,hK⟩:=g2e h0
 have h:ok (F.jT tables c) (fun r=>K (.tup [.own 0 none,dB r.2]) [(0,.arr .dp TTable r.1)]):=ak (F.sE tables c h_tables h_c) (hK _ rfl)
 refine⟨rfl,ann51,aq,.raw,(az (by kernel_rfl)),?_⟩
 ·rw[vc51]
  exact⟨h_tables,⟨h_c,(oC h (fun _ h=>h) fun _ h=>⟨h_tables,(oL h fun _ _ h=>(oC h (fun _ h=>(oG h fun g1 h=>(oG h fun _ h=>⟨h_c.2.1,(oL h fun _ _ h=>(oG h fun _ h=>⟨g1,(oG h fun _ h=>⟨rfl,(have h:=fH h _ rfl;h)⟩)⟩))⟩))) fun _ h=>(oG h fun g2 h=>(oG h fun g3 h=>(oG h fun _ h=>⟨(Ay h_c.2.1),(oL h fun _ _ h=>⟨g2,⟨g3,h⟩⟩)⟩)))))⟩)⟩⟩
def c35:Con:=⟨[.dat TTb,.dat (Ty.sl TBond),.dat TChange],fun args hp K=>g3 (pD TTb) (pD (Ty.sl TBond)) (pD TChange) (fun tables bonds c=>(Sm TTb tables)/\(Sm (Ty.sl TBond) bonds)/\(Sm TChange c)/\(LD (M.bR tables bonds c) fun r=>K (.tup [.data TTb r.1,dB r.2]) [])) args hp,.plain,false⟩
abbrev C35:Ctx:=cx [(49,c49),(51,c51),(80,c80),(82,c82)] 101 [] 0 false
def ann35:=an [[.fixRow 5 TChange,kp 35],[.weak 19,kp 771],[kp 1795],[kp 33556227],[kp 1795],[kp 1795],[kp 8796093022466],[kp 192],[kp 2306],[.keep [1,8,45]],[kp 2306],[kp 6402],[kp 9007199254747394],[kp 6402],[.fixRow 13 TBond,kp 14594],[kp 30978],[kp 295147905179352856834],[kp 61698],[kp 4354],[kp 6402],[.keep [8,98]],[kp 192],[kp 192]] [[kp 770],[],[kp 258],[],[kp 2306]]
abbrev s35_0 (tables:LTb) (bonds:(List TBond.D)) (c:TChange.D) (c0_0:LTb) (i0:Int) (v0:Bool):St:=⟨[(0,.data TTb tables),(1,.data (Ty.sl TBond) bonds),(8,.own 19 none),(9,dB v0),(10,dI i0)],[(19,.arr .sh TTable c0_0)]⟩
abbrev LP35_0 (tables:LTb) (bonds:(List TBond.D)) (c:TChange.D) (m:Nat) (st_:St) (K:KX):Prop:=∃c0_0:LTb,True/\bO (t:=TBond) (s35_0 tables bonds c c0_0) bonds (F.dy tables bonds c c0_0) (fun v0:Bool=>True) (aU (fun v0:Bool=>True->K (.exit 0) (⟨[(1,.data (Ty.sl TBond) bonds),(8,.own 19 none),(9,dB v0)],[(19,.arr .sh TTable c0_0)]⟩:St)) (fun _=>False)) m st_
abbrev s35_2 (tables:LTb) (bonds:(List TBond.D)) (c:TChange.D) (v2:Bool×LTb):St:=⟨[(1,.data (Ty.sl TBond) bonds),(8,.own 19 none),(11,dB v2.1)],[(19,.arr .sh TTable v2.2)]⟩
abbrev LP35_2 (tables:LTb) (bonds:(List TBond.D)) (c:TChange.D) (m:Nat) (st_:St) (K:KX):Prop:=True/\jH (s35_2 tables bonds c) (F.dz tables bonds c) (fun v2:Bool×LTb=>True) (fun e2:LTb=>True->K (.exit 2) (⟨[(1,.data (Ty.sl TBond) bonds),(8,.own 19 none)],[(19,.arr .sh TTable e2)]⟩:St)) m st_
abbrev s35_4 (tables:LTb) (bonds:(List TBond.D)) (c:TChange.D) (v4:Bool×Int×LTb):St:=⟨[(1,.data (Ty.sl TBond) bonds),(8,.own 19 none),(11,dB v4.1),(12,dI v4.2.1)],[(19,.arr .sh TTable v4.2.2)]⟩
abbrev LP35_4 (tables:LTb) (bonds:(List TBond.D)) (c:TChange.D) (m:Nat) (st_:St) (K:KX):Prop:=True/\jH (s35_4 tables bonds c) (F.cu tables bonds c) (fun v4:Bool×Int×LTb=>True) (fun e4:Bool×LTb=>True->K (.exit 4) (⟨[(1,.data (Ty.sl TBond) bonds),(8,.own 19 none),(11,dB e4.1)],[(19,.arr .sh TTable e4.2)]⟩:St)) m st_
def L35 (tables:LTb) (bonds:(List TBond.D)) (c:TChange.D):aX:=fun id m st_ K=>match id with
 | 0=>LP35_0 tables bonds c m st_ K
 | 2=>LP35_2 tables bonds c m st_ K
 | 4=>LP35_4 tables bonds c m st_ K
 | _=>False
theorem vc35 (tables:LTb) (bonds:(List TBond.D)) (c:TChange.D) (K:KA):vcT C35 (L35 tables bonds c) ann35 f35 [.data TTb tables,.data (Ty.sl TBond) bonds,.data TChange c] [] (.tup [TTb,Ty.bool]) K =
 ((Sm TTb tables)/\(Sm TChange c)/\(LD (cond (M.aV tables c) (M.bt tables c) [],M.aV tables c) fun r1=>(∃m_,∃c0_0:LTb,True/\bO (t:=TBond) (s35_0 tables bonds c c0_0) bonds (F.dy tables bonds c c0_0) (fun v0:Bool=>True) (aU (fun v0:Bool=>True->cond ((!v0)==false) (cond (decide (Z4<(bonds.length:Int))) (K (.tup [.data TTb [],dB false]) []) (∃m_,True/\jH (s35_2 tables bonds c) (F.dz tables bonds c) (fun v2:Bool×LTb=>True) (fun e2:LTb=>True->(Sm TTb e2)/\(Sm (Ty.sl TBond) bonds)/\cond (!(M.cU e2 bonds)) (K (.tup [.data TTb [],dB false]) []) (K (.tup [.data TTb e2,dB true]) [])) m_ (s35_2 tables bonds c (true,c0_0)))) (K (.tup [.data TTb [],dB false]) [])) (fun _=>False)) m_ (s35_0 tables bonds c r1.1 Z0 r1.2)))):=by kernel_rfl
theorem lvc35_0 (tables:LTb) (bonds:(List TBond.D)) (c:TChange.D) (c0_0:LTb) (i0:Int) (v0:Bool) (m:Nat) (K:KX):lvT C35 (L35 tables bonds c) ann35 f35 0 0 (s35_0 tables bonds c c0_0 i0 v0) m K =
 (cond (decide (i0<(bonds.length:Int))) (cond (v0==true) ((0<=i0)/\(i0<(bonds.length:Int))/\(Sm TTb tables)/\(Sm TBond (nth (t:=TBond) bonds i0))/\(nxT (LP35_0 tables bonds c) m K (s35_0 tables bonds c c0_0 (wrap64 (i0+Z1)) (M.aA tables&&M.aN tables (nth (t:=TBond) bonds i0))))) (nxT (LP35_0 tables bonds c) m K (s35_0 tables bonds c c0_0 (wrap64 (i0+Z1)) false))) (K (.exit 0) (⟨[(1,.data (Ty.sl TBond) bonds),(8,.own 19 none),(9,dB v0)],[(19,.arr .sh TTable c0_0)]⟩:St))):=by kernel_rfl
theorem lvc35_1 (tables:LTb) (bonds:(List TBond.D)) (c:TChange.D)  (v2:Bool×LTb) (m:Nat) (K:KX):lvT C35 (L35 tables bonds c) ann35 f35 1 2 (s35_2 tables bonds c v2) m K =
 (cond v2.1 (∃m_,True/\jH (s35_4 tables bonds c) (F.cu tables bonds c) (fun v4:Bool×Int×LTb=>True) (fun e4:Bool×LTb=>True->(nxT (LP35_2 tables bonds c) m K (s35_2 tables bonds c (e4.1,e4.2)))) m_ (s35_4 tables bonds c (false,Z0,v2.2))) (K (.exit 2) (⟨[(1,.data (Ty.sl TBond) bonds),(8,.own 19 none)],[(19,.arr .sh TTable v2.2)]⟩:St))):=by kernel_rfl
abbrev S35l4_0 (tables:LTb) (bonds:(List TBond.D)) (c:TChange.D)  (v4:Bool×Int×LTb) (m:Nat) (K:KX):Prop:=K (.exit 4) (⟨[(1,.data (Ty.sl TBond) bonds),(8,.own 19 none),(11,dB v4.1)],[(19,.arr .sh TTable v4.2.2)]⟩:St)
theorem lvc35_2 (tables:LTb) (bonds:(List TBond.D)) (c:TChange.D)  (v4:Bool×Int×LTb) (m:Nat) (K:KX):lvT C35 (L35 tables bonds c) ann35 f35 2 4 (s35_4 tables bonds c v4) m K =
 (cond ((decide (v4.2.1<(bonds.length:Int)))==true) (cond (!v4.1) ((0<=v4.2.1)/\(v4.2.1<(bonds.length:Int))/\(Sm TTb v4.2.2)/\(Sm TBond (nth (t:=TBond) bonds v4.2.1))/\((M.aA v4.2.2&&M.aN v4.2.2 (nth (t:=TBond) bonds v4.2.1))=true)/\cond ((nth (t:=TBond) bonds v4.2.1).2.2.2.2.2.1==true) (cond (decide (Z0<=(M.broken v4.2.2 (nth (t:=TBond) bonds v4.2.1)))) ((0<=(nth (t:=TBond) bonds v4.2.1).2.1)/\((nth (t:=TBond) bonds v4.2.1).2.1<(v4.2.2.length:Int))/\(0<=Z0)/\(Z0<=(M.broken v4.2.2 (nth (t:=TBond) bonds v4.2.1)))/\((M.broken v4.2.2 (nth (t:=TBond) bonds v4.2.1))<=((nT v4.2.2 (nth (t:=TBond) bonds v4.2.1).2.1).2.1.length:Int))/\((M.broken v4.2.2 (nth (t:=TBond) bonds v4.2.1))=(M.broken v4.2.2 (nth (t:=TBond) bonds v4.2.1)))/\((([]:List TVS.D).length+(aB (nT v4.2.2 (nth (t:=TBond) bonds v4.2.1).2.1).2.1 (some (Z0,(M.broken v4.2.2 (nth (t:=TBond) bonds v4.2.1))))).length) * 24<=lim)/\(0<=(nth (t:=TBond) bonds v4.2.1).2.1)/\((nth (t:=TBond) bonds v4.2.1).2.1<(v4.2.2.length:Int))/\(0<=wrap64 ((M.broken v4.2.2 (nth (t:=TBond) bonds v4.2.1))+Z1))/\(wrap64 ((M.broken v4.2.2 (nth (t:=TBond) bonds v4.2.1))+Z1)<=((nT v4.2.2 (nth (t:=TBond) bonds v4.2.1).2.1).2.1.length:Int))/\(((nT v4.2.2 (nth (t:=TBond) bonds v4.2.1).2.1).2.1.length:Int)<=((nT v4.2.2 (nth (t:=TBond) bonds v4.2.1).2.1).2.1.length:Int))/\(((nT v4.2.2 (nth (t:=TBond) bonds v4.2.1).2.1).2.1.length:Int)=((nT v4.2.2 (nth (t:=TBond) bonds v4.2.1).2.1).2.1.length:Int))/\((([]++(aB (nT v4.2.2 (nth (t:=TBond) bonds v4.2.1).2.1).2.1 (some (Z0,(M.broken v4.2.2 (nth (t:=TBond) bonds v4.2.1)))))).length+(aB (nT v4.2.2 (nth (t:=TBond) bonds v4.2.1).2.1).2.1 (some (wrap64 ((M.broken v4.2.2 (nth (t:=TBond) bonds v4.2.1))+Z1),((nT v4.2.2 (nth (t:=TBond) bonds v4.2.1).2.1).2.1.length:Int)))).length) * 24<=lim)/\(0<=(nth (t:=TBond) bonds v4.2.1).2.1)/\((nth (t:=TBond) bonds v4.2.1).2.1<(v4.2.2.length:Int))/\(let y1:LTb:=(v4.2.2.set (nth (t:=TBond) bonds v4.2.1).2.1.toNat ((nT v4.2.2 (nth (t:=TBond) bonds v4.2.1).2.1).1,((([]++(aB (nT v4.2.2 (nth (t:=TBond) bonds v4.2.1).2.1).2.1 (some (Z0,(M.broken v4.2.2 (nth (t:=TBond) bonds v4.2.1))))))++(aB (nT v4.2.2 (nth (t:=TBond) bonds v4.2.1).2.1).2.1 (some (wrap64 ((M.broken v4.2.2 (nth (t:=TBond) bonds v4.2.1))+Z1),((nT v4.2.2 (nth (t:=TBond) bonds v4.2.1).2.1).2.1.length:Int))))),())));(nxT (LP35_4 tables bonds c) m K (s35_4 tables bonds c (true,wrap64 (v4.2.1+Z1),y1))))) (nxT (LP35_4 tables bonds c) m K (s35_4 tables bonds c (v4.1,wrap64 (v4.2.1+Z1),v4.2.2)))) (nxT (LP35_4 tables bonds c) m K (s35_4 tables bonds c (v4.1,wrap64 (v4.2.1+Z1),v4.2.2)))) (S35l4_0  tables bonds c v4 m K)) (S35l4_0  tables bonds c v4 m K)):=by kernel_rfl
theorem con35_ok:aP P 35 c35:=aR C35 func35 (kC con49_ok (kC con51_ok (kC con80_ok (kC con82_ok kN)))) fun args hp K h0=>by
 obtain⟨tables,bonds,c,rfl,rfl,h_tables,h_bonds,h_c,hK⟩:=g3e h0
 have h:ok (F.jk tables bonds c) (fun r=>K (.tup [.data TTb r.1,dB r.2]) []):=ak (F.qT tables bonds c h_tables h_bonds h_c) (hK _ rfl)
 refine⟨rfl,ann35,(L35 tables bonds c),(.tup [TTb,Ty.bool]),(EO (i0:=0) (i1:=2) (i2:=4) (by kernel_rfl) ?_ ?_ ?_),?_⟩
 ·rintro _ _ K ⟨c0_0,hc0,i0,v0,rfl,hl0,rfl,hv0,h⟩
  exact cast (lvc35_0 _ _ _ _ _ _ _ _).symm (bw (t:=TBond) hl0 h (fun ht0 h=>(oC h (fun _ h=>⟨hl0,⟨ht0,⟨h_tables,⟨(ay h_bonds i0),(br (t:=TBond) (fun _ hm=>⟨c0_0,hc0,hm⟩) _ rfl hl0 ht0 (aS h_bonds) trivial h)⟩⟩⟩⟩) fun _ h=>(br (t:=TBond) (fun _ hm=>⟨c0_0,hc0,hm⟩) _ rfl hl0 ht0 (aS h_bonds) trivial h))) fun h=>(h trivial))
 ·rintro _ _ K ⟨hc2,v2,rfl,hv2,h⟩
  exact cast (lvc35_1 _ _ _ _ _ _).symm (gI h (fun m1 hm2 h=>(oC h (fun _ h=>(fE (fun m hm=>⟨trivial,hm⟩) _ rfl trivial (pK h (fun e4 h hv4=>(eN (fun _ hm=>⟨hc2,hm⟩) hm2 _ rfl trivial h))))) fun _ h=>((lz h :) trivial))))
 ·rintro _ _ K ⟨hc4,v4,rfl,hv4,h⟩
  exact cast (lvc35_2 _ _ _ _ _ _).symm (gI h (fun m1 hm4 h=>(oC h (fun _ h=>(oC h (fun _ h=>(oG h fun _ h=>(oG h fun _ h=>(oG h fun _ h=>⟨(ay h_bonds v4.2.1),(oG h fun _ h=>(oC h (fun _ h=>(oC h (fun _ h=>(oG h fun g1 h=>(oG h fun g2 h=>⟨(Int.natCast_nonneg 0),(oG h fun _ h=>(oG h fun _ h=>⟨rfl,(oG h fun _ h=>⟨g1,⟨g2,(oG h fun _ h=>(oG h fun _ h=>⟨(Int.le_refl _),⟨rfl,(oG h fun _ h=>⟨g1,⟨g2,(have h:=fH h _ rfl;(eN (fun _ hm=>⟨hc4,hm⟩) hm4 _ rfl trivial h))⟩⟩)⟩⟩))⟩⟩)⟩))⟩))) fun _ h=>(eN (fun _ hm=>⟨hc4,hm⟩) hm4 _ rfl trivial h))) fun _ h=>(eN (fun _ hm=>⟨hc4,hm⟩) hm4 _ rfl trivial h)))⟩)))) fun _ h=>((lz h :) trivial))) fun _ h=>((lz h :) trivial))))
 ·rw[vc35]
  exact⟨h_tables,⟨h_c,(oL h fun r1 _ h=>(bp (t:=TBond) (fun m hm=>⟨r1.1,trivial,hm⟩) _ rfl trivial (aI h (fun v0 h hv0=>(oC h (fun _ h=>(oC h (fun _ h=>h) fun _ h=>(fE (fun m hm=>⟨trivial,hm⟩) _ rfl trivial (pK h (fun e2 h hv2=>(oG h fun _ h=>⟨h_bonds,(oC h (fun _ h=>h) fun _ h=>h)⟩)))))) fun _ h=>h)) (fun _ h=>h.elim))))⟩⟩
abbrev C36:Ctx:=cx [(83,c83)] 15 [] 200000 true
def T36:Inl:=vW C36 (fun _=>[]) (dL f36) f36.results.toList
theorem inlOk36:vL P 36 T36:=CB C36 func36 (kC con83_ok kN)
def c132:Con:=⟨[.dat au,.dat au,.dat au],fun args hp K=>g3 (pD au) (pD au) (pD au) (fun n low high=>K (dB (M.inR n low high)) []) args hp,.plain,false⟩
abbrev C132:Ctx:=cx [] 15 [] 0 false
def ann132:=an [[kp 7],[kp 64]] []
theorem vc132 (n:Int) (low:Int) (high:Int) (K:KA):vcT C132 aq ann132 f132 [dI n,dI low,dI high] [] (.dat Ty.bool) K =
 (cond ((decide (low<=n))==true) (K (dB (decide (n<=high))) []) (K (dB false) [])):=by kernel_rfl
theorem con132_ok:aP P 132 c132:=aR C132 func132 kN fun args hp K h0=>by
 obtain⟨n,low,high,rfl,rfl,hK⟩:=g3e h0
 have h:ok (F.qo n low high) (fun r=>K (dB r) []):=ak (F.yp n low high) hK
 refine⟨rfl,ann132,aq,(.dat Ty.bool),(az (by kernel_rfl)),?_⟩
 ·rw[vc132]
  exact(oC h (fun _ h=>h) fun _ h=>h)
def c137:Con:=⟨[.dat ai],fun args hp K=>g1 (pD ai) (fun c=>K (dB (!M.dO c)) []) args hp,.plain,false⟩
abbrev C137:Ctx:=cx [(132,c132)] 7 [] 0 false
def ann137:=an [[.fixRow 1 ai,kp 2],[kp 4]] []
theorem vc137 (c:ai.D) (K:KA):vcT C137 aq ann137 f137 [.data ai c] [] (.dat Ty.bool) K =
 (K (dB (!(M.inR c.1 Z1 Z3))) []):=by kernel_rfl
theorem con137_ok:aP P 137 c137:=aR C137 func137 (kC con132_ok kN) fun args hp K h0=>by
 obtain⟨c,rfl,rfl,hK⟩:=g1e h0
 have h:ok (F.oM c) (fun r=>K (dB r) []):=ak (F.sD c) hK
 refine⟨rfl,ann137,aq,(.dat Ty.bool),(az (by kernel_rfl)),?_⟩
 ·rw[vc137]
  exact h
def c193:Con:=⟨[.lent ai,.any],fun args hp K=>args2 (fun a0 a1=>iu ai a0 fun xs=>gj 137 a1 (sU ((Sm TCS xs)/\K (dI (M.idx (t:=ai) (fun e=>!M.dO e) xs)) []))) args hp,.plain,false⟩
abbrev C193:Ctx:=cx [(137,c137)] 19 [] 0 false
def ann193:=an [[kp 3],[kp 387],[kp 899],[kp 419],[kp 65955],[kp 16],[kp 387],[kp 16]] [[kp 0]]
abbrev s193_0 (xs:LC) (i0:Int) (v0:Unit):St:=⟨[(0,.brw ai xs),(1,.fn 137 []),(7,dI (xs.length:Int)),(8,dI i0)],[]⟩
abbrev LP193_0 (xs:LC) (m:Nat) (st_:St) (K:KX):Prop:=True/\bg (s193_0 xs) Z0 (xs.length:Int) (F.cD xs) (fun v0:Unit=>True) (aU (fun v0:Unit=>True->K (.exit 0) (⟨[],[]⟩:St)) (fun q0:Int=>K .ret (⟨[(4,dI q0)],[]⟩:St))) m st_
def L193 (xs:LC):aX:=lp1 0 (LP193_0 xs)
theorem vc193 (xs:LC) (K:KA):vcT C193 (L193 xs) ann193 f193 [.brw ai xs,.fn 137 []] [] (.dat au) K =
 (∃m_,True/\bg (s193_0 xs) Z0 (xs.length:Int) (F.cD xs) (fun v0:Unit=>True) (aU (fun v0:Unit=>True->K (dI (-1:Int)) []) (fun q0:Int=>K (dI q0) [])) m_ (s193_0 xs Z0 ())):=by kernel_rfl
theorem lvc193_0 (xs:LC)  (i0:Int) (v0:Unit) (m:Nat) (K:KX):lvT C193 (L193 xs) ann193 f193 0 0 (s193_0 xs i0 v0) m K =
 (cond (decide (i0<(xs.length:Int))) ((0<=i0)/\(i0<(xs.length:Int))/\cond (!M.dO (nC xs i0)) (K .ret (⟨[(4,dI i0)],[]⟩:St)) (nxT (LP193_0 xs) m K (s193_0 xs (wrap64 (i0+Z1)) ()))) (K (.exit 0) (⟨[],[]⟩:St))):=by kernel_rfl
theorem con193_ok:aP P 193 c193:=aR C193 func193 (kC con137_ok kN) fun args hp K h0=>by
 obtain⟨a0,a1,rfl,rfl,h1⟩:=bu h0
 obtain⟨xs,rfl,h2⟩:=bS h1
 obtain⟨cs1,rfl,h3⟩:=bK h2
 obtain⟨rfl,h4⟩:=gD h3
 obtain⟨h_xs,hK⟩:=h4
 have h:ok (F.gE xs) (fun r=>K (dI r) []):=ak (F.kG xs h_xs) hK
 refine⟨rfl,ann193,(L193 xs),(.dat au),(aL (i0:=0) (by kernel_rfl) ?_),?_⟩
 ·rintro _ _ K ⟨hc0,i0,v0,rfl,hl0,rfl,hv0,h⟩
  exact cast (lvc193_0 _ _ _ _ _).symm (aM h (fun ht0 h=>⟨hl0,⟨ht0,(oC h (fun _ h=>h) fun _ h=>(aG (fun _ hm=>⟨hc0,hm⟩) _ rfl hl0 dS ht0 (aS h_xs) trivial h))⟩⟩) fun h=>(h trivial))
 ·rw[vc193]
  exact(aE (fun m hm=>⟨trivial,hm⟩) Z0 _ rfl (Int.natCast_nonneg 0) trivial (aI h (fun v0 h hv0=>h) (fun q0 h=>h)))
def c136:Con:=⟨[.lent ai,.any],fun args hp K=>args2 (fun a0 a1=>iu ai a0 fun xs=>gj 137 a1 (sU ((Sm TCS xs)/\K (dB (List.any xs (fun e=>!M.dO e))) []))) args hp,.plain,false⟩
abbrev C136:Ctx:=cx [(137,c137),(193,c193)] 9 [] 0 false
def ann136:=an [[kp 3],[kp 16]] []
theorem vc136 (xs:LC) (K:KA):vcT C136 aq ann136 f136 [.brw ai xs,.fn 137 []] [] (.dat Ty.bool) K =
 ((Sm TCS xs)/\K (dB (decide (Z0<=(M.idx (t:=ai) (fun e=>!M.dO e) xs)))) []):=by kernel_rfl
theorem con136_ok:aP P 136 c136:=aR C136 func136 (kC con137_ok (kC con193_ok kN)) fun args hp K h0=>by
 obtain⟨a0,a1,rfl,rfl,h1⟩:=bu h0
 obtain⟨xs,rfl,h2⟩:=bS h1
 obtain⟨cs1,rfl,h3⟩:=bK h2
 obtain⟨rfl,h4⟩:=gD h3
 obtain⟨h_xs,hK⟩:=h4
 have h:ok (F.dw xs) (fun r=>K (dB r) []):=ak (F.jt xs h_xs) hK
 refine⟨rfl,ann136,aq,(.dat Ty.bool),(az (by kernel_rfl)),?_⟩
 ·rw[vc136]
  exact⟨h_xs,h⟩
def c75:Con:=⟨[.dat TCS],fun args hp K=>g1 (pD TCS) (fun columns=>(Sm TCS columns)/\K (dB (M.bC columns)) []) args hp,.plain,false⟩
abbrev C75:Ctx:=cx [(136,c136)] 11 [] 0 false
def ann75:=an [[kp 1],[kp 4]] []
theorem vc75 (columns:LC) (K:KA):vcT C75 aq ann75 f75 [.data TCS columns] [] (.dat Ty.bool) K =
 (cond ((decide ((columns.length:Int)<=Z4))==true) ((Sm TCS columns)/\K (dB (!(List.any columns (fun e=>!M.dO e)))) []) (K (dB false) [])):=by kernel_rfl
theorem con75_ok:aP P 75 c75:=aR C75 func75 (kC con136_ok kN) fun args hp K h0=>by
 obtain⟨columns,rfl,rfl,h_columns,hK⟩:=g1e h0
 have h:ok (F.mJ columns) (fun r=>K (dB r) []):=ak (F.vq columns h_columns) hK
 refine⟨rfl,ann75,aq,(.dat Ty.bool),(az (by kernel_rfl)),?_⟩
 ·rw[vc75]
  exact(oC h (fun _ h=>⟨h_columns,h⟩) fun _ h=>h)
def c200:Con:=⟨[.dat aa],fun args hp K=>g1 (pD aa) (fun v=>(Sm aa v)/\K (dB (decide (v.1=0))) []) args hp,.plain,false⟩
abbrev C200:Ctx:=cx [] 6 [] 0 false
def ann200:=an [[.fixRow 1 aa,kp 2],[kp 4]] []
theorem vc200 (v:aa.D) (K:KA):vcT C200 aq ann200 f200 [.data aa v] [] (.dat Ty.bool) K =
 (K (dB (decide (v.1=Z0))) []):=by kernel_rfl
theorem con200_ok:aP P 200 c200:=aR C200 func200 kN fun args hp K h0=>by
 obtain⟨v,rfl,rfl,h_v,hK⟩:=g1e h0
 have h:ok (F.mq v) (fun r=>K (dB r) []):=ak (F.qC v h_v) hK
 refine⟨rfl,ann200,aq,(.dat Ty.bool),(az (by kernel_rfl)),?_⟩
 ·rw[vc200]
  exact h
def c189:Con:=⟨[.dat Ty.str],fun args hp K=>g1 (pD Ty.str) (fun s=>(Sm Ty.str s)/\K (dB (M.lower (bI s))) []) args hp,.plain,false⟩
abbrev C189:Ctx:=cx [(132,c132)] 17 [] 0 false
def ann189:=an [[kp 1],[kp 448],[kp 960],[kp 464],[kp 33216],[kp 4],[kp 448],[kp 4]] [[kp 0]]
abbrev s189_0 (s:ByteArray) (i0:Int) (v0:Unit):St:=⟨[(6,.data TBy (bI s)),(7,dI ((bI s).length:Int)),(8,dI i0)],[]⟩
abbrev LP189_0 (s:ByteArray) (m:Nat) (st_:St) (K:KX):Prop:=True/\bO (t:=(Ty.int .u8)) (s189_0 s) (bI s) (F.iF s) (fun v0:Unit=>True) (aU (fun v0:Unit=>True->K (.exit 0) (⟨[],[]⟩:St)) (fun q0:Unit=>K .ret (⟨[(2,dB false)],[]⟩:St))) m st_
def L189 (s:ByteArray):aX:=lp1 0 (LP189_0 s)
theorem vc189 (s:ByteArray) (K:KA):vcT C189 (L189 s) ann189 f189 [.data Ty.str s] [] (.dat Ty.bool) K =
 (∃m_,True/\bO (t:=(Ty.int .u8)) (s189_0 s) (bI s) (F.iF s) (fun v0:Unit=>True) (aU (fun v0:Unit=>True->K (dB true) []) (fun q0:Unit=>K (dB false) [])) m_ (s189_0 s Z0 ())):=by kernel_rfl
theorem lvc189_0 (s:ByteArray)  (i0:Int) (v0:Unit) (m:Nat) (K:KX):lvT C189 (L189 s) ann189 f189 0 0 (s189_0 s i0 v0) m K =
 (cond (decide (i0<((bI s).length:Int))) ((0<=i0)/\(i0<((bI s).length:Int))/\cond (!(M.inR (wrap64 (nth (t:=(Ty.int .u8)) (bI s) i0)) (97:Int) (122:Int))) (K .ret (⟨[(2,dB false)],[]⟩:St)) (nxT (LP189_0 s) m K (s189_0 s (wrap64 (i0+Z1)) ()))) (K (.exit 0) (⟨[],[]⟩:St))):=by kernel_rfl
theorem con189_ok:aP P 189 c189:=aR C189 func189 (kC con132_ok kN) fun args hp K h0=>by
 obtain⟨s,rfl,rfl,h_s,hK⟩:=g1e h0
 have h:ok (F.pS s) (fun r=>K (dB r) []):=ak (F.yq s h_s) hK
 refine⟨rfl,ann189,(L189 s),(.dat Ty.bool),(aL (i0:=0) (by kernel_rfl) ?_),?_⟩
 ·rintro _ _ K ⟨hc0,i0,v0,rfl,hl0,rfl,hv0,h⟩
  exact cast (lvc189_0 _ _ _ _ _).symm (bw (t:=(Ty.int .u8)) hl0 h (fun ht0 h=>⟨hl0,⟨ht0,(oC h (fun _ h=>h) fun _ h=>(br (t:=(Ty.int .u8)) (fun _ hm=>⟨hc0,hm⟩) _ rfl hl0 ht0 (aS (HC h_s)) trivial h))⟩⟩) fun h=>(h trivial))
 ·rw[vc189]
  exact(bp (t:=(Ty.int .u8)) (fun m hm=>⟨trivial,hm⟩) _ rfl trivial (aI h (fun v0 h hv0=>h) (fun q0 h=>h)))
def c131:Con:=⟨[.dat aa],fun args hp K=>g1 (pD aa) (fun v=>(Sm aa v)/\K (dB (M.aO v)) []) args hp,.plain,false⟩
abbrev C131:Ctx:=cx [(132,c132),(189,c189)] 46 [] 0 false
def ann131:=an [[.fixRow 1 aa,kp 2],[kp 18],[kp 50],[kp 4],[kp 1042],[kp 4],[kp 1048594],[kp 4],[.keep [1,36]],[kp 4],[kp 4]] []
theorem vc131 (v:aa.D) (K:KA):vcT C131 aq ann131 f131 [.data aa v] [] (.dat Ty.bool) K =
 (cond (decide (v.1=Z0)) (K (dB (Ty.beq aa v (Z0,(Z0,((⟨#[]⟩:ByteArray),()))))) []) (cond (decide (v.1=Z1)) (cond ((decide (v.2.2.1=(⟨#[]⟩:ByteArray)))==true) (K (dB (M.inR v.2.1 (-9999:Int) (9999:Int))) []) (K (dB false) [])) (cond (decide (v.1=Z2)) (cond ((decide (v.2.1=Z0))==true) (cond ((decide ((v.2.2.1.size:Int)<=Z6))==true) ((Sm Ty.str v.2.2.1)/\K (dB (M.lower (bI v.2.2.1))) []) (K (dB false) [])) (K (dB false) [])) (cond (decide (v.1=Z3)) (cond ((decide (v.2.2.1=(⟨#[]⟩:ByteArray)))==true) (K (dB (M.inR v.2.1 Z0 Z1)) []) (K (dB false) [])) (K (dB false) []))))):=by kernel_rfl
theorem con131_ok:aP P 131 c131:=aR C131 func131 (kC con132_ok (kC con189_ok kN)) fun args hp K h0=>by
 obtain⟨v,rfl,rfl,h_v,hK⟩:=g1e h0
 have h:ok (F.oe v) (fun r=>K (dB r) []):=ak (F.vR v h_v) hK
 refine⟨rfl,ann131,aq,(.dat Ty.bool),(az (by kernel_rfl)),?_⟩
 ·rw[vc131]
  exact(oC h (fun _ h=>h) fun _ h=>(oC h (fun _ h=>(oC h (fun _ h=>h) fun _ h=>h)) fun _ h=>(oC h (fun _ h=>(oC h (fun _ h=>(oC h (fun _ h=>⟨h_v.2.2.1,h⟩) fun _ h=>h)) fun _ h=>h)) fun _ h=>(oC h (fun _ h=>(oC h (fun _ h=>h) fun _ h=>h)) fun _ h=>h))))
def c211:Con:=⟨[.dat aa],fun args hp K=>g1 (pD aa) (fun v=>(Sm aa v)/\K (dB (!M.aO v)) []) args hp,.plain,false⟩
abbrev C211:Ctx:=cx [(131,c131)] 6 [] 0 false
def ann211:=an [[.fixRow 1 aa,kp 2],[kp 4]] []
theorem vc211 (v:aa.D) (K:KA):vcT C211 aq ann211 f211 [.data aa v] [] (.dat Ty.bool) K =
 ((Sm aa v)/\K (dB (!(M.aO v))) []):=by kernel_rfl
theorem con211_ok:aP P 211 c211:=aR C211 func211 (kC con131_ok kN) fun args hp K h0=>by
 obtain⟨v,rfl,rfl,h_v,hK⟩:=g1e h0
 have h:ok (F.vG v) (fun r=>K (dB r) []):=ak (F.yh v h_v) hK
 refine⟨rfl,ann211,aq,(.dat Ty.bool),(az (by kernel_rfl)),?_⟩
 ·rw[vc211]
  exact⟨h_v,h⟩
def c231:Con:=⟨[.lent aa,.any],fun args hp K=>(args2 (fun a0 a1=>iu aa a0 fun xs=>gj 200 a1 (sU ((Sm TVS xs)/\K (dI (M.idx (t:=aa) (fun e=>decide (e.1=0)) xs)) []))) args hp)\/(args2 (fun a0 a1=>iu aa a0 fun xs=>gj 211 a1 (sU ((Sm TVS xs)/\K (dI (M.idx (t:=aa) (fun e=>!M.aO e) xs)) []))) args hp),.plain,false⟩
abbrev C231:Ctx:=cx [(200,c200),(211,c211)] 19 [] 0 false
def ann231_v0:=an [[kp 3],[kp 387],[kp 899],[kp 419],[kp 65955],[kp 16],[kp 387],[kp 16]] [[kp 0]]
abbrev s231_0_v0 (xs:LV) (i0:Int) (v0:Unit):St:=⟨[(0,.brw aa xs),(1,.fn 200 []),(7,dI (xs.length:Int)),(8,dI i0)],[]⟩
abbrev LP231_0_v0 (xs:LV) (m:Nat) (st_:St) (K:KX):Prop:=True/\bg (s231_0_v0 xs) Z0 (xs.length:Int) (F.ck xs) (fun v0:Unit=>True) (aU (fun v0:Unit=>True->K (.exit 0) (⟨[],[]⟩:St)) (fun q0:Int=>K .ret (⟨[(4,dI q0)],[]⟩:St))) m st_
def L231_v0 (xs:LV):aX:=lp1 0 (LP231_0_v0 xs)
theorem vc231_v0 (xs:LV) (K:KA):vcT C231 (L231_v0 xs) ann231_v0 f231 [.brw aa xs,.fn 200 []] [] (.dat au) K =
 (∃m_,True/\bg (s231_0_v0 xs) Z0 (xs.length:Int) (F.ck xs) (fun v0:Unit=>True) (aU (fun v0:Unit=>True->K (dI (-1:Int)) []) (fun q0:Int=>K (dI q0) [])) m_ (s231_0_v0 xs Z0 ())):=by kernel_rfl
theorem lvc231_0_v0 (xs:LV)  (i0:Int) (v0:Unit) (m:Nat) (K:KX):lvT C231 (L231_v0 xs) ann231_v0 f231 0 0 (s231_0_v0 xs i0 v0) m K =
 (cond (decide (i0<(xs.length:Int))) ((0<=i0)/\(i0<(xs.length:Int))/\(Sm aa (nV xs i0))/\cond (decide ((nV xs i0).1=0)) (K .ret (⟨[(4,dI i0)],[]⟩:St)) (nxT (LP231_0_v0 xs) m K (s231_0_v0 xs (wrap64 (i0+Z1)) ()))) (K (.exit 0) (⟨[],[]⟩:St))):=by kernel_rfl
def ann231_v1:=an [[kp 3],[kp 387],[kp 899],[kp 419],[kp 65955],[kp 16],[kp 387],[kp 16]] [[kp 0]]
abbrev s231_0_v1 (xs:LV) (i0:Int) (v0:Unit):St:=⟨[(0,.brw aa xs),(1,.fn 211 []),(7,dI (xs.length:Int)),(8,dI i0)],[]⟩
abbrev LP231_0_v1 (xs:LV) (m:Nat) (st_:St) (K:KX):Prop:=True/\bg (s231_0_v1 xs) Z0 (xs.length:Int) (F.cX xs) (fun v0:Unit=>True) (aU (fun v0:Unit=>True->K (.exit 0) (⟨[],[]⟩:St)) (fun q0:Int=>K .ret (⟨[(4,dI q0)],[]⟩:St))) m st_
def L231_v1 (xs:LV):aX:=lp1 0 (LP231_0_v1 xs)
theorem vc231_v1 (xs:LV) (K:KA):vcT C231 (L231_v1 xs) ann231_v1 f231 [.brw aa xs,.fn 211 []] [] (.dat au) K =
 (∃m_,True/\bg (s231_0_v1 xs) Z0 (xs.length:Int) (F.cX xs) (fun v0:Unit=>True) (aU (fun v0:Unit=>True->K (dI (-1:Int)) []) (fun q0:Int=>K (dI q0) [])) m_ (s231_0_v1 xs Z0 ())):=by kernel_rfl
theorem lvc231_0_v1 (xs:LV)  (i0:Int) (v0:Unit) (m:Nat) (K:KX):lvT C231 (L231_v1 xs) ann231_v1 f231 0 0 (s231_0_v1 xs i0 v0) m K =
 (cond (decide (i0<(xs.length:Int))) ((0<=i0)/\(i0<(xs.length:Int))/\(Sm aa (nV xs i0))/\cond (!M.aO (nV xs i0)) (K .ret (⟨[(4,dI i0)],[]⟩:St)) (nxT (LP231_0_v1 xs) m K (s231_0_v1 xs (wrap64 (i0+Z1)) ()))) (K (.exit 0) (⟨[],[]⟩:St))):=by kernel_rfl
theorem con231_ok:aP P 231 c231:=aR C231 func231 (kC con200_ok (kC con211_ok kN)) fun args hp K h0=>by
 rcases h0 with h0 | h0
 ·obtain⟨a0,a1,rfl,rfl,h1⟩:=bu h0
  obtain⟨xs,rfl,h2⟩:=bS h1
  obtain⟨cs1,rfl,h3⟩:=bK h2
  obtain⟨rfl,h4⟩:=gD h3
  obtain⟨h_xs,hK⟩:=h4
  have h:ok (F.fT xs) (fun r=>K (dI r) []):=ak (F.jF xs h_xs) hK
  refine⟨rfl,ann231_v0,(L231_v0 xs),(.dat au),(aL (i0:=0) (by kernel_rfl) ?_),?_⟩
  ·rintro _ _ K ⟨hc0,i0,v0,rfl,hl0,rfl,hv0,h⟩
   exact cast (lvc231_0_v0 _ _ _ _ _).symm (aM h (fun ht0 h=>⟨hl0,⟨ht0,⟨(ay h_xs i0),(oC h (fun _ h=>h) fun _ h=>(aG (fun _ hm=>⟨hc0,hm⟩) _ rfl hl0 dS ht0 (aS h_xs) trivial h))⟩⟩⟩) fun h=>(h trivial))
  ·rw[vc231_v0]
   exact(aE (fun m hm=>⟨trivial,hm⟩) Z0 _ rfl (Int.natCast_nonneg 0) trivial (aI h (fun v0 h hv0=>h) (fun q0 h=>h)))
 ·obtain⟨a0,a1,rfl,rfl,h1⟩:=bu h0
  obtain⟨xs,rfl,h2⟩:=bS h1
  obtain⟨cs1,rfl,h3⟩:=bK h2
  obtain⟨rfl,h4⟩:=gD h3
  obtain⟨h_xs,hK⟩:=h4
  have h:ok (F.jv xs) (fun r=>K (dI r) []):=ak (F.mX xs h_xs) hK
  refine⟨rfl,ann231_v1,(L231_v1 xs),(.dat au),(aL (i0:=0) (by kernel_rfl) ?_),?_⟩
  ·rintro _ _ K ⟨hc0,i0,v0,rfl,hl0,rfl,hv0,h⟩
   exact cast (lvc231_0_v1 _ _ _ _ _).symm (aM h (fun ht0 h=>⟨hl0,⟨ht0,⟨(ay h_xs i0),(oC h (fun _ h=>h) fun _ h=>(aG (fun _ hm=>⟨hc0,hm⟩) _ rfl hl0 dS ht0 (aS h_xs) trivial h))⟩⟩⟩) fun h=>(h trivial))
  ·rw[vc231_v1]
   exact(aE (fun m hm=>⟨trivial,hm⟩) Z0 _ rfl (Int.natCast_nonneg 0) trivial (aI h (fun v0 h hv0=>h) (fun q0 h=>h)))
def c199:Con:=⟨[.lent aa,.any],fun args hp K=>(args2 (fun a0 a1=>iu aa a0 fun xs=>gj 200 a1 (sU ((Sm TVS xs)/\K (dB (List.any xs (fun e=>decide (e.1=0)))) []))) args hp)\/(args2 (fun a0 a1=>iu aa a0 fun xs=>gj 211 a1 (sU ((Sm TVS xs)/\K (dB (List.any xs (fun e=>!M.aO e))) []))) args hp),.plain,false⟩
abbrev C199:Ctx:=cx [(200,c200),(211,c211),(231,c231)] 9 [] 0 false
def ann199_v0:=an [[kp 3],[kp 16]] []
theorem vc199_v0 (xs:LV) (K:KA):vcT C199 aq ann199_v0 f199 [.brw aa xs,.fn 200 []] [] (.dat Ty.bool) K =
 (((Sm TVS xs)/\K (dB (decide (Z0<=(M.idx (t:=aa) (fun e=>decide (e.1=0)) xs)))) [])\/False):=by kernel_rfl
def ann199_v1:=an [[kp 3],[kp 16]] []
theorem vc199_v1 (xs:LV) (K:KA):vcT C199 aq ann199_v1 f199 [.brw aa xs,.fn 211 []] [] (.dat Ty.bool) K =
 (False\/((Sm TVS xs)/\K (dB (decide (Z0<=(M.idx (t:=aa) (fun e=>!M.aO e) xs)))) [])):=by kernel_rfl
theorem con199_ok:aP P 199 c199:=aR C199 func199 (kC con200_ok (kC con211_ok (kC con231_ok kN))) fun args hp K h0=>by
 rcases h0 with h0 | h0
 ·obtain⟨a0,a1,rfl,rfl,h1⟩:=bu h0
  obtain⟨xs,rfl,h2⟩:=bS h1
  obtain⟨cs1,rfl,h3⟩:=bK h2
  obtain⟨rfl,h4⟩:=gD h3
  obtain⟨h_xs,hK⟩:=h4
  have h:ok (F.cW xs) (fun r=>K (dB r) []):=ak (F.iT xs h_xs) hK
  refine⟨rfl,ann199_v0,aq,(.dat Ty.bool),(az (by kernel_rfl)),?_⟩
  ·rw[vc199_v0]
   exact(Or.inl (⟨h_xs,h⟩))
 ·obtain⟨a0,a1,rfl,rfl,h1⟩:=bu h0
  obtain⟨xs,rfl,h2⟩:=bS h1
  obtain⟨cs1,rfl,h3⟩:=bK h2
  obtain⟨rfl,h4⟩:=gD h3
  obtain⟨h_xs,hK⟩:=h4
  have h:ok (F.eg xs) (fun r=>K (dB r) []):=ak (F.lg xs h_xs) hK
  refine⟨rfl,ann199_v1,aq,(.dat Ty.bool),(az (by kernel_rfl)),?_⟩
  ·rw[vc199_v1]
   exact(Or.inr (⟨h_xs,h⟩))
def c168:Con:=⟨[.dat TVS],fun args hp K=>g1 (pD TVS) (fun row=>(Sm TVS row)/\K (dB (M.oS row)) []) args hp,.plain,false⟩
abbrev C168:Ctx:=cx [(199,c199)] 11 [] 0 false
def ann168:=an [[kp 1],[kp 4]] []
theorem vc168 (row:LV) (K:KA):vcT C168 aq ann168 f168 [.data TVS row] [] (.dat Ty.bool) K =
 (cond ((decide ((row.length:Int)<=Z4))==true) (False\/((Sm TVS row)/\K (dB (!(List.any row (fun e=>!M.aO e)))) [])) (K (dB false) [])):=by kernel_rfl
theorem con168_ok:aP P 168 c168:=aR C168 func168 (kC con199_ok kN) fun args hp K h0=>by
 obtain⟨row,rfl,rfl,h_row,hK⟩:=g1e h0
 have h:ok (F.tM row) (fun r=>K (dB r) []):=ak (F.AP row h_row) hK
 refine⟨rfl,ann168,aq,(.dat Ty.bool),(az (by kernel_rfl)),?_⟩
 ·rw[vc168]
  exact(oC h (fun _ h=>(Or.inr (⟨h_row,h⟩))) fun _ h=>h)
def c100:Con:=⟨[.dat TCS,.dat TVS],fun args hp K=>g2 (pD TCS) (pD TVS) (fun columns row=>(Sm TCS columns)/\(Sm TVS row)/\K (dB (M.bG columns row)) []) args hp,.plain,false⟩
abbrev C100:Ctx:=cx [(75,c75),(168,c168)] 51 [] 0 false
def ann100:=an [[kp 3],[kp 2097155],[kp 16],[kp 29360129],[kp 62914561],[.fixRow 6 aa,kp 29360225],[kp 562949982781441],[kp 16],[kp 29360129],[kp 16]] [[kp 0]]
abbrev s100_0 (columns:LC) (row:LV) (i0:Int) (v0:Unit):St:=⟨[(0,.data TCS columns),(22,.data TVS row),(23,dI (row.length:Int)),(24,dI i0)],[]⟩
abbrev LP100_0 (columns:LC) (row:LV) (m:Nat) (st_:St) (K:KX):Prop:=True/\bg (s100_0 columns row) Z0 (row.length:Int) (F.iC columns row) (fun v0:Unit=>True) (aU (fun v0:Unit=>True->K (.exit 0) (⟨[],[]⟩:St)) (fun q0:Unit=>K .ret (⟨[(4,dB false)],[]⟩:St))) m st_
def L100 (columns:LC) (row:LV):aX:=lp1 0 (LP100_0 columns row)
theorem vc100 (columns:LC) (row:LV) (K:KA):vcT C100 (L100 columns row) ann100 f100 [.data TCS columns,.data TVS row] [] (.dat Ty.bool) K =
 ((Sm TCS columns)/\cond ((!(M.bC columns))==false) ((Sm TVS row)/\cond ((!(M.oS row))==false) (cond (!decide ((row.length:Int)=(columns.length:Int))) (K (dB false) []) (∃m_,True/\bg (s100_0 columns row) Z0 (row.length:Int) (F.iC columns row) (fun v0:Unit=>True) (aU (fun v0:Unit=>True->K (dB true) []) (fun q0:Unit=>K (dB false) [])) m_ (s100_0 columns row Z0 ()))) (K (dB false) [])) (K (dB false) [])):=by kernel_rfl
theorem lvc100_0 (columns:LC) (row:LV)  (i0:Int) (v0:Unit) (m:Nat) (K:KX):lvT C100 (L100 columns row) ann100 f100 0 0 (s100_0 columns row i0 v0) m K =
 (cond (decide (i0<(row.length:Int))) ((0<=i0)/\(i0<(row.length:Int))/\(0<=i0)/\(i0<(columns.length:Int))/\cond ((!decide ((nV row i0).1=(nC columns i0).1))==true) (cond ((!decide ((nV row i0).1=Z0))==false) ((0<=i0)/\(i0<(columns.length:Int))/\cond (!(nC columns i0).2.1) (K .ret (⟨[(4,dB false)],[]⟩:St)) (nxT (LP100_0 columns row) m K (s100_0 columns row (wrap64 (i0+Z1)) ()))) (K .ret (⟨[(4,dB false)],[]⟩:St))) (nxT (LP100_0 columns row) m K (s100_0 columns row (wrap64 (i0+Z1)) ()))) (K (.exit 0) (⟨[],[]⟩:St))):=by kernel_rfl
theorem con100_ok:aP P 100 c100:=aR C100 func100 (kC con75_ok (kC con168_ok kN)) fun args hp K h0=>by
 obtain⟨columns,row,rfl,rfl,h_columns,h_row,hK⟩:=g2e h0
 have h:ok (F.qm columns row) (fun r=>K (dB r) []):=ak (F.yj columns row h_columns h_row) hK
 refine⟨rfl,ann100,(L100 columns row),(.dat Ty.bool),(aL (i0:=0) (by kernel_rfl) ?_),?_⟩
 ·rintro _ _ K ⟨hc0,i0,v0,rfl,hl0,rfl,hv0,h⟩
  exact cast (lvc100_0 _ _ _ _ _ _).symm (aM h (fun ht0 h=>⟨hl0,⟨ht0,⟨hl0,(oG h fun g1 h=>(oC h (fun _ h=>(oC h (fun _ h=>⟨hl0,⟨g1,(oC h (fun _ h=>h) fun _ h=>(aG (fun _ hm=>⟨hc0,hm⟩) _ rfl hl0 dS ht0 (aS h_row) trivial h))⟩⟩) fun _ h=>h)) fun _ h=>(aG (fun _ hm=>⟨hc0,hm⟩) _ rfl hl0 dS ht0 (aS h_row) trivial h)))⟩⟩⟩) fun h=>(h trivial))
 ·rw[vc100]
  exact⟨h_columns,(oC h (fun _ h=>⟨h_row,(oC h (fun _ h=>(oC h (fun _ h=>h) fun _ h=>(aE (fun m hm=>⟨trivial,hm⟩) Z0 _ rfl (Int.natCast_nonneg 0) trivial (aI h (fun v0 h hv0=>h) (fun q0 h=>h))))) fun _ h=>h)⟩) fun _ h=>h)⟩
def c139:Con:=⟨[.dat TVS,.any],fun args hp K=>g2 (pD TVS) (pR TCS) (fun r columns=>(Sm TVS r)/\(Sm TCS columns)/\K (dB (!M.bG columns r)) []) args hp,.plain,false⟩
abbrev C139:Ctx:=cx [(100,c100)] 8 [] 0 false
def ann139:=an [[kp 3],[kp 8]] []
theorem vc139 (r:LV) (columns:LC) (K:KA):vcT C139 aq ann139 f139 [.data TVS r,.ref (.data TCS columns)] [] (.dat Ty.bool) K =
 ((Sm TCS columns)/\(Sm TVS r)/\K (dB (!(M.bG columns r))) []):=by kernel_rfl
theorem con139_ok:aP P 139 c139:=aR C139 func139 (kC con100_ok kN) fun args hp K h0=>by
 obtain⟨r,columns,rfl,rfl,h_r,h_columns,hK⟩:=g2e h0
 have h:ok (F.tc r columns) (fun r=>K (dB r) []):=ak (F.xd r columns h_r h_columns) hK
 refine⟨rfl,ann139,aq,(.dat Ty.bool),(az (by kernel_rfl)),?_⟩
 ·rw[vc139]
  exact⟨h_columns,⟨h_r,h⟩⟩
def c158:Con:=⟨[.lent aa,.lent aa],fun args hp K=>g2 (pB aa) (pB aa) (fun xs ys=>(Sm TVS xs)/\(Sm TVS ys)/\K (dB (decide (xs=ys))) []) args hp,.plain,false⟩
abbrev C158:Ctx:=cx [] 26 [] 0 false
def ann158:=an [[kp 3],[kp 1027],[kp 16],[kp 12291],[kp 28675],[kp 12323],[kp 16789507],[kp 16],[kp 12291],[kp 16]] [[kp 0]]
abbrev s158_0 (xs:LV) (ys:LV) (i0:Int) (v0:Unit):St:=⟨[(0,.brw aa xs),(1,.brw aa ys),(12,dI (xs.length:Int)),(13,dI i0)],[]⟩
abbrev LP158_0 (xs:LV) (ys:LV) (m:Nat) (st_:St) (K:KX):Prop:=True/\bg (s158_0 xs ys) Z0 (xs.length:Int) (F.iM xs ys) (fun v0:Unit=>True) (aU (fun v0:Unit=>True->K (.exit 0) (⟨[],[]⟩:St)) (fun q0:Unit=>K .ret (⟨[(4,dB false)],[]⟩:St))) m st_
def L158 (xs:LV) (ys:LV):aX:=lp1 0 (LP158_0 xs ys)
theorem vc158 (xs:LV) (ys:LV) (K:KA):vcT C158 (L158 xs ys) ann158 f158 [.brw aa xs,.brw aa ys] [] (.dat Ty.bool) K =
 (cond (!decide ((xs.length:Int)=(ys.length:Int))) (K (dB false) []) (∃m_,True/\bg (s158_0 xs ys) Z0 (xs.length:Int) (F.iM xs ys) (fun v0:Unit=>True) (aU (fun v0:Unit=>True->K (dB true) []) (fun q0:Unit=>K (dB false) [])) m_ (s158_0 xs ys Z0 ()))):=by kernel_rfl
theorem lvc158_0 (xs:LV) (ys:LV)  (i0:Int) (v0:Unit) (m:Nat) (K:KX):lvT C158 (L158 xs ys) ann158 f158 0 0 (s158_0 xs ys i0 v0) m K =
 (cond (decide (i0<(xs.length:Int))) ((0<=i0)/\(i0<(xs.length:Int))/\(0<=i0)/\(i0<(ys.length:Int))/\cond (!(Ty.beq aa (nV xs i0) (nV ys i0))) (K .ret (⟨[(4,dB false)],[]⟩:St)) (nxT (LP158_0 xs ys) m K (s158_0 xs ys (wrap64 (i0+Z1)) ()))) (K (.exit 0) (⟨[],[]⟩:St))):=by kernel_rfl
theorem con158_ok:aP P 158 c158:=aR C158 func158 kN fun args hp K h0=>by
 obtain⟨xs,ys,rfl,rfl,h_xs,h_ys,hK⟩:=g2e h0
 have h:ok (F.uT xs ys) (fun r=>K (dB r) []):=ak (F.ye xs ys h_xs h_ys) hK
 refine⟨rfl,ann158,(L158 xs ys),(.dat Ty.bool),(aL (i0:=0) (by kernel_rfl) ?_),?_⟩
 ·rintro _ _ K ⟨hc0,i0,v0,rfl,hl0,rfl,hv0,h⟩
  exact cast (lvc158_0 _ _ _ _ _ _).symm (aM h (fun ht0 h=>⟨hl0,⟨ht0,⟨hl0,(oG h fun _ h=>(oC h (fun _ h=>h) fun _ h=>(aG (fun _ hm=>⟨hc0,hm⟩) _ rfl hl0 dS ht0 (aS h_xs) trivial h)))⟩⟩⟩) fun h=>(h trivial))
 ·rw[vc158]
  exact(oC h (fun _ h=>h) fun _ h=>(aE (fun m hm=>⟨trivial,hm⟩) Z0 _ rfl (Int.natCast_nonneg 0) trivial (aI h (fun v0 h hv0=>h) (fun q0 h=>h))))
def c191:Con:=⟨[.dat TVS,.any],fun args hp K=>g2 (pD TVS) (pR TVS) (fun r row=>(Sm TVS r)/\(Sm TVS row)/\K (dB (decide (r=row))) []) args hp,.plain,false⟩
abbrev C191:Ctx:=cx [(158,c158)] 7 [] 0 false
def ann191:=an [[kp 3],[kp 8]] []
theorem vc191 (r:LV) (row:LV) (K:KA):vcT C191 aq ann191 f191 [.data TVS r,.ref (.data TVS row)] [] (.dat Ty.bool) K =
 ((Sm TVS r)/\(Sm TVS row)/\K (dB (decide (r=row))) []):=by kernel_rfl
theorem con191_ok:aP P 191 c191:=aR C191 func191 (kC con158_ok kN) fun args hp K h0=>by
 obtain⟨r,row,rfl,rfl,h_r,h_row,hK⟩:=g2e h0
 have h:ok (F.ug r row) (fun r=>K (dB r) []):=ak (F.yD r row h_r h_row) hK
 refine⟨rfl,ann191,aq,(.dat Ty.bool),(az (by kernel_rfl)),?_⟩
 ·rw[vc191]
  exact⟨h_r,⟨h_row,h⟩⟩
abbrev C192:Ctx:=cx [] 9 [] 400000 true
def T192:Inl:=vW C192 (fun _=>[]) (dL f192) f192.results.toList
theorem inlOk192:vL P 192 T192:=CB C192 func192 kN
def c134:Con:=⟨[.dat TVS],fun args hp K=>g1 (pD TVS) (fun xs=>(Sm TVS xs)/\(LD xs fun r=>K (.clp 0 (r.length:Int)) [(0,.arr .sh aa r)])) args hp,.bor,false⟩
abbrev C134:Ctx:=cx [] 9 [(192,T192)] 0 true
def ann134:=an [[kp 1],[kp 33],[.clip 2,kp 4],[kp 4]] []
theorem vc134 (xs:LV) (K:KA):vcT C134 aq ann134 f134 [.data TVS xs] [] .raw K =
 (cond (decide ((xs.length:Int)=Z0)) (K (.clp 0 (([]:List aa.D).length:Int)) [(0,.arr .sh aa ([]:List aa.D))]) ((xs.length * 32<=lim)/\(0<=Z0)/\(Z0<=(xs.length:Int))/\((xs.length:Int)<=(xs.length:Int))/\((xs.length:Int)=(xs.length:Int))/\(Z0=0)/\K (.clp 0 ((xs.take (xs.length:Int).toNat).length:Int)) [(0,.arr .sh aa (xs.take (xs.length:Int).toNat))])):=by kernel_rfl
theorem con134_ok:aP P 134 c134:=aR C134 func134 (kI inlOk192 kN) fun args hp K h0=>by
 obtain⟨xs,rfl,rfl,h_xs,hK⟩:=g1e h0
 have h:ok (F.uG xs) (fun r=>K (.clp 0 (r.length:Int)) [(0,.arr .sh aa r)]):=ak (F.yG xs h_xs) (hK _ rfl)
 refine⟨rfl,ann134,aq,.raw,(az (by kernel_rfl)),?_⟩
 ·rw[vc134]
  exact(oC h (fun _ h=>h) fun _ h=>⟨(Ec h_xs rfl),⟨(Int.natCast_nonneg 0),⟨(Int.natCast_nonneg _),⟨(Int.le_refl _),⟨rfl,⟨rfl,h⟩⟩⟩⟩⟩⟩)
def c198:Con:=⟨[.dat TVS,.dat (Ty.sl au)],fun args hp K=>g2 (pD TVS) (pD (Ty.sl au)) (fun row list=>(Sm TVS row)/\(Sm (Ty.sl au) list)/\(M.eJ row list)/\(LD (M.taken row list) fun r=>K (.data TVS r) [])) args hp,.plain,false⟩
abbrev C198:Ctx:=cx [(134,c134)] 24 [] 0 false
def ann198:=an [[kp 3],[kp 35],[kp 1825],[kp 3873],[kp 1953],[kp 1825],[kp 1825],[.freeze 23,kp 16]] [[kp 32]]
abbrev s198_0 (row:LV) (list:LI) (i0:Int) (v0:LV):St:=⟨[(0,.data TVS row),(5,.own 5 none),(8,.data (Ty.sl au) list),(9,dI (list.length:Int)),(10,dI i0)],[(5,.arr .sh aa v0)]⟩
abbrev LP198_0 (row:LV) (list:LI) (m:Nat) (st_:St) (K:KX):Prop:=True/\bO (t:=au) (s198_0 row list) list (F.ko row list) (fun v0:LV=>True) (aU (fun v0:LV=>True->K (.exit 0) (⟨[(5,.own 5 none)],[(5,.arr .sh aa v0)]⟩:St)) (fun _=>False)) m st_
def L198 (row:LV) (list:LI):aX:=lp1 0 (LP198_0 row list)
theorem vc198 (row:LV) (list:LI) (K:KA):vcT C198 (L198 row list) ann198 f198 [.data TVS row,.data (Ty.sl au) list] [] (.dat TVS) K =
 (∃m_,True/\bO (t:=au) (s198_0 row list) list (F.ko row list) (fun v0:LV=>True) (aU (fun v0:LV=>True->(Sm TVS v0)/\(LD v0 fun r1=>K (.data TVS (aB r1 (some (Z0,(r1.length:Int))))) [])) (fun _=>False)) m_ (s198_0 row list Z0 [])):=by kernel_rfl
theorem lvc198_0 (row:LV) (list:LI)  (i0:Int) (v0:LV) (m:Nat) (K:KX):lvT C198 (L198 row list) ann198 f198 0 0 (s198_0 row list i0 v0) m K =
 (cond (decide (i0<(list.length:Int))) ((0<=i0)/\(i0<(list.length:Int))/\(0<=(nI list i0))/\((nI list i0)<(row.length:Int))/\((v0.length+[(nV row (nI list i0))].length) * 32<=lim)/\(nxT (LP198_0 row list) m K (s198_0 row list (wrap64 (i0+Z1)) (v0++[(nV row (nI list i0))])))) (K (.exit 0) (⟨[(5,.own 5 none)],[(5,.arr .sh aa v0)]⟩:St))):=by kernel_rfl
theorem con198_ok:aP P 198 c198:=aR C198 func198 (kC con134_ok kN) fun args hp K h0=>by
 obtain⟨row,list,rfl,rfl,h_row,h_list,p0,hK⟩:=g2e h0
 have h:ok (F.tP row list) (fun r=>K (.data TVS r) []):=ak (F.AY row list h_row h_list p0) (hK _ rfl)
 refine⟨rfl,ann198,(L198 row list),(.dat TVS),(aL (i0:=0) (by kernel_rfl) ?_),?_⟩
 ·rintro _ _ K ⟨hc0,i0,v0,rfl,hl0,rfl,hv0,h⟩
  exact cast (lvc198_0 _ _ _ _ _ _).symm (bw (t:=au) hl0 h (fun ht0 h=>⟨hl0,⟨ht0,(oG h fun _ h=>(oG h fun _ h=>(oG h fun _ h=>(br (t:=au) (fun _ hm=>⟨hc0,hm⟩) _ rfl hl0 ht0 (aS h_list) trivial h))))⟩⟩) fun h=>(h trivial))
 ·rw[vc198]
  exact(bp (t:=au) (fun m hm=>⟨trivial,hm⟩) _ rfl trivial (aI h (fun v0 h hv0=>(oG h fun _ h=>(oL h fun _ _ h=>h))) (fun _ h=>h.elim)))
def c202:Con:=⟨[.dat TVS,.any,.any],fun args hp K=>g3 (pD TVS) (pR (Ty.sl au)) (pR TVS) (fun r list key=>(Sm TVS r)/\(Sm (Ty.sl au) list)/\(Sm TVS key)/\(M.eJ r list)/\K (dB (decide (M.taken r list=key))) []) args hp,.plain,false⟩
abbrev C202:Ctx:=cx [(158,c158),(198,c198)] 10 [] 0 false
def ann202:=an [[kp 7],[kp 16]] []
theorem vc202 (r:LV) (list:LI) (key:LV) (K:KA):vcT C202 aq ann202 f202 [.data TVS r,.ref (.data (Ty.sl au) list),.ref (.data TVS key)] [] (.dat Ty.bool) K =
 ((Sm TVS r)/\(Sm (Ty.sl au) list)/\(M.eJ r list)/\(LD (M.taken r list) fun r1=>(Sm TVS r1)/\(Sm TVS key)/\K (dB (decide (r1=key))) [])):=by kernel_rfl
theorem con202_ok:aP P 202 c202:=aR C202 func202 (kC con158_ok (kC con198_ok kN)) fun args hp K h0=>by
 obtain⟨r,list,key,rfl,rfl,h_r,h_list,h_key,p0,hK⟩:=g3e h0
 have h:ok (F.kF r list key) (fun r=>K (dB r) []):=ak (F.oB r list key h_r h_list h_key p0) hK
 refine⟨rfl,ann202,aq,(.dat Ty.bool),(az (by kernel_rfl)),?_⟩
 ·rw[vc202]
  exact⟨h_r,⟨h_list,⟨p0,(oL h fun _ er1 h=>⟨(gG er1 (M.fS h_r h_list)),⟨h_key,h⟩⟩)⟩⟩⟩
def c190:Con:=⟨[.lent TVS,.any],fun args hp K=>(args2 (fun a0 a1=>iu TVS a0 fun xs=>gj 191 a1 (nt (fun b1_0=>kQ TVS b1_0 fun k0=>(Sm (Ty.sl TVS) xs)/\(Sm TVS k0)/\K (dI (M.idx (t:=TVS) (fun e=>decide (e=k0)) xs)) []))) args hp)\/(args2 (fun a0 a1=>iu TVS a0 fun xs=>gj 139 a1 (nt (fun b1_0=>kQ TCS b1_0 fun k0=>(Sm (Ty.sl TVS) xs)/\(Sm TCS k0)/\K (dI (M.idx (t:=TVS) (fun e=>!M.bG k0 e) xs)) []))) args hp)\/(args2 (fun a0 a1=>iu TVS a0 fun xs=>gj 202 a1 (Fk (fun b1_0 b1_1=>kQ (Ty.sl au) b1_0 fun k0=>kQ TVS b1_1 fun k1=>(Sm (Ty.sl TVS) xs)/\(Sm (Ty.sl au) k0)/\(Sm TVS k1)/\(∀e∈xs,M.eJ e k0)/\K (dI (M.idx (t:=TVS) (fun e=>decide (M.taken e k0=k1)) xs)) []))) args hp),.plain,false⟩
abbrev C190:Ctx:=cx [(139,c139),(191,c191),(202,c202)] 19 [] 0 false
def ann190_v0:=an [[kp 3],[kp 387],[kp 899],[kp 419],[kp 65955],[kp 16],[kp 387],[kp 16]] [[kp 0]]
abbrev s190_0_v0 (xs:(List LV)) (k0:LV) (i0:Int) (v0:Unit):St:=⟨[(0,.brw TVS xs),(1,.fn 191 [.ref (.data TVS k0)]),(7,dI (xs.length:Int)),(8,dI i0)],[]⟩
abbrev LP190_0_v0 (xs:(List LV)) (k0:LV) (m:Nat) (st_:St) (K:KX):Prop:=True/\bg (s190_0_v0 xs k0) Z0 (xs.length:Int) (F.cY xs k0) (fun v0:Unit=>True) (aU (fun v0:Unit=>True->K (.exit 0) (⟨[],[]⟩:St)) (fun q0:Int=>K .ret (⟨[(4,dI q0)],[]⟩:St))) m st_
def L190_v0 (xs:(List LV)) (k0:LV):aX:=lp1 0 (LP190_0_v0 xs k0)
theorem vc190_v0 (xs:(List LV)) (k0:LV) (K:KA):vcT C190 (L190_v0 xs k0) ann190_v0 f190 [.brw TVS xs,.fn 191 [.ref (.data TVS k0)]] [] (.dat au) K =
 (∃m_,True/\bg (s190_0_v0 xs k0) Z0 (xs.length:Int) (F.cY xs k0) (fun v0:Unit=>True) (aU (fun v0:Unit=>True->K (dI (-1:Int)) []) (fun q0:Int=>K (dI q0) [])) m_ (s190_0_v0 xs k0 Z0 ())):=by kernel_rfl
theorem lvc190_0_v0 (xs:(List LV)) (k0:LV)  (i0:Int) (v0:Unit) (m:Nat) (K:KX):lvT C190 (L190_v0 xs k0) ann190_v0 f190 0 0 (s190_0_v0 xs k0 i0 v0) m K =
 (cond (decide (i0<(xs.length:Int))) ((0<=i0)/\(i0<(xs.length:Int))/\(Sm TVS (nth (t:=TVS) xs i0))/\(Sm TVS k0)/\cond (decide ((nth (t:=TVS) xs i0)=k0)) (K .ret (⟨[(4,dI i0)],[]⟩:St)) (nxT (LP190_0_v0 xs k0) m K (s190_0_v0 xs k0 (wrap64 (i0+Z1)) ()))) (K (.exit 0) (⟨[],[]⟩:St))):=by kernel_rfl
def ann190_v1:=an [[kp 3],[kp 387],[kp 899],[kp 419],[kp 65955],[kp 16],[kp 387],[kp 16]] [[kp 0]]
abbrev s190_0_v1 (xs:(List LV)) (k0:LC) (i0:Int) (v0:Unit):St:=⟨[(0,.brw TVS xs),(1,.fn 139 [.ref (.data TCS k0)]),(7,dI (xs.length:Int)),(8,dI i0)],[]⟩
abbrev LP190_0_v1 (xs:(List LV)) (k0:LC) (m:Nat) (st_:St) (K:KX):Prop:=True/\bg (s190_0_v1 xs k0) Z0 (xs.length:Int) (F.cQ xs k0) (fun v0:Unit=>True) (aU (fun v0:Unit=>True->K (.exit 0) (⟨[],[]⟩:St)) (fun q0:Int=>K .ret (⟨[(4,dI q0)],[]⟩:St))) m st_
def L190_v1 (xs:(List LV)) (k0:LC):aX:=lp1 0 (LP190_0_v1 xs k0)
theorem vc190_v1 (xs:(List LV)) (k0:LC) (K:KA):vcT C190 (L190_v1 xs k0) ann190_v1 f190 [.brw TVS xs,.fn 139 [.ref (.data TCS k0)]] [] (.dat au) K =
 (∃m_,True/\bg (s190_0_v1 xs k0) Z0 (xs.length:Int) (F.cQ xs k0) (fun v0:Unit=>True) (aU (fun v0:Unit=>True->K (dI (-1:Int)) []) (fun q0:Int=>K (dI q0) [])) m_ (s190_0_v1 xs k0 Z0 ())):=by kernel_rfl
theorem lvc190_0_v1 (xs:(List LV)) (k0:LC)  (i0:Int) (v0:Unit) (m:Nat) (K:KX):lvT C190 (L190_v1 xs k0) ann190_v1 f190 0 0 (s190_0_v1 xs k0 i0 v0) m K =
 (cond (decide (i0<(xs.length:Int))) ((0<=i0)/\(i0<(xs.length:Int))/\(Sm TVS (nth (t:=TVS) xs i0))/\(Sm TCS k0)/\cond (!M.bG k0 (nth (t:=TVS) xs i0)) (K .ret (⟨[(4,dI i0)],[]⟩:St)) (nxT (LP190_0_v1 xs k0) m K (s190_0_v1 xs k0 (wrap64 (i0+Z1)) ()))) (K (.exit 0) (⟨[],[]⟩:St))):=by kernel_rfl
def ann190_v2:=an [[kp 3],[kp 387],[kp 899],[kp 419],[kp 65955],[kp 16],[kp 387],[kp 16]] [[kp 0]]
abbrev s190_0_v2 (xs:(List LV)) (k0:LI) (k1:LV) (i0:Int) (v0:Unit):St:=⟨[(0,.brw TVS xs),(1,.fn 202 [.ref (.data (Ty.sl au) k0),.ref (.data TVS k1)]),(7,dI (xs.length:Int)),(8,dI i0)],[]⟩
abbrev LP190_0_v2 (xs:(List LV)) (k0:LI) (k1:LV) (m:Nat) (st_:St) (K:KX):Prop:=True/\bg (s190_0_v2 xs k0 k1) Z0 (xs.length:Int) (F.bV xs k0 k1) (fun v0:Unit=>True) (aU (fun v0:Unit=>True->K (.exit 0) (⟨[],[]⟩:St)) (fun q0:Int=>K .ret (⟨[(4,dI q0)],[]⟩:St))) m st_
def L190_v2 (xs:(List LV)) (k0:LI) (k1:LV):aX:=lp1 0 (LP190_0_v2 xs k0 k1)
theorem vc190_v2 (xs:(List LV)) (k0:LI) (k1:LV) (K:KA):vcT C190 (L190_v2 xs k0 k1) ann190_v2 f190 [.brw TVS xs,.fn 202 [.ref (.data (Ty.sl au) k0),.ref (.data TVS k1)]] [] (.dat au) K =
 (∃m_,True/\bg (s190_0_v2 xs k0 k1) Z0 (xs.length:Int) (F.bV xs k0 k1) (fun v0:Unit=>True) (aU (fun v0:Unit=>True->K (dI (-1:Int)) []) (fun q0:Int=>K (dI q0) [])) m_ (s190_0_v2 xs k0 k1 Z0 ())):=by kernel_rfl
theorem lvc190_0_v2 (xs:(List LV)) (k0:LI) (k1:LV)  (i0:Int) (v0:Unit) (m:Nat) (K:KX):lvT C190 (L190_v2 xs k0 k1) ann190_v2 f190 0 0 (s190_0_v2 xs k0 k1 i0 v0) m K =
 (cond (decide (i0<(xs.length:Int))) ((0<=i0)/\(i0<(xs.length:Int))/\(Sm TVS (nth (t:=TVS) xs i0))/\(Sm (Ty.sl au) k0)/\(Sm TVS k1)/\(M.eJ (nth (t:=TVS) xs i0) k0)/\cond (decide (M.taken (nth (t:=TVS) xs i0) k0=k1)) (K .ret (⟨[(4,dI i0)],[]⟩:St)) (nxT (LP190_0_v2 xs k0 k1) m K (s190_0_v2 xs k0 k1 (wrap64 (i0+Z1)) ()))) (K (.exit 0) (⟨[],[]⟩:St))):=by kernel_rfl
theorem con190_ok:aP P 190 c190:=aR C190 func190 (kC con139_ok (kC con191_ok (kC con202_ok kN))) fun args hp K h0=>by
 rcases h0 with h0 | h0 | h0
 ·obtain⟨a0,a1,rfl,rfl,h1⟩:=bu h0
  obtain⟨xs,rfl,h2⟩:=bS h1
  obtain⟨cs1,rfl,h3⟩:=bK h2
  obtain⟨b1_0,rfl,h4⟩:=dM h3
  obtain⟨k0,rfl,h5⟩:=cK h4
  obtain⟨h_xs,h_k0,hK⟩:=h5
  have h:ok (F.jq xs k0) (fun r=>K (dI r) []):=ak (F.mY xs k0 h_xs h_k0) hK
  refine⟨rfl,ann190_v0,(L190_v0 xs k0),(.dat au),(aL (i0:=0) (by kernel_rfl) ?_),?_⟩
  ·rintro _ _ K ⟨hc0,i0,v0,rfl,hl0,rfl,hv0,h⟩
   exact cast (lvc190_0_v0 _ _ _ _ _ _).symm (aM h (fun ht0 h=>⟨hl0,⟨ht0,⟨(ay h_xs i0),⟨h_k0,(oC h (fun _ h=>h) fun _ h=>(aG (fun _ hm=>⟨hc0,hm⟩) _ rfl hl0 dS ht0 (aS h_xs) trivial h))⟩⟩⟩⟩) fun h=>(h trivial))
  ·rw[vc190_v0]
   exact(aE (fun m hm=>⟨trivial,hm⟩) Z0 _ rfl (Int.natCast_nonneg 0) trivial (aI h (fun v0 h hv0=>h) (fun q0 h=>h)))
 ·obtain⟨a0,a1,rfl,rfl,h1⟩:=bu h0
  obtain⟨xs,rfl,h2⟩:=bS h1
  obtain⟨cs1,rfl,h3⟩:=bK h2
  obtain⟨b1_0,rfl,h4⟩:=dM h3
  obtain⟨k0,rfl,h5⟩:=cK h4
  obtain⟨h_xs,h_k0,hK⟩:=h5
  have h:ok (F.iW xs k0) (fun r=>K (dI r) []):=ak (F.mQ xs k0 h_xs h_k0) hK
  refine⟨rfl,ann190_v1,(L190_v1 xs k0),(.dat au),(aL (i0:=0) (by kernel_rfl) ?_),?_⟩
  ·rintro _ _ K ⟨hc0,i0,v0,rfl,hl0,rfl,hv0,h⟩
   exact cast (lvc190_0_v1 _ _ _ _ _ _).symm (aM h (fun ht0 h=>⟨hl0,⟨ht0,⟨(ay h_xs i0),⟨h_k0,(oC h (fun _ h=>h) fun _ h=>(aG (fun _ hm=>⟨hc0,hm⟩) _ rfl hl0 dS ht0 (aS h_xs) trivial h))⟩⟩⟩⟩) fun h=>(h trivial))
  ·rw[vc190_v1]
   exact(aE (fun m hm=>⟨trivial,hm⟩) Z0 _ rfl (Int.natCast_nonneg 0) trivial (aI h (fun v0 h hv0=>h) (fun q0 h=>h)))
 ·obtain⟨a0,a1,rfl,rfl,h1⟩:=bu h0
  obtain⟨xs,rfl,h2⟩:=bS h1
  obtain⟨cs1,rfl,h3⟩:=bK h2
  obtain⟨b1_0,b1_1,rfl,h4⟩:=zG h3
  obtain⟨k0,rfl,h5⟩:=cK h4
  obtain⟨k1,rfl,h6⟩:=cK h5
  obtain⟨h_xs,h_k0,h_k1,p0,hK⟩:=h6
  have h:ok (F.fy xs k0 k1) (fun r=>K (dI r) []):=ak (F.jh xs k0 k1 h_xs h_k0 h_k1 p0) hK
  refine⟨rfl,ann190_v2,(L190_v2 xs k0 k1),(.dat au),(aL (i0:=0) (by kernel_rfl) ?_),?_⟩
  ·rintro _ _ K ⟨hc0,i0,v0,rfl,hl0,rfl,hv0,h⟩
   exact cast (lvc190_0_v2 _ _ _ _ _ _ _).symm (aM h (fun ht0 h=>⟨hl0,⟨ht0,⟨(ay h_xs i0),⟨h_k0,⟨h_k1,(oG h fun _ h=>(oC h (fun _ h=>h) fun _ h=>(aG (fun _ hm=>⟨hc0,hm⟩) _ rfl hl0 dS ht0 (aS h_xs) trivial h)))⟩⟩⟩⟩⟩) fun h=>(h trivial))
  ·rw[vc190_v2]
   exact(aE (fun m hm=>⟨trivial,hm⟩) Z0 _ rfl (Int.natCast_nonneg 0) trivial (aI h (fun v0 h hv0=>h) (fun q0 h=>h)))
def c138:Con:=⟨[.lent TVS,.any],fun args hp K=>(args2 (fun a0 a1=>iu TVS a0 fun xs=>gj 139 a1 (nt (fun b1_0=>kQ TCS b1_0 fun k0=>(Sm (Ty.sl TVS) xs)/\(Sm TCS k0)/\K (dB (List.any xs (fun e=>!M.bG k0 e))) []))) args hp)\/(args2 (fun a0 a1=>iu TVS a0 fun xs=>gj 202 a1 (Fk (fun b1_0 b1_1=>kQ (Ty.sl au) b1_0 fun k0=>kQ TVS b1_1 fun k1=>(Sm (Ty.sl TVS) xs)/\(Sm (Ty.sl au) k0)/\(Sm TVS k1)/\(∀e∈xs,M.eJ e k0)/\K (dB (List.any xs (fun e=>decide (M.taken e k0=k1)))) []))) args hp),.plain,false⟩
abbrev C138:Ctx:=cx [(139,c139),(190,c190),(202,c202)] 9 [] 0 false
def ann138_v0:=an [[kp 3],[kp 16]] []
theorem vc138_v0 (xs:(List LV)) (k0:LC) (K:KA):vcT C138 aq ann138_v0 f138 [.brw TVS xs,.fn 139 [.ref (.data TCS k0)]] [] (.dat Ty.bool) K =
 (False\/((Sm (Ty.sl TVS) xs)/\(Sm TCS k0)/\K (dB (decide (Z0<=(M.idx (t:=TVS) (fun e=>!M.bG k0 e) xs)))) [])\/False):=by kernel_rfl
def ann138_v1:=an [[kp 3],[kp 16]] []
theorem vc138_v1 (xs:(List LV)) (k0:LI) (k1:LV) (K:KA):vcT C138 aq ann138_v1 f138 [.brw TVS xs,.fn 202 [.ref (.data (Ty.sl au) k0),.ref (.data TVS k1)]] [] (.dat Ty.bool) K =
 (False\/False\/((Sm (Ty.sl TVS) xs)/\(Sm (Ty.sl au) k0)/\(Sm TVS k1)/\(∀e∈xs,M.eJ e k0)/\K (dB (decide (Z0<=(M.idx (t:=TVS) (fun e=>decide (M.taken e k0=k1)) xs)))) [])):=by kernel_rfl
theorem con138_ok:aP P 138 c138:=aR C138 func138 (kC con139_ok (kC con190_ok (kC con202_ok kN))) fun args hp K h0=>by
 rcases h0 with h0 | h0
 ·obtain⟨a0,a1,rfl,rfl,h1⟩:=bu h0
  obtain⟨xs,rfl,h2⟩:=bS h1
  obtain⟨cs1,rfl,h3⟩:=bK h2
  obtain⟨b1_0,rfl,h4⟩:=dM h3
  obtain⟨k0,rfl,h5⟩:=cK h4
  obtain⟨h_xs,h_k0,hK⟩:=h5
  have h:ok (F.dV xs k0) (fun r=>K (dB r) []):=ak (F.kJ xs k0 h_xs h_k0) hK
  refine⟨rfl,ann138_v0,aq,(.dat Ty.bool),(az (by kernel_rfl)),?_⟩
  ·rw[vc138_v0]
   exact(Or.inr (Or.inl (⟨h_xs,⟨h_k0,h⟩⟩)))
 ·obtain⟨a0,a1,rfl,rfl,h1⟩:=bu h0
  obtain⟨xs,rfl,h2⟩:=bS h1
  obtain⟨cs1,rfl,h3⟩:=bK h2
  obtain⟨b1_0,b1_1,rfl,h4⟩:=zG h3
  obtain⟨k0,rfl,h5⟩:=cK h4
  obtain⟨k1,rfl,h6⟩:=cK h5
  obtain⟨h_xs,h_k0,h_k1,p0,hK⟩:=h6
  have h:ok (F.cO xs k0 k1) (fun r=>K (dB r) []):=ak (F.hU xs k0 k1 h_xs h_k0 h_k1 p0) hK
  refine⟨rfl,ann138_v1,aq,(.dat Ty.bool),(az (by kernel_rfl)),?_⟩
  ·rw[vc138_v1]
   exact(Or.inr (Or.inr (⟨h_xs,⟨h_k0,⟨h_k1,⟨p0,h⟩⟩⟩⟩)))
def c76:Con:=⟨[.dat TCS,.dat (Ty.sl TVS)],fun args hp K=>g2 (pD TCS) (pD (Ty.sl TVS)) (fun columns rows=>(Sm TCS columns)/\(Sm (Ty.sl TVS) rows)/\K (dB (M.fX columns rows)) []) args hp,.plain,false⟩
abbrev C76:Ctx:=cx [(75,c75),(138,c138),(139,c139)] 13 [] 0 false
def ann76:=an [[.fixBox 2,kp 6],[kp 16]] []
theorem vc76 (columns:LC) (rows:(List LV)) (K:KA):vcT C76 aq ann76 f76 [.data TCS columns,.data (Ty.sl TVS) rows] [] (.dat Ty.bool) K =
 ((Sm TCS columns)/\cond ((M.bC columns)==true) (((Sm (Ty.sl TVS) rows)/\(Sm TCS columns)/\K (dB (!(List.any rows (fun e=>!M.bG columns e)))) [])\/False) (K (dB false) [])):=by kernel_rfl
theorem con76_ok:aP P 76 c76:=aR C76 func76 (kC con75_ok (kC con138_ok (kC con139_ok kN))) fun args hp K h0=>by
 obtain⟨columns,rows,rfl,rfl,h_columns,h_rows,hK⟩:=g2e h0
 have h:ok (F.rO columns rows) (fun r=>K (dB r) []):=ak (F.Ab columns rows h_columns h_rows) hK
 refine⟨rfl,ann76,aq,(.dat Ty.bool),(az (by kernel_rfl)),?_⟩
 ·rw[vc76]
  exact⟨h_columns,(oC h (fun _ h=>(Or.inl (⟨h_rows,⟨h_columns,h⟩⟩))) fun _ h=>h)⟩
def c74:Con:=⟨[.dat TTable],fun args hp K=>g1 (pD TTable) (fun t=>(Sm TTable t)/\K (dB (!M.cN t)) []) args hp,.plain,false⟩
abbrev C74:Ctx:=cx [(75,c75),(76,c76)] 21 [] 0 false
def ann74:=an [[.fixRow 1 TTable,kp 2],[kp 4]] []
theorem vc74 (t:TTable.D) (K:KA):vcT C74 aq ann74 f74 [.data TTable t] [] (.dat Ty.bool) K =
 ((Sm TCS t.1)/\cond ((!(M.bC t.1))==false) (cond ((decide (Z6<(t.2.1.length:Int)))==false) ((Sm TCS t.1)/\(Sm (Ty.sl TVS) t.2.1)/\K (dB (!(M.fX t.1 t.2.1))) []) (K (dB true) [])) (K (dB true) [])):=by kernel_rfl
theorem con74_ok:aP P 74 c74:=aR C74 func74 (kC con75_ok (kC con76_ok kN)) fun args hp K h0=>by
 obtain⟨t,rfl,rfl,h_t,hK⟩:=g1e h0
 have h:ok (F.lq t) (fun r=>K (dB r) []):=ak (F.tY t h_t) hK
 refine⟨rfl,ann74,aq,(.dat Ty.bool),(az (by kernel_rfl)),?_⟩
 ·rw[vc74]
  exact⟨h_t.1,(oC h (fun _ h=>(oC h (fun _ h=>⟨h_t.1,⟨h_t.2.1,h⟩⟩) fun _ h=>h)) fun _ h=>h)⟩
def c135:Con:=⟨[.lent TTable,.any],fun args hp K=>args2 (fun a0 a1=>iu TTable a0 fun xs=>gj 74 a1 (sU ((Sm TTb xs)/\K (dI (M.idx (t:=TTable) (fun e=>!M.cN e) xs)) []))) args hp,.plain,false⟩
abbrev C135:Ctx:=cx [(74,c74)] 19 [] 0 false
def ann135:=an [[kp 3],[kp 387],[kp 899],[kp 419],[kp 65955],[kp 16],[kp 387],[kp 16]] [[kp 0]]
abbrev s135_0 (xs:LTb) (i0:Int) (v0:Unit):St:=⟨[(0,.brw TTable xs),(1,.fn 74 []),(7,dI (xs.length:Int)),(8,dI i0)],[]⟩
abbrev LP135_0 (xs:LTb) (m:Nat) (st_:St) (K:KX):Prop:=True/\bg (s135_0 xs) Z0 (xs.length:Int) (F.cH xs) (fun v0:Unit=>True) (aU (fun v0:Unit=>True->K (.exit 0) (⟨[],[]⟩:St)) (fun q0:Int=>K .ret (⟨[(4,dI q0)],[]⟩:St))) m st_
def L135 (xs:LTb):aX:=lp1 0 (LP135_0 xs)
theorem vc135 (xs:LTb) (K:KA):vcT C135 (L135 xs) ann135 f135 [.brw TTable xs,.fn 74 []] [] (.dat au) K =
 (∃m_,True/\bg (s135_0 xs) Z0 (xs.length:Int) (F.cH xs) (fun v0:Unit=>True) (aU (fun v0:Unit=>True->K (dI (-1:Int)) []) (fun q0:Int=>K (dI q0) [])) m_ (s135_0 xs Z0 ())):=by kernel_rfl
theorem lvc135_0 (xs:LTb)  (i0:Int) (v0:Unit) (m:Nat) (K:KX):lvT C135 (L135 xs) ann135 f135 0 0 (s135_0 xs i0 v0) m K =
 (cond (decide (i0<(xs.length:Int))) ((0<=i0)/\(i0<(xs.length:Int))/\(Sm TTable (nT xs i0))/\cond (!M.cN (nT xs i0)) (K .ret (⟨[(4,dI i0)],[]⟩:St)) (nxT (LP135_0 xs) m K (s135_0 xs (wrap64 (i0+Z1)) ()))) (K (.exit 0) (⟨[],[]⟩:St))):=by kernel_rfl
theorem con135_ok:aP P 135 c135:=aR C135 func135 (kC con74_ok kN) fun args hp K h0=>by
 obtain⟨a0,a1,rfl,rfl,h1⟩:=bu h0
 obtain⟨xs,rfl,h2⟩:=bS h1
 obtain⟨cs1,rfl,h3⟩:=bK h2
 obtain⟨rfl,h4⟩:=gD h3
 obtain⟨h_xs,hK⟩:=h4
 have h:ok (F.hO xs) (fun r=>K (dI r) []):=ak (F.lH xs h_xs) hK
 refine⟨rfl,ann135,(L135 xs),(.dat au),(aL (i0:=0) (by kernel_rfl) ?_),?_⟩
 ·rintro _ _ K ⟨hc0,i0,v0,rfl,hl0,rfl,hv0,h⟩
  exact cast (lvc135_0 _ _ _ _ _).symm (aM h (fun ht0 h=>⟨hl0,⟨ht0,⟨(ay h_xs i0),(oC h (fun _ h=>h) fun _ h=>(aG (fun _ hm=>⟨hc0,hm⟩) _ rfl hl0 dS ht0 (aS h_xs) trivial h))⟩⟩⟩) fun h=>(h trivial))
 ·rw[vc135]
  exact(aE (fun m hm=>⟨trivial,hm⟩) Z0 _ rfl (Int.natCast_nonneg 0) trivial (aI h (fun v0 h hv0=>h) (fun q0 h=>h)))
def c73:Con:=⟨[.lent TTable,.any],fun args hp K=>args2 (fun a0 a1=>iu TTable a0 fun xs=>gj 74 a1 (sU ((Sm TTb xs)/\K (dB (List.any xs (fun e=>!M.cN e))) []))) args hp,.plain,false⟩
abbrev C73:Ctx:=cx [(74,c74),(135,c135)] 9 [] 0 false
def ann73:=an [[kp 3],[kp 16]] []
theorem vc73 (xs:LTb) (K:KA):vcT C73 aq ann73 f73 [.brw TTable xs,.fn 74 []] [] (.dat Ty.bool) K =
 ((Sm TTb xs)/\K (dB (decide (Z0<=(M.idx (t:=TTable) (fun e=>!M.cN e) xs)))) []):=by kernel_rfl
theorem con73_ok:aP P 73 c73:=aR C73 func73 (kC con74_ok (kC con135_ok kN)) fun args hp K h0=>by
 obtain⟨a0,a1,rfl,rfl,h1⟩:=bu h0
 obtain⟨xs,rfl,h2⟩:=bS h1
 obtain⟨cs1,rfl,h3⟩:=bK h2
 obtain⟨rfl,h4⟩:=gD h3
 obtain⟨h_xs,hK⟩:=h4
 have h:ok (F.dJ xs) (fun r=>K (dB r) []):=ak (F.jE xs h_xs) hK
 refine⟨rfl,ann73,aq,(.dat Ty.bool),(az (by kernel_rfl)),?_⟩
 ·rw[vc73]
  exact⟨h_xs,h⟩
def c28:Con:=⟨[.dat TTb],fun args hp K=>g1 (pD TTb) (fun tables=>(Sm TTb tables)/\K (dB (M.aA tables)) []) args hp,.plain,false⟩
abbrev C28:Ctx:=cx [(73,c73)] 11 [] 0 false
def ann28:=an [[kp 1],[kp 4]] []
theorem vc28 (tables:LTb) (K:KA):vcT C28 aq ann28 f28 [.data TTb tables] [] (.dat Ty.bool) K =
 (cond ((decide ((tables.length:Int)<=Z3))==true) ((Sm TTb tables)/\K (dB (!(List.any tables (fun e=>!M.cN e)))) []) (K (dB false) [])):=by kernel_rfl
theorem con28_ok:aP P 28 c28:=aR C28 func28 (kC con73_ok kN) fun args hp K h0=>by
 obtain⟨tables,rfl,rfl,h_tables,hK⟩:=g1e h0
 have h:ok (F.ov tables) (fun r=>K (dB r) []):=ak (F.xb tables h_tables) hK
 refine⟨rfl,ann28,aq,(.dat Ty.bool),(az (by kernel_rfl)),?_⟩
 ·rw[vc28]
  exact(oC h (fun _ h=>⟨h_tables,h⟩) fun _ h=>h)
def c133:Con:=⟨[.dat (Ty.sl TVS),.dat TVS],fun args hp K=>g2 (pD (Ty.sl TVS)) (pD TVS) (fun rows row=>(Sm (Ty.sl TVS) rows)/\(Sm TVS row)/\K (dI (M.rowAt rows row)) []) args hp,.bor,false⟩
abbrev C133:Ctx:=cx [(190,c190),(191,c191)] 8 [] 0 false
def ann133:=an [[.fixBox 3,kp 9],[kp 16]] []
theorem vc133 (rows:(List LV)) (row:LV) (K:KA):vcT C133 aq ann133 f133 [.data (Ty.sl TVS) rows,.data TVS row] [] (.dat au) K =
 (((Sm (Ty.sl TVS) rows)/\(Sm TVS row)/\K (dI (M.idx (t:=TVS) (fun e=>decide (e=row)) rows)) [])\/False\/False):=by kernel_rfl
theorem con133_ok:aP P 133 c133:=aR C133 func133 (kC con190_ok (kC con191_ok kN)) fun args hp K h0=>by
 obtain⟨rows,row,rfl,rfl,h_rows,h_row,hK⟩:=g2e h0
 have h:ok (F.Ag rows row) (fun r=>K (dI r) []):=ak (F.AI rows row h_rows h_row) hK
 refine⟨rfl,ann133,aq,(.dat au),(az (by kernel_rfl)),?_⟩
 ·rw[vc133]
  exact(Or.inl (⟨h_rows,⟨h_row,h⟩⟩))
def c71:Con:=⟨[.dat TTb,.dat TChange],fun args hp K=>g2 (pD TTb) (pD TChange) (fun tables c=>(Sm TTb tables)/\(Sm TChange c)/\K (dB (M.aV tables c)) []) args hp,.bor,false⟩
abbrev C71:Ctx:=cx [(28,c28),(100,c100),(132,c132),(133,c133)] 51 [] 0 false
def ann71:=an [[.fixRow 3 TChange,kp 9],[kp 131081],[kp 16],[.fixRow 5 TTable,kp 40],[kp 16]] []
abbrev S71_0 (tables:LTb) (c:TChange.D) (K:KA):Prop:=cond ((!c.2.2.1)==true) ((Sm (Ty.sl TVS) (nT tables c.1).2.1)/\(Sm TVS c.2.1)/\K (dB (decide (Z0<=(M.rowAt (nT tables c.1).2.1 c.2.1)))) []) (K (dB false) [])
theorem vc71 (tables:LTb) (c:TChange.D) (K:KA):vcT C71 aq ann71 f71 [.data TTb tables,.data TChange c] [] (.dat Ty.bool) K =
 ((Sm TTb tables)/\cond ((!(M.aA tables))==false) (cond (!(M.inR c.1 Z0 (wrap64 ((tables.length:Int)-Z1)))) (K (dB false) []) ((0<=c.1)/\(c.1<(tables.length:Int))/\(Sm TCS (nT tables c.1).1)/\(Sm TVS c.2.1)/\cond ((M.bG (nT tables c.1).1 c.2.1)==true) (cond (c.2.2.1==true) (cond ((decide (((nT tables c.1).2.1.length:Int)<Z6))==false) (S71_0 tables c K) (K (dB true) [])) (S71_0 tables c K)) (K (dB false) []))) (K (dB false) [])):=by kernel_rfl
theorem con71_ok:aP P 71 c71:=aR C71 func71 (kC con28_ok (kC con100_ok (kC con132_ok (kC con133_ok kN)))) fun args hp K h0=>by
 obtain⟨tables,c,rfl,rfl,h_tables,h_c,hK⟩:=g2e h0
 have h:ok (F.ny tables c) (fun r=>K (dB r) []):=ak (F.wU tables c h_tables h_c) hK
 refine⟨rfl,ann71,aq,(.dat Ty.bool),(az (by kernel_rfl)),?_⟩
 ·rw[vc71]
  exact⟨h_tables,(oC h (fun _ h=>(oC h (fun _ h=>h) fun b_2 h=>⟨(jN (bnf b_2)),⟨(nW (bnf b_2)),⟨(ay h_tables c.1).1,⟨h_c.2.1,(oC h (fun _ h=>(oC h (fun b_4 h=>(oC h (fun _ h=>(dN (uef (unf (bet b_4))) h)) fun _ h=>h)) fun b_4 h=>(fJ (uet (unt (bef b_4))) ⟨(ay h_tables c.1).2.1,⟨h_c.2.1,h⟩⟩))) fun _ h=>h)⟩⟩⟩⟩)) fun _ h=>h)⟩
abbrev C156:Ctx:=cx [] 9 [] 400000 true
def T156:Inl:=vW C156 (fun _=>[]) (dL f156) f156.results.toList
theorem inlOk156:vL P 156 T156:=CB C156 func156 kN
def c87:Con:=⟨[.dat (Ty.sl TVS)],fun args hp K=>g1 (pD (Ty.sl TVS)) (fun rows=>(Sm (Ty.sl TVS) rows)/\(LD rows fun r=>K (.clp 0 (r.length:Int)) [(0,.arr .dp TVS r)])) args hp,.bor,false⟩
abbrev C87:Ctx:=cx [(134,c134)] 20 [(156,T156)] 0 true
def ann87:=an [[kp 1],[kp 9],[kp 456],[kp 968],[kp 488],[kp 456],[kp 456],[kp 4]] [[kp 8]]
abbrev s87_0 (rows:(List LV)) (i0:Int) (v0:(List LV)):St:=⟨[(3,.own 3 none),(6,.data (Ty.sl TVS) rows),(7,dI (rows.length:Int)),(8,dI i0)],[(3,.arr .dp TVS v0)]⟩
abbrev LP87_0 (rows:(List LV)) (m:Nat) (st_:St) (K:KX):Prop:=True/\bO (t:=TVS) (s87_0 rows) rows (F.gQ rows) (fun v0:(List LV)=>True) (aU (fun v0:(List LV)=>True->K (.exit 0) (⟨[(3,.own 3 none)],[(3,.arr .dp TVS v0)]⟩:St)) (fun _=>False)) m st_
def L87 (rows:(List LV)):aX:=lp1 0 (LP87_0 rows)
theorem vc87 (rows:(List LV)) (K:KA):vcT C87 (L87 rows) ann87 f87 [.data (Ty.sl TVS) rows] [] .raw K =
 (∃m_,True/\bO (t:=TVS) (s87_0 rows) rows (F.gQ rows) (fun v0:(List LV)=>True) (aU (fun v0:(List LV)=>True->(0<=Z0)/\(Z0<=(v0.length:Int))/\((v0.length:Int)<=(v0.length:Int))/\((v0.length:Int)=(v0.length:Int))/\(Z0=0)/\K (.clp 0 ((v0.take (v0.length:Int).toNat).length:Int)) [(0,.arr .dp TVS (v0.take (v0.length:Int).toNat))]) (fun _=>False)) m_ (s87_0 rows Z0 [])):=by kernel_rfl
theorem lvc87_0 (rows:(List LV))  (i0:Int) (v0:(List LV)) (m:Nat) (K:KX):lvT C87 (L87 rows) ann87 f87 0 0 (s87_0 rows i0 v0) m K =
 (cond (decide (i0<(rows.length:Int))) ((0<=i0)/\(i0<(rows.length:Int))/\(Sm TVS (nth (t:=TVS) rows i0))/\(LD (nth (t:=TVS) rows i0) fun r1=>((v0.length+[(aB r1 (some (Z0,(r1.length:Int))))].length) * 24<=lim)/\(nxT (LP87_0 rows) m K (s87_0 rows (wrap64 (i0+Z1)) (v0++[(aB r1 (some (Z0,(r1.length:Int))))]))))) (K (.exit 0) (⟨[(3,.own 3 none)],[(3,.arr .dp TVS v0)]⟩:St))):=by kernel_rfl
theorem con87_ok:aP P 87 c87:=aR C87 func87 (kC con134_ok (kI inlOk156 kN)) fun args hp K h0=>by
 obtain⟨rows,rfl,rfl,h_rows,hK⟩:=g1e h0
 have h:ok (F.om rows) (fun r=>K (.clp 0 (r.length:Int)) [(0,.arr .dp TVS r)]):=ak (F.wJ rows h_rows) (hK _ rfl)
 refine⟨rfl,ann87,(L87 rows),.raw,(aL (i0:=0) (by kernel_rfl) ?_),?_⟩
 ·rintro _ _ K ⟨hc0,i0,v0,rfl,hl0,rfl,hv0,h⟩
  exact cast (lvc87_0 _ _ _ _ _).symm (bw (t:=TVS) hl0 h (fun ht0 h=>⟨hl0,⟨ht0,⟨(ay h_rows i0),(oL h fun _ _ h=>(oG h fun _ h=>(br (t:=TVS) (fun _ hm=>⟨hc0,hm⟩) _ rfl hl0 ht0 (aS h_rows) trivial h)))⟩⟩⟩) fun h=>(h trivial))
 ·rw[vc87]
  exact(bp (t:=TVS) (fun m hm=>⟨trivial,hm⟩) _ rfl trivial (aI h (fun v0 h hv0=>⟨(Int.natCast_nonneg 0),⟨(Int.natCast_nonneg _),⟨(Int.le_refl _),⟨rfl,⟨rfl,h⟩⟩⟩⟩⟩) (fun _ h=>h.elim)))
abbrev C221:Ctx:=cx [] 9 [] 400000 true
def T221:Inl:=vW C221 (fun _=>[]) (dL f221) f221.results.toList
theorem inlOk221:vL P 221 T221:=CB C221 func221 kN
def c181:Con:=⟨[.dat TCS],fun args hp K=>g1 (pD TCS) (fun xs=>(Sm TCS xs)/\(LD xs fun r=>K (.clp 0 (r.length:Int)) [(0,.arr .sh ai r)])) args hp,.bor,false⟩
abbrev C181:Ctx:=cx [] 9 [(221,T221)] 0 true
def ann181:=an [[kp 1],[kp 33],[.clip 2,kp 4],[kp 4]] []
theorem vc181 (xs:LC) (K:KA):vcT C181 aq ann181 f181 [.data TCS xs] [] .raw K =
 (cond (decide ((xs.length:Int)=Z0)) (K (.clp 0 (([]:List ai.D).length:Int)) [(0,.arr .sh ai ([]:List ai.D))]) ((xs.length * 16<=lim)/\(0<=Z0)/\(Z0<=(xs.length:Int))/\((xs.length:Int)<=(xs.length:Int))/\((xs.length:Int)=(xs.length:Int))/\(Z0=0)/\K (.clp 0 ((xs.take (xs.length:Int).toNat).length:Int)) [(0,.arr .sh ai (xs.take (xs.length:Int).toNat))])):=by kernel_rfl
theorem con181_ok:aP P 181 c181:=aR C181 func181 (kI inlOk221 kN) fun args hp K h0=>by
 obtain⟨xs,rfl,rfl,h_xs,hK⟩:=g1e h0
 have h:ok (F.ta xs) (fun r=>K (.clp 0 (r.length:Int)) [(0,.arr .sh ai r)]):=ak (F.xg xs h_xs) (hK _ rfl)
 refine⟨rfl,ann181,aq,.raw,(az (by kernel_rfl)),?_⟩
 ·rw[vc181]
  exact(oC h (fun _ h=>h) fun _ h=>⟨(Ec h_xs rfl),⟨(Int.natCast_nonneg 0),⟨(Int.natCast_nonneg _),⟨(Int.le_refl _),⟨rfl,⟨rfl,h⟩⟩⟩⟩⟩⟩)
abbrev C116:Ctx:=cx [(87,c87),(181,c181)] 10 [] 200000 true
def T116:Inl:=vW C116 (fun _=>[]) (dL f116) f116.results.toList
theorem inlOk116:vL P 116 T116:=CB C116 func116 (kC con87_ok (kC con181_ok kN))
abbrev C117:Ctx:=cx [] 9 [] 400000 true
def T117:Inl:=vW C117 (fun _=>[]) (dL f117) f117.results.toList
theorem inlOk117:vL P 117 T117:=CB C117 func117 kN
def c54:Con:=⟨[.dat TTb],fun args hp K=>g1 (pD TTb) (fun tables=>(Sm TTb tables)/\(LD tables fun r=>K (.own 0 none) [(0,.arr .dp TTable r)])) args hp,.bor,false⟩
abbrev C54:Ctx:=cx [] 20 [(116,T116),(117,T117)] 0 true
def ann54:=an [[kp 1],[kp 9],[kp 456],[kp 968],[.fixRow 5 TTable,kp 488],[kp 456],[kp 456],[kp 4]] [[kp 8]]
abbrev s54_0 (tables:LTb) (i0:Int) (v0:LTb):St:=⟨[(3,.own 3 none),(6,.data TTb tables),(7,dI (tables.length:Int)),(8,dI i0)],[(3,.arr .dp TTable v0)]⟩
abbrev LP54_0 (tables:LTb) (m:Nat) (st_:St) (K:KX):Prop:=True/\bO (t:=TTable) (s54_0 tables) tables (F.fO tables) (fun v0:LTb=>True) (aU (fun v0:LTb=>True->K (.exit 0) (⟨[(3,.own 3 none)],[(3,.arr .dp TTable v0)]⟩:St)) (fun _=>False)) m st_
def L54 (tables:LTb):aX:=lp1 0 (LP54_0 tables)
theorem vc54 (tables:LTb) (K:KA):vcT C54 (L54 tables) ann54 f54 [.data TTb tables] [] .own K =
 (∃m_,True/\bO (t:=TTable) (s54_0 tables) tables (F.fO tables) (fun v0:LTb=>True) (aU (fun v0:LTb=>True->(0<=Z0)/\(Z0<=(v0.length:Int))/\((v0.length:Int)<=(v0.length:Int))/\((v0.length:Int)=(v0.length:Int))/\(Z0=0)/\(((v0.take (v0.length:Int).toNat).length:Int)=((v0.take (v0.length:Int).toNat).length:Int))/\K (.own 0 none) [(0,.arr .dp TTable (v0.take (v0.length:Int).toNat))]) (fun _=>False)) m_ (s54_0 tables Z0 [])):=by kernel_rfl
theorem lvc54_0 (tables:LTb)  (i0:Int) (v0:LTb) (m:Nat) (K:KX):lvT C54 (L54 tables) ann54 f54 0 0 (s54_0 tables i0 v0) m K =
 (cond (decide (i0<(tables.length:Int))) ((0<=i0)/\(i0<(tables.length:Int))/\(Sm TCS (nT tables i0).1)/\(LD (nT tables i0).1 fun r1=>(Sm (Ty.sl TVS) (nT tables i0).2.1)/\(LD (nT tables i0).2.1 fun r2=>((v0.length+[((aB r1 (some (Z0,(r1.length:Int)))),((aB r2 (some (Z0,(r2.length:Int)))),()))].length) * 48<=lim)/\(nxT (LP54_0 tables) m K (s54_0 tables (wrap64 (i0+Z1)) (v0++[((aB r1 (some (Z0,(r1.length:Int)))),((aB r2 (some (Z0,(r2.length:Int)))),()))])))))) (K (.exit 0) (⟨[(3,.own 3 none)],[(3,.arr .dp TTable v0)]⟩:St))):=by kernel_rfl
theorem con54_ok:aP P 54 c54:=aR C54 func54 (kI inlOk116 (kI inlOk117 kN)) fun args hp K h0=>by
 obtain⟨tables,rfl,rfl,h_tables,hK⟩:=g1e h0
 have h:ok (F.lC tables) (fun r=>K (.own 0 none) [(0,.arr .dp TTable r)]):=ak (F.uc tables h_tables) (hK _ rfl)
 refine⟨rfl,ann54,(L54 tables),.own,(aL (i0:=0) (by kernel_rfl) ?_),?_⟩
 ·rintro _ _ K ⟨hc0,i0,v0,rfl,hl0,rfl,hv0,h⟩
  exact cast (lvc54_0 _ _ _ _ _).symm (bw (t:=TTable) hl0 h (fun ht0 h=>⟨hl0,⟨ht0,⟨(ay h_tables i0).1,(oL h fun _ _ h=>⟨(ay h_tables i0).2.1,(oL h fun _ _ h=>(oG h fun _ h=>(br (t:=TTable) (fun _ hm=>⟨hc0,hm⟩) _ rfl hl0 ht0 (aS h_tables) trivial h)))⟩)⟩⟩⟩) fun h=>(h trivial))
 ·rw[vc54]
  exact(bp (t:=TTable) (fun m hm=>⟨trivial,hm⟩) _ rfl trivial (aI h (fun v0 h hv0=>⟨(Int.natCast_nonneg 0),⟨(Int.natCast_nonneg _),⟨(Int.le_refl _),⟨rfl,⟨rfl,⟨rfl,h⟩⟩⟩⟩⟩⟩) (fun _ h=>h.elim)))
def T88:Inl:=IV
theorem inlOk88:vL P 88 T88:=⟨Go.Proofs.enters_of func88 (by kernel_rfl) rfl,IJ Go.Proofs.ED⟩
def c72:Con:=⟨[.dat TTb,.dat TChange],fun args hp K=>g2 (pD TTb) (pD TChange) (fun tables c=>(Sm TTb tables)/\(Sm TChange c)/\(M.aV tables c)/\(LD (M.bt tables c) fun r=>K (.own 0 none) [(0,.arr .dp TTable r)])) args hp,.bor,false⟩
abbrev C72:Ctx:=cx [(54,c54),(87,c87),(133,c133),(134,c134)] 55 [(88,T88)] 0 true
def ann72:=an [[.fixRow 3 TChange,kp 9],[kp 40],[kp 104],[kp 32872],[kp 96],[kp 224],[kp 96],[kp 32],[kp 16]] []
theorem vc72 (tables:LTb) (c:TChange.D) (K:KA):vcT C72 aq ann72 f72 [.data TTb tables,.data TChange c] [] .raw K =
 ((Sm TTb tables)/\(LD tables fun r1=>(0<=c.1)/\(c.1<(r1.length:Int))/\cond c.2.2.1 ((Sm TVS c.2.1)/\(LD c.2.1 fun r2=>(((nT r1 c.1).2.1.length+[(aB r2 (some (Z0,(r2.length:Int))))].length) * 24<=lim)/\(c.1=c.1)/\(let y1:LTb:=((r1.set c.1.toNat ((nT r1 c.1).1,([],()))).set c.1.toNat ((nT (r1.set c.1.toNat ((nT r1 c.1).1,([],()))) c.1).1,(((nT r1 c.1).2.1++[(aB r2 (some (Z0,(r2.length:Int))))]),())));(Sm (Ty.sl TVS) (nT y1 c.1).2.1)/\(LD (nT y1 c.1).2.1 fun r3=>(let y2:LTb:=(y1.set c.1.toNat ((nT y1 c.1).1,((aB r3 (some (Z0,(r3.length:Int)))),())));K (.own 0 none) [(0,.arr .dp TTable y2)]))))) ((Sm (Ty.sl TVS) (nT r1 c.1).2.1)/\(Sm TVS c.2.1)/\(0<=(M.rowAt (nT r1 c.1).2.1 c.2.1))/\((M.rowAt (nT r1 c.1).2.1 c.2.1)<=wrap64 ((M.rowAt (nT r1 c.1).2.1 c.2.1)+Z1))/\(wrap64 ((M.rowAt (nT r1 c.1).2.1 c.2.1)+Z1)<=((nT r1 c.1).2.1.length:Int))/\(c.1=c.1)/\(let y3:LTb:=((r1.set c.1.toNat ((nT r1 c.1).1,([],()))).set c.1.toNat ((nT (r1.set c.1.toNat ((nT r1 c.1).1,([],()))) c.1).1,(((nT r1 c.1).2.1.take (M.rowAt (nT r1 c.1).2.1 c.2.1).toNat++(nT r1 c.1).2.1.drop (wrap64 ((M.rowAt (nT r1 c.1).2.1 c.2.1)+Z1)).toNat),())));(Sm (Ty.sl TVS) (nT y3 c.1).2.1)/\(LD (nT y3 c.1).2.1 fun r3=>(let y2:LTb:=(y3.set c.1.toNat ((nT y3 c.1).1,((aB r3 (some (Z0,(r3.length:Int)))),())));K (.own 0 none) [(0,.arr .dp TTable y2)])))))):=by kernel_rfl
theorem con72_ok:aP P 72 c72:=aR C72 func72 (kC con54_ok (kC con87_ok (kC con133_ok (kC con134_ok (kI inlOk88 kN))))) fun args hp K h0=>by
 obtain⟨tables,c,rfl,rfl,h_tables,h_c,p0,hK⟩:=g2e h0
 have h:ok (F.jU tables c) (fun r=>K (.own 0 none) [(0,.arr .dp TTable r)]):=ak (F.sM tables c h_tables h_c p0) (hK _ rfl)
 refine⟨rfl,ann72,aq,.raw,(az (by kernel_rfl)),?_⟩
 ·rw[vc72]
  exact⟨h_tables,(oL h fun _ _ h=>(oG h fun _ h=>(oG h fun _ h=>(oC h (fun _ h=>⟨h_c.2.1,(oL h fun _ _ h=>(oG h fun _ h=>⟨rfl,(have h:=fH h _ rfl;(oG h fun _ h=>(oL h fun _ _ h=>(have h:=fH h _ rfl;h))))⟩))⟩) fun _ h=>(oG h fun _ h=>⟨h_c.2.1,(oG h fun _ h=>(oG h fun _ h=>(oG h fun _ h=>⟨rfl,(have h:=fH h _ rfl;(oG h fun _ h=>(oL h fun _ _ h=>(have h:=fH h _ rfl;h))))⟩)))⟩)))))⟩
def c27:Con:=⟨[.dat TTb,.dat TChange],fun args hp K=>g2 (pD TTb) (pD TChange) (fun tables c=>(Sm TTb tables)/\(Sm TChange c)/\(LD (cond (M.aV tables c) (M.bt tables c) [],M.aV tables c) fun r=>K (.tup [.own 0 none,dB r.2]) [(0,.arr .dp TTable r.1)])) args hp,.bor,false⟩
abbrev C27:Ctx:=cx [(71,c71),(72,c72)] 13 [] 0 true
def ann27:=an [[.fixRow 3 TChange,kp 9],[kp 521],[kp 48],[kp 48]] []
theorem vc27 (tables:LTb) (c:TChange.D) (K:KA):vcT C27 aq ann27 f27 [.data TTb tables,.data TChange c] [] .raw K =
 ((Sm TTb tables)/\(Sm TChange c)/\cond (!(M.aV tables c)) (K (.tup [.own 0 none,dB false]) [(0,.arr .dp TTable [])]) ((Sm TTb tables)/\(Sm TChange c)/\(M.aV tables c)/\(LD (M.bt tables c) fun r1=>K (.tup [.own 0 none,dB true]) [(0,.arr .dp TTable r1)]))):=by kernel_rfl
theorem con27_ok:aP P 27 c27:=aR C27 func27 (kC con71_ok (kC con72_ok kN)) fun args hp K h0=>by
 obtain⟨tables,c,rfl,rfl,h_tables,h_c,hK⟩:=g2e h0
 have h:ok (F.jL tables c) (fun r=>K (.tup [.own 0 none,dB r.2]) [(0,.arr .dp TTable r.1)]):=ak (F.sO tables c h_tables h_c) (hK _ rfl)
 refine⟨rfl,ann27,aq,.raw,(az (by kernel_rfl)),?_⟩
 ·rw[vc27]
  exact⟨h_tables,⟨h_c,(oC h (fun _ h=>h) fun _ h=>⟨h_tables,⟨h_c,(oG h fun _ h=>(oL h fun _ _ h=>h))⟩⟩)⟩⟩
def c165:Con:=⟨[.dat ax],fun args hp K=>g1 (pD ax) (fun p=>(Sm ax p)/\K (dI (M.takes p)) []) args hp,.plain,false⟩
abbrev C165:Ctx:=cx [] 13 [] 0 false
def ann165:=an [[.fixRow 1 ax,kp 2],[kp 16],[kp 48],[kp 48],[kp 48],[kp 48],[kp 4],[kp 1040],[kp 1024],[kp 4],[kp 4]] []
abbrev S165_0 (p:ax.D) (K:KA):Prop:=cond (decide (p.1=(7:Int))) (cond (decide (p.1=(7:Int))) (K (dI Z1) []) (K (dI Z0) [])) (cond (decide (p.1=(8:Int))) (K (dI Z1) []) (K (dI Z0) []))
theorem vc165 (p:ax.D) (K:KA):vcT C165 aq ann165 f165 [.data ax p] [] (.dat au) K =
 (cond (decide (p.1=Z3)) (cond (decide (p.1=Z3)) (K (dI Z2) []) (S165_0 p K)) (cond (decide (p.1=Z4)) (cond (decide (p.1=Z4)) (K (dI Z2) []) (S165_0 p K)) (cond (decide (p.1=Z5)) (cond (decide (p.1=Z5)) (K (dI Z2) []) (S165_0 p K)) (cond (decide (p.1=Z6)) (K (dI Z2) []) (S165_0 p K))))):=by kernel_rfl
theorem con165_ok:aP P 165 c165:=aR C165 func165 kN fun args hp K h0=>by
 obtain⟨p,rfl,rfl,h_p,hK⟩:=g1e h0
 have h:ok (F.lp p) (fun r=>K (dI r) []):=ak (F.tw p h_p) hK
 refine⟨rfl,ann165,aq,(.dat au),(az (by kernel_rfl)),?_⟩
 ·rw[vc165]
  exact(oC h (fun b_1 h=>(fJ b_1 h)) fun _ h=>(oC h (fun b_6 h=>(fJ b_6 h)) fun _ h=>(oC h (fun b_8 h=>(fJ b_8 h)) fun _ h=>(oC h (fun _ h=>h) fun _ h=>(oC h (fun b_11 h=>(fJ b_11 h)) fun _ h=>(oC h (fun _ h=>h) fun _ h=>h))))))
def c170:Con:=⟨[.dat au],fun args hp K=>g1 (pD au) (fun truth=>(LD (M.valueOf truth) fun r=>K (.data aa r) [])) args hp,.plain,false⟩
abbrev C170:Ctx:=cx [(132,c132)] 9 [] 0 false
def ann170:=an [[kp 5],[kp 37],[kp 4],[kp 4]] []
theorem vc170 (truth:Int) (K:KA):vcT C170 aq ann170 f170 [dI truth] [] (.dat aa) K =
 (cond (!(M.inR truth Z0 Z1)) (K (.data aa (Z0,(Z0,((⟨#[]⟩:ByteArray),())))) []) (K (.data aa (Z3,(truth,((⟨#[]⟩:ByteArray),())))) [])):=by kernel_rfl
theorem con170_ok:aP P 170 c170:=aR C170 func170 (kC con132_ok kN) fun args hp K h0=>by
 obtain⟨truth,rfl,rfl,hK⟩:=g1e h0
 have h:ok (F.pN truth) (fun r=>K (.data aa r) []):=ak (F.yg truth) (hK _ rfl)
 refine⟨rfl,ann170,aq,(.dat aa),(az (by kernel_rfl)),?_⟩
 ·rw[vc170]
  exact(oC h (fun _ h=>h) fun _ h=>h)
def c216:Con:=⟨[.dat (Ty.sl au)],fun args hp K=>g1 (pD (Ty.sl au)) (fun vals=>(Sm (Ty.sl au) vals)/\K (dI (M.orI vals)) []) args hp,.plain,false⟩
abbrev C216:Ctx:=cx [] 18 [] 0 false
def ann216:=an [[kp 1],[kp 9],[kp 456],[kp 968],[kp 488],[kp 16872],[kp 4],[kp 456],[kp 4]] [[kp 8]]
abbrev s216_0 (vals:LI) (i0:Int) (v0:Unit):St:=⟨[(3,dI Z0),(6,.data (Ty.sl au) vals),(7,dI (vals.length:Int)),(8,dI i0)],[]⟩
abbrev LP216_0 (vals:LI) (m:Nat) (st_:St) (K:KX):Prop:=True/\bO (t:=au) (s216_0 vals) vals (F.iq vals) (fun v0:Unit=>True) (aU (fun v0:Unit=>True->K (.exit 0) (⟨[(3,dI Z0)],[]⟩:St)) (fun q0:Int=>K .ret (⟨[(2,dI q0)],[]⟩:St))) m st_
def L216 (vals:LI):aX:=lp1 0 (LP216_0 vals)
theorem vc216 (vals:LI) (K:KA):vcT C216 (L216 vals) ann216 f216 [.data (Ty.sl au) vals] [] (.dat au) K =
 (∃m_,True/\bO (t:=au) (s216_0 vals) vals (F.iq vals) (fun v0:Unit=>True) (aU (fun v0:Unit=>True->K (dI Z0) []) (fun q0:Int=>K (dI q0) [])) m_ (s216_0 vals Z0 ())):=by kernel_rfl
theorem lvc216_0 (vals:LI)  (i0:Int) (v0:Unit) (m:Nat) (K:KX):lvT C216 (L216 vals) ann216 f216 0 0 (s216_0 vals i0 v0) m K =
 (cond (decide (i0<(vals.length:Int))) ((0<=i0)/\(i0<(vals.length:Int))/\cond (!decide ((nI vals i0)=Z0)) (K .ret (⟨[(2,dI (nI vals i0))],[]⟩:St)) (nxT (LP216_0 vals) m K (s216_0 vals (wrap64 (i0+Z1)) ()))) (K (.exit 0) (⟨[(3,dI Z0)],[]⟩:St))):=by kernel_rfl
theorem con216_ok:aP P 216 c216:=aR C216 func216 kN fun args hp K h0=>by
 obtain⟨vals,rfl,rfl,h_vals,hK⟩:=g1e h0
 have h:ok (F.uf vals) (fun r=>K (dI r) []):=ak (F.AZ vals h_vals) hK
 refine⟨rfl,ann216,(L216 vals),(.dat au),(aL (i0:=0) (by kernel_rfl) ?_),?_⟩
 ·rintro _ _ K ⟨hc0,i0,v0,rfl,hl0,rfl,hv0,h⟩
  exact cast (lvc216_0 _ _ _ _ _).symm (bw (t:=au) hl0 h (fun ht0 h=>⟨hl0,⟨ht0,(oC h (fun _ h=>h) fun _ h=>(br (t:=au) (fun _ hm=>⟨hc0,hm⟩) _ rfl hl0 ht0 (aS h_vals) trivial h))⟩⟩) fun h=>(h trivial))
 ·rw[vc216]
  exact(bp (t:=au) (fun m hm=>⟨trivial,hm⟩) _ rfl trivial (aI h (fun v0 h hv0=>h) (fun q0 h=>h)))
def c247:Con:=⟨[.dat au],fun args hp K=>g1 (pD au) (fun x=>K (dB false) []) args hp,.plain,false⟩
abbrev C247:Ctx:=cx [] 6 [] 0 false
def ann247:=an [[kp 1],[kp 4]] []
theorem vc247 (x:Int) (K:KA):vcT C247 aq ann247 f247 [dI x] [] (.dat Ty.bool) K =
 (K (dB (!decide (x=x))) []):=by kernel_rfl
theorem con247_ok:aP P 247 c247:=aR C247 func247 kN fun args hp K h0=>by
 obtain⟨x,rfl,rfl,hK⟩:=g1e h0
 have h:ok (F.cmp_isNaN_int x) (fun r=>K (dB r) []):=ak (F.vM x) hK
 refine⟨rfl,ann247,aq,(.dat Ty.bool),(az (by kernel_rfl)),?_⟩
 ·rw[vc247]
  exact h
def c219:Con:=⟨[.dat au,.dat au],fun args hp K=>g2 (pD au) (pD au) (fun x y=>K (dI (M.uZ x y)) []) args hp,.plain,false⟩
abbrev C219:Ctx:=cx [(247,c247)] 20 [] 0 false
def ann219:=an [[kp 3],[kp 35],[kp 99],[kp 2115],[kp 4096],[kp 16],[kp 16],[kp 8195],[kp 16],[kp 65539],[kp 16],[kp 524288],[kp 16],[kp 16]] []
theorem vc219 (x:Int) (y:Int) (K:KA):vcT C219 aq ann219 f219 [dI x,dI y] [] (.dat au) K =
 (cond false (cond false (K (dI Z0) []) (K (dI (-1:Int)) [])) (cond false (K (dI Z1) []) (cond (decide (x<y)) (K (dI (-1:Int)) []) (cond (decide (y<x)) (K (dI Z1) []) (K (dI Z0) []))))):=by kernel_rfl
theorem con219_ok:aP P 219 c219:=aR C219 func219 (kC con247_ok kN) fun args hp K h0=>by
 obtain⟨x,y,rfl,rfl,hK⟩:=g2e h0
 have h:ok (F.ld x y) (fun r=>K (dI r) []):=ak (F.ua x y) hK
 refine⟨rfl,ann219,aq,(.dat au),(az (by kernel_rfl)),?_⟩
 ·rw[vc219]
  exact(oC h (fun b_1 h=>(fJ b_1 h)) fun b_1 h=>(dN b_1 (oC h (fun _ h=>h) fun _ h=>(oC h (fun _ h=>h) fun _ h=>h))))
def c256:Con:=⟨[.dat Ty.str],fun args hp K=>g1 (pD Ty.str) (fun x=>(Sm Ty.str x)/\K (dB false) []) args hp,.plain,false⟩
abbrev C256:Ctx:=cx [] 6 [] 0 false
def ann256:=an [[kp 1],[kp 4]] []
theorem vc256 (x:ByteArray) (K:KA):vcT C256 aq ann256 f256 [.data Ty.str x] [] (.dat Ty.bool) K =
 (K (dB (!decide (x=x))) []):=by kernel_rfl
theorem con256_ok:aP P 256 c256:=aR C256 func256 kN fun args hp K h0=>by
 obtain⟨x,rfl,rfl,h_x,hK⟩:=g1e h0
 have h:ok (F.cmp_isNaN_string x) (fun r=>K (dB r) []):=ak (F.sL x h_x) hK
 refine⟨rfl,ann256,aq,(.dat Ty.bool),(az (by kernel_rfl)),?_⟩
 ·rw[vc256]
  exact h
end Go.AE
