/- Contracts. -/
import Derived.Test.YtiplhefglgpdoaaGreatAeMQ
import Derived.Test.YtiplhefglgpdoaaGreatAeEq
import Derived.Test.YtiplhefglgpdoaaGreatAeC0
namespace Go.AE
open Go Go.RowKit Go.Proofs.Tryz
set_option maxRecDepth 100000
set_option maxHeartbeats 2000000
set_option linter.unusedVariables false
def c210:Con:=⟨[.any,.dat aC],fun args hp K=>args2 (fun a0 a1=>DC a0 (ff aC a1 fun n=>(0<=n)/\(n<=1099511627776)/\(LD ([]:List af.D) fun r=>K (.own 0 none) [(0,.arr .sh af r)]))) args hp,.plain,false⟩
abbrev C210:Ctx:=cx [] 27 [] 0 false
def ann210:=an [[kp 3],[kp 67],[kp 3],[kp 3],[kp 65539],[kp 1],[kp 16]] []
theorem vc210 (n:Int) (K:KA):vcT C210 aB ann210 f210 [.cst (.slice none 0 0),dI n] [] .raw K =
 (cond (decide (n<Z0)) False (cond (decide (Z0<wrap64 (n-(wrap64 (Z0-Z0))))) ((0<=Z0)/\(Z0<=Z0)/\(Z0<=Z0)/\(Z0=Z0)/\(0<=wrap64 (n-(wrap64 (Z0-Z0))))/\((wrap64 (n-(wrap64 (Z0-Z0)))) * 32<=(lim:Int))/\(0<=Z0)/\(Z0<=Z0)/\(Z0<=((List.replicate (wrap64 (n-(wrap64 (Z0-Z0)))).toNat (Z0,(Z0,((⟨#[]⟩:ByteArray),())))).length:Int))/\(Z0=Z0)/\(Z0=0)/\K (.own 0 none) [(0,.arr .sh af ((List.replicate (wrap64 (n-(wrap64 (Z0-Z0)))).toNat (Z0,(Z0,((⟨#[]⟩:ByteArray),())))).take Z0.toNat))]) (K (.own 0 none) [(0,.arr .sh af [])]))):=by kernel_rfl
theorem con210_ok:bf P 210 c210:=br C210 func210 kN fun args hp K h0=>by
 obtain⟨a0,a1,rfl,rfl,h1⟩:=bT h0
 obtain⟨rfl,h2⟩:=tE h1
 obtain⟨n,rfl,h3⟩:=bp h2
 obtain⟨p0,p1,hK⟩:=h3
 have h:ok (F.qY n) (fun r=>K (.own 0 none) [(0,.arr .sh af r)]):=az (F.yB n p0 p1) (hK _ rfl)
 refine⟨rfl,ann210,aB,.raw,(aH (by kernel_rfl)),?_⟩
 ·rw[vc210]
  exact(oC h (fun _ h=>h) fun _ h=>(oC h (fun _ h=>⟨(Int.natCast_nonneg 0),⟨(Int.le_refl _),⟨(Int.le_refl _),⟨rfl,(oG h fun _ h=>(oG h fun _ h=>⟨(Int.natCast_nonneg 0),⟨(Int.le_refl _),⟨(Int.natCast_nonneg _),⟨rfl,⟨rfl,h⟩⟩⟩⟩⟩))⟩⟩⟩⟩) fun _ h=>h))
def c191:Con:=⟨[.dat (Ty.sl TVS)],fun args hp K=>g1 (pD (Ty.sl TVS)) (fun xss=>(Sm (Ty.sl TVS) xss)/\(LD (List.flatten xss) fun r=>K (.own 0 none) [(0,.arr .sh af r)])) args hp,.plain,false⟩
abbrev C191:Ctx:=cx [(210,c210)] 36 [] 0 false
def ann191:=an [[kp 1],[kp 9],[kp 3593],[kp 7689],[kp 3625],[kp 3593],[kp 1052169],[kp 3593],[kp 3593],[kp 65],[kp 234881088],[kp 503316544],[kp 234881344],[kp 234881088],[kp 234881088],[kp 4]] [[kp 9],[],[kp 64]]
abbrev s191_0 (xss:(List LV)) (i0:Int) (v0:Int):St:=⟨[(0,.data (Ty.sl TVS) xss),(3,dI v0),(9,.data (Ty.sl TVS) xss),(10,dI (xss.length:Int)),(11,dI i0)],[]⟩
abbrev LP191_0 (xss:(List LV)) (m:Nat) (st_:St) (K:KX):Prop:=True/\bX (t:=TVS) (s191_0 xss) xss (F.hG xss) (fun v0:Int=>True) (bg (fun v0:Int=>True->K (.exit 0) (⟨[(0,.data (Ty.sl TVS) xss),(3,dI v0)],[]⟩:St)) (fun _=>False)) m st_
abbrev s191_2 (xss:(List LV)) (i2:Int) (v2:LV):St:=⟨[(6,.own 24 none),(25,.data (Ty.sl TVS) xss),(26,dI (xss.length:Int)),(27,dI i2)],[(24,.arr .sh af v2)]⟩
abbrev LP191_2 (xss:(List LV)) (m:Nat) (st_:St) (K:KX):Prop:=True/\bX (t:=TVS) (s191_2 xss) xss (F.ic xss) (fun v2:LV=>True) (bg (fun v2:LV=>True->K (.exit 2) (⟨[(6,.own 24 none)],[(24,.arr .sh af v2)]⟩:St)) (fun _=>False)) m st_
def L191 (xss:(List LV)):bH:=lp2 0 (LP191_0 xss) 2 (LP191_2 xss)
theorem vc191 (xss:(List LV)) (K:KA):vcT C191 (L191 xss) ann191 f191 [.data (Ty.sl TVS) xss] [] .raw K =
 (∃m_,True/\bX (t:=TVS) (s191_0 xss) xss (F.hG xss) (fun v0:Int=>True) (bg (fun v0:Int=>True->(0<=v0)/\(v0<=1099511627776)/\(LD ([]:List af.D) fun r1=>(∃m_,True/\bX (t:=TVS) (s191_2 xss) xss (F.ic xss) (fun v2:LV=>True) (bg (fun v2:LV=>True->K (.own 0 none) [(0,.arr .sh af v2)]) (fun _=>False)) m_ (s191_2 xss Z0 r1)))) (fun _=>False)) m_ (s191_0 xss Z0 Z0)):=by kernel_rfl
theorem lvc191_0 (xss:(List LV))  (i0:Int) (v0:Int) (m:Nat) (K:KX):lvT C191 (L191 xss) ann191 f191 0 0 (s191_0 xss i0 v0) m K =
 (cond (decide (i0<(xss.length:Int))) ((0<=i0)/\(i0<(xss.length:Int))/\cond (decide (wrap64 (v0+((nth (t:=TVS) xss i0).length:Int))<Z0)) False (nxT (LP191_0 xss) m K (s191_0 xss (wrap64 (i0+Z1)) (wrap64 (v0+((nth (t:=TVS) xss i0).length:Int)))))) (K (.exit 0) (⟨[(0,.data (Ty.sl TVS) xss),(3,dI v0)],[]⟩:St))):=by kernel_rfl
theorem lvc191_1 (xss:(List LV))  (i2:Int) (v2:LV) (m:Nat) (K:KX):lvT C191 (L191 xss) ann191 f191 1 2 (s191_2 xss i2 v2) m K =
 (cond (decide (i2<(xss.length:Int))) ((0<=i2)/\(i2<(xss.length:Int))/\((v2.length+(nth (t:=TVS) xss i2).length) * 32<=lim)/\(nxT (LP191_2 xss) m K (s191_2 xss (wrap64 (i2+Z1)) (v2++(nth (t:=TVS) xss i2))))) (K (.exit 2) (⟨[(6,.own 24 none)],[(24,.arr .sh af v2)]⟩:St))):=by kernel_rfl
theorem con191_ok:bf P 191 c191:=br C191 func191 (kC con210_ok kN) fun args hp K h0=>by
 obtain⟨xss,rfl,rfl,h_xss,hK⟩:=g1e h0
 have h:ok (F.oo xss) (fun r=>K (.own 0 none) [(0,.arr .sh af r)]):=az (F.vS xss h_xss) (hK _ rfl)
 refine⟨rfl,ann191,(L191 xss),.raw,(lS (i0:=0) (i1:=2) (by kernel_rfl) ?_ ?_),?_⟩
 ·rintro _ _ K ⟨hc0,i0,v0,rfl,hl0,rfl,hv0,h⟩
  exact cast (lvc191_0 _ _ _ _ _).symm (bB (t:=TVS) hl0 h (fun ht0 h=>⟨hl0,⟨ht0,(oC h (fun _ h=>h) fun _ h=>(aZ (t:=TVS) (fun _ hm=>⟨hc0,hm⟩) _ rfl hl0 ht0 (bz h_xss) trivial h))⟩⟩) fun h=>(h trivial))
 ·rintro _ _ K ⟨hc2,i2,v2,rfl,hl2,rfl,hv2,h⟩
  exact cast (lvc191_1 _ _ _ _ _).symm (bB (t:=TVS) hl2 h (fun ht2 h=>⟨hl2,⟨ht2,(oG h fun _ h=>(aZ (t:=TVS) (fun _ hm=>⟨hc2,hm⟩) _ rfl hl2 ht2 (bz h_xss) trivial h))⟩⟩) fun h=>(h trivial))
 ·rw[vc191]
  exact(bn (t:=TVS) (fun m hm=>⟨trivial,hm⟩) _ rfl trivial (aT h (fun v0 h hv0=>(oG h fun _ h=>(oG h fun _ h=>(oL h fun _ _ h=>(bn (t:=TVS) (fun m hm=>⟨trivial,hm⟩) _ rfl trivial (aT h (fun v2 h hv2=>h) (fun _ h=>h.elim))))))) (fun _ h=>h.elim)))
def c159:Con:=⟨[.dat TVS,.dat TVS],fun args hp K=>g2 (pD TVS) (pD TVS) (fun a b=>(Sm TVS a)/\(Sm TVS b)/\(a.length+b.length<=1048576)/\(LD (a++b) fun r=>K (.clp 0 (r.length:Int)) [(0,.arr .sh af r)])) args hp,.bor,false⟩
abbrev C159:Ctx:=cx [(162,c162),(191,c191)] 10 [] 0 false
def ann159:=an [[kp 3],[kp 16]] []
theorem vc159 (a:LV) (b:LV) (K:KA):vcT C159 aB ann159 f159 [.data TVS a,.data TVS b] [] .raw K =
 ((Sm (Ty.sl TVS) [a,b])/\(LD (List.flatten [a,b]) fun r1=>(Sm TVS r1)/\(LD r1 fun r2=>K (.clp 0 ((r2.take (r2.length:Int).toNat).length:Int)) [(0,.arr .sh af (r2.take (r2.length:Int).toNat))]))):=by kernel_rfl
theorem con159_ok:bf P 159 c159:=br C159 func159 (kC con162_ok (kC con191_ok kN)) fun args hp K h0=>by
 obtain⟨a,b,rfl,rfl,h_a,h_b,p0,hK⟩:=g2e h0
 have h:ok (F.rz a b) (fun r=>K (.clp 0 (r.length:Int)) [(0,.arr .sh af r)]):=az (F.zn a b h_a h_b p0) (hK _ rfl)
 refine⟨rfl,ann159,aB,.raw,(aH (by kernel_rfl)),?_⟩
 ·rw[vc159]
  exact(oG h fun _ h=>(oL h fun _ _ h=>(oG h fun _ h=>(oL h fun _ _ h=>h))))
def c192:Con:=⟨[.any,.dat aC],fun args hp K=>args2 (fun a0 a1=>DC a0 (ff aC a1 fun n=>(0<=n)/\(n<=1099511627776)/\(LD ([]:List TVS.D) fun r=>K (.own 0 none) [(0,.arr .sh TVS r)]))) args hp,.plain,false⟩
abbrev C192:Ctx:=cx [] 27 [] 0 false
def ann192:=an [[kp 3],[kp 67],[kp 3],[kp 3],[kp 65539],[kp 1],[kp 16]] []
theorem vc192 (n:Int) (K:KA):vcT C192 aB ann192 f192 [.cst (.slice none 0 0),dI n] [] .raw K =
 (cond (decide (n<Z0)) False (cond (decide (Z0<wrap64 (n-(wrap64 (Z0-Z0))))) ((0<=Z0)/\(Z0<=Z0)/\(Z0<=Z0)/\(Z0=Z0)/\(0<=wrap64 (n-(wrap64 (Z0-Z0))))/\((wrap64 (n-(wrap64 (Z0-Z0)))) * 24<=(lim:Int))/\(0<=Z0)/\(Z0<=Z0)/\(Z0<=((List.replicate (wrap64 (n-(wrap64 (Z0-Z0)))).toNat ([]:List af.D)).length:Int))/\(Z0=Z0)/\(Z0=0)/\K (.own 0 none) [(0,.arr .sh TVS ((List.replicate (wrap64 (n-(wrap64 (Z0-Z0)))).toNat ([]:List af.D)).take Z0.toNat))]) (K (.own 0 none) [(0,.arr .sh TVS [])]))):=by kernel_rfl
theorem con192_ok:bf P 192 c192:=br C192 func192 kN fun args hp K h0=>by
 obtain⟨a0,a1,rfl,rfl,h1⟩:=bT h0
 obtain⟨rfl,h2⟩:=tE h1
 obtain⟨n,rfl,h3⟩:=bp h2
 obtain⟨p0,p1,hK⟩:=h3
 have h:ok (F.pT n) (fun r=>K (.own 0 none) [(0,.arr .sh TVS r)]):=az (F.xm n p0 p1) (hK _ rfl)
 refine⟨rfl,ann192,aB,.raw,(aH (by kernel_rfl)),?_⟩
 ·rw[vc192]
  exact(oC h (fun _ h=>h) fun _ h=>(oC h (fun _ h=>⟨(Int.natCast_nonneg 0),⟨(Int.le_refl _),⟨(Int.le_refl _),⟨rfl,(oG h fun _ h=>(oG h fun _ h=>⟨(Int.natCast_nonneg 0),⟨(Int.le_refl _),⟨(Int.natCast_nonneg _),⟨rfl,⟨rfl,h⟩⟩⟩⟩⟩))⟩⟩⟩⟩) fun _ h=>h))
def c160:Con:=⟨[.dat (Ty.sl (Ty.sl TVS))],fun args hp K=>g1 (pD (Ty.sl (Ty.sl TVS))) (fun xss=>(Sm (Ty.sl (Ty.sl TVS)) xss)/\(LD (List.flatten xss) fun r=>K (.own 0 none) [(0,.arr .sh TVS r)])) args hp,.plain,false⟩
abbrev C160:Ctx:=cx [(192,c192)] 36 [] 0 false
def ann160:=an [[kp 1],[kp 9],[kp 3593],[kp 7689],[kp 3625],[kp 3593],[kp 1052169],[kp 3593],[kp 3593],[kp 65],[kp 234881088],[kp 503316544],[kp 234881344],[kp 234881088],[kp 234881088],[kp 4]] [[kp 9],[],[kp 64]]
abbrev s160_0 (xss:(List (List LV))) (i0:Int) (v0:Int):St:=⟨[(0,.data (Ty.sl (Ty.sl TVS)) xss),(3,dI v0),(9,.data (Ty.sl (Ty.sl TVS)) xss),(10,dI (xss.length:Int)),(11,dI i0)],[]⟩
abbrev LP160_0 (xss:(List (List LV))) (m:Nat) (st_:St) (K:KX):Prop:=True/\bX (t:=(Ty.sl TVS)) (s160_0 xss) xss (F.gB xss) (fun v0:Int=>True) (bg (fun v0:Int=>True->K (.exit 0) (⟨[(0,.data (Ty.sl (Ty.sl TVS)) xss),(3,dI v0)],[]⟩:St)) (fun _=>False)) m st_
abbrev s160_2 (xss:(List (List LV))) (i2:Int) (v2:(List LV)):St:=⟨[(6,.own 24 none),(25,.data (Ty.sl (Ty.sl TVS)) xss),(26,dI (xss.length:Int)),(27,dI i2)],[(24,.arr .sh TVS v2)]⟩
abbrev LP160_2 (xss:(List (List LV))) (m:Nat) (st_:St) (K:KX):Prop:=True/\bX (t:=(Ty.sl TVS)) (s160_2 xss) xss (F.gv xss) (fun v2:(List LV)=>True) (bg (fun v2:(List LV)=>True->K (.exit 2) (⟨[(6,.own 24 none)],[(24,.arr .sh TVS v2)]⟩:St)) (fun _=>False)) m st_
def L160 (xss:(List (List LV))):bH:=lp2 0 (LP160_0 xss) 2 (LP160_2 xss)
theorem vc160 (xss:(List (List LV))) (K:KA):vcT C160 (L160 xss) ann160 f160 [.data (Ty.sl (Ty.sl TVS)) xss] [] .raw K =
 (∃m_,True/\bX (t:=(Ty.sl TVS)) (s160_0 xss) xss (F.gB xss) (fun v0:Int=>True) (bg (fun v0:Int=>True->(0<=v0)/\(v0<=1099511627776)/\(LD ([]:List TVS.D) fun r1=>(∃m_,True/\bX (t:=(Ty.sl TVS)) (s160_2 xss) xss (F.gv xss) (fun v2:(List LV)=>True) (bg (fun v2:(List LV)=>True->K (.own 0 none) [(0,.arr .sh TVS v2)]) (fun _=>False)) m_ (s160_2 xss Z0 r1)))) (fun _=>False)) m_ (s160_0 xss Z0 Z0)):=by kernel_rfl
theorem lvc160_0 (xss:(List (List LV)))  (i0:Int) (v0:Int) (m:Nat) (K:KX):lvT C160 (L160 xss) ann160 f160 0 0 (s160_0 xss i0 v0) m K =
 (cond (decide (i0<(xss.length:Int))) ((0<=i0)/\(i0<(xss.length:Int))/\cond (decide (wrap64 (v0+((nth (t:=(Ty.sl TVS)) xss i0).length:Int))<Z0)) False (nxT (LP160_0 xss) m K (s160_0 xss (wrap64 (i0+Z1)) (wrap64 (v0+((nth (t:=(Ty.sl TVS)) xss i0).length:Int)))))) (K (.exit 0) (⟨[(0,.data (Ty.sl (Ty.sl TVS)) xss),(3,dI v0)],[]⟩:St))):=by kernel_rfl
theorem lvc160_1 (xss:(List (List LV)))  (i2:Int) (v2:(List LV)) (m:Nat) (K:KX):lvT C160 (L160 xss) ann160 f160 1 2 (s160_2 xss i2 v2) m K =
 (cond (decide (i2<(xss.length:Int))) ((0<=i2)/\(i2<(xss.length:Int))/\((v2.length+(nth (t:=(Ty.sl TVS)) xss i2).length) * 24<=lim)/\(nxT (LP160_2 xss) m K (s160_2 xss (wrap64 (i2+Z1)) (v2++(nth (t:=(Ty.sl TVS)) xss i2))))) (K (.exit 2) (⟨[(6,.own 24 none)],[(24,.arr .sh TVS v2)]⟩:St))):=by kernel_rfl
theorem con160_ok:bf P 160 c160:=br C160 func160 (kC con192_ok kN) fun args hp K h0=>by
 obtain⟨xss,rfl,rfl,h_xss,hK⟩:=g1e h0
 have h:ok (F.mK xss) (fun r=>K (.own 0 none) [(0,.arr .sh TVS r)]):=az (F.vb xss h_xss) (hK _ rfl)
 refine⟨rfl,ann160,(L160 xss),.raw,(lS (i0:=0) (i1:=2) (by kernel_rfl) ?_ ?_),?_⟩
 ·rintro _ _ K ⟨hc0,i0,v0,rfl,hl0,rfl,hv0,h⟩
  exact cast (lvc160_0 _ _ _ _ _).symm (bB (t:=(Ty.sl TVS)) hl0 h (fun ht0 h=>⟨hl0,⟨ht0,(oC h (fun _ h=>h) fun _ h=>(aZ (t:=(Ty.sl TVS)) (fun _ hm=>⟨hc0,hm⟩) _ rfl hl0 ht0 (bz h_xss) trivial h))⟩⟩) fun h=>(h trivial))
 ·rintro _ _ K ⟨hc2,i2,v2,rfl,hl2,rfl,hv2,h⟩
  exact cast (lvc160_1 _ _ _ _ _).symm (bB (t:=(Ty.sl TVS)) hl2 h (fun ht2 h=>⟨hl2,⟨ht2,(oG h fun _ h=>(aZ (t:=(Ty.sl TVS)) (fun _ hm=>⟨hc2,hm⟩) _ rfl hl2 ht2 (bz h_xss) trivial h))⟩⟩) fun h=>(h trivial))
 ·rw[vc160]
  exact(bn (t:=(Ty.sl TVS)) (fun m hm=>⟨trivial,hm⟩) _ rfl trivial (aT h (fun v0 h hv0=>(oG h fun _ h=>(oG h fun _ h=>(oL h fun _ _ h=>(bn (t:=(Ty.sl TVS)) (fun m hm=>⟨trivial,hm⟩) _ rfl trivial (aT h (fun v2 h hv2=>h) (fun _ h=>h.elim))))))) (fun _ h=>h.elim)))
abbrev C163:Ctx:=cx [] 9 [] 400000 true
def T163:Inl:=uo C163 (fun _=>[]) (dP f163) f163.results.toList
theorem inlOk163:vj P 163 T163:=AI C163 func163 kN
def c113:Con:=⟨[.dat (Ty.sl TVS)],fun args hp K=>g1 (pD (Ty.sl TVS)) (fun rows=>(Sm (Ty.sl TVS) rows)/\(LD rows fun r=>K (.clp 0 (r.length:Int)) [(0,.arr .dp TVS r)])) args hp,.bor,false⟩
abbrev C113:Ctx:=cx [(162,c162)] 20 [(163,T163)] 0 true
def ann113:=an [[kp 1],[kp 9],[kp 456],[kp 968],[kp 488],[kp 456],[kp 456],[kp 4]] [[kp 8]]
abbrev s113_0 (rows:(List LV)) (i0:Int) (v0:(List LV)):St:=⟨[(3,.own 3 none),(6,.data (Ty.sl TVS) rows),(7,dI (rows.length:Int)),(8,dI i0)],[(3,.arr .dp TVS v0)]⟩
abbrev LP113_0 (rows:(List LV)) (m:Nat) (st_:St) (K:KX):Prop:=True/\bX (t:=TVS) (s113_0 rows) rows (F.iw rows) (fun v0:(List LV)=>True) (bg (fun v0:(List LV)=>True->K (.exit 0) (⟨[(3,.own 3 none)],[(3,.arr .dp TVS v0)]⟩:St)) (fun _=>False)) m st_
def L113 (rows:(List LV)):bH:=lp1 0 (LP113_0 rows)
theorem vc113 (rows:(List LV)) (K:KA):vcT C113 (L113 rows) ann113 f113 [.data (Ty.sl TVS) rows] [] .raw K =
 (∃m_,True/\bX (t:=TVS) (s113_0 rows) rows (F.iw rows) (fun v0:(List LV)=>True) (bg (fun v0:(List LV)=>True->(0<=Z0)/\(Z0<=(v0.length:Int))/\((v0.length:Int)<=(v0.length:Int))/\((v0.length:Int)=(v0.length:Int))/\(Z0=0)/\K (.clp 0 ((v0.take (v0.length:Int).toNat).length:Int)) [(0,.arr .dp TVS (v0.take (v0.length:Int).toNat))]) (fun _=>False)) m_ (s113_0 rows Z0 [])):=by kernel_rfl
theorem lvc113_0 (rows:(List LV))  (i0:Int) (v0:(List LV)) (m:Nat) (K:KX):lvT C113 (L113 rows) ann113 f113 0 0 (s113_0 rows i0 v0) m K =
 (cond (decide (i0<(rows.length:Int))) ((0<=i0)/\(i0<(rows.length:Int))/\(Sm TVS (nth (t:=TVS) rows i0))/\(LD (nth (t:=TVS) rows i0) fun r1=>((v0.length+[(ay r1 (some (Z0,(r1.length:Int))))].length) * 24<=lim)/\(nxT (LP113_0 rows) m K (s113_0 rows (wrap64 (i0+Z1)) (v0++[(ay r1 (some (Z0,(r1.length:Int))))]))))) (K (.exit 0) (⟨[(3,.own 3 none)],[(3,.arr .dp TVS v0)]⟩:St))):=by kernel_rfl
theorem con113_ok:bf P 113 c113:=br C113 func113 (kC con162_ok (kI inlOk163 kN)) fun args hp K h0=>by
 obtain⟨rows,rfl,rfl,h_rows,hK⟩:=g1e h0
 have h:ok (F.nD rows) (fun r=>K (.clp 0 (r.length:Int)) [(0,.arr .dp TVS r)]):=az (F.wm rows h_rows) (hK _ rfl)
 refine⟨rfl,ann113,(L113 rows),.raw,(bL (i0:=0) (by kernel_rfl) ?_),?_⟩
 ·rintro _ _ K ⟨hc0,i0,v0,rfl,hl0,rfl,hv0,h⟩
  exact cast (lvc113_0 _ _ _ _ _).symm (bB (t:=TVS) hl0 h (fun ht0 h=>⟨hl0,⟨ht0,⟨(aQ h_rows i0),(oL h fun _ _ h=>(oG h fun _ h=>(aZ (t:=TVS) (fun _ hm=>⟨hc0,hm⟩) _ rfl hl0 ht0 (bz h_rows) trivial h)))⟩⟩⟩) fun h=>(h trivial))
 ·rw[vc113]
  exact(bn (t:=TVS) (fun m hm=>⟨trivial,hm⟩) _ rfl trivial (aT h (fun v0 h hv0=>⟨(Int.natCast_nonneg 0),⟨(Int.natCast_nonneg _),⟨(Int.le_refl _),⟨rfl,⟨rfl,h⟩⟩⟩⟩⟩) (fun _ h=>h.elim)))
def c215:Con:=⟨[.lent af,.lent af],fun args hp K=>g2 (pB af) (pB af) (fun xs ys=>(Sm TVS xs)/\(Sm TVS ys)/\K (dB (decide (xs=ys))) []) args hp,.plain,false⟩
abbrev C215:Ctx:=cx [] 26 [] 0 false
def ann215:=an [[kp 3],[kp 1027],[kp 16],[kp 12291],[kp 28675],[kp 12323],[kp 16789507],[kp 16],[kp 12291],[kp 16]] [[kp 0]]
abbrev s215_0 (xs:LV) (ys:LV) (i0:Int) (v0:Unit):St:=⟨[(0,.brw af xs),(1,.brw af ys),(12,dI (xs.length:Int)),(13,dI i0)],[]⟩
abbrev LP215_0 (xs:LV) (ys:LV) (m:Nat) (st_:St) (K:KX):Prop:=True/\cm (s215_0 xs ys) Z0 (xs.length:Int) (F.iR xs ys) (fun v0:Unit=>True) (bg (fun v0:Unit=>True->K (.exit 0) (⟨[],[]⟩:St)) (fun q0:Unit=>K .ret (⟨[(4,dB false)],[]⟩:St))) m st_
def L215 (xs:LV) (ys:LV):bH:=lp1 0 (LP215_0 xs ys)
theorem vc215 (xs:LV) (ys:LV) (K:KA):vcT C215 (L215 xs ys) ann215 f215 [.brw af xs,.brw af ys] [] (.dat Ty.bool) K =
 (cond (!decide ((xs.length:Int)=(ys.length:Int))) (K (dB false) []) (∃m_,True/\cm (s215_0 xs ys) Z0 (xs.length:Int) (F.iR xs ys) (fun v0:Unit=>True) (bg (fun v0:Unit=>True->K (dB true) []) (fun q0:Unit=>K (dB false) [])) m_ (s215_0 xs ys Z0 ()))):=by kernel_rfl
theorem lvc215_0 (xs:LV) (ys:LV)  (i0:Int) (v0:Unit) (m:Nat) (K:KX):lvT C215 (L215 xs ys) ann215 f215 0 0 (s215_0 xs ys i0 v0) m K =
 (cond (decide (i0<(xs.length:Int))) ((0<=i0)/\(i0<(xs.length:Int))/\(0<=i0)/\(i0<(ys.length:Int))/\cond (!(Ty.beq af (nV xs i0) (nV ys i0))) (K .ret (⟨[(4,dB false)],[]⟩:St)) (nxT (LP215_0 xs ys) m K (s215_0 xs ys (wrap64 (i0+Z1)) ()))) (K (.exit 0) (⟨[],[]⟩:St))):=by kernel_rfl
theorem con215_ok:bf P 215 c215:=br C215 func215 kN fun args hp K h0=>by
 obtain⟨xs,ys,rfl,rfl,h_xs,h_ys,hK⟩:=g2e h0
 have h:ok (F.uX xs ys) (fun r=>K (dB r) []):=az (F.xp xs ys h_xs h_ys) hK
 refine⟨rfl,ann215,(L215 xs ys),(.dat Ty.bool),(bL (i0:=0) (by kernel_rfl) ?_),?_⟩
 ·rintro _ _ K ⟨hc0,i0,v0,rfl,hl0,rfl,hv0,h⟩
  exact cast (lvc215_0 _ _ _ _ _ _).symm (bM h (fun ht0 h=>⟨hl0,⟨ht0,⟨hl0,(oG h fun _ h=>(oC h (fun _ h=>h) fun _ h=>(aN (fun _ hm=>⟨hc0,hm⟩) _ rfl hl0 fS ht0 (bz h_xs) trivial h)))⟩⟩⟩) fun h=>(h trivial))
 ·rw[vc215]
  exact(oC h (fun _ h=>h) fun _ h=>(bA (fun m hm=>⟨trivial,hm⟩) Z0 _ rfl (Int.natCast_nonneg 0) trivial (aT h (fun v0 h hv0=>h) (fun q0 h=>h))))
def c211:Con:=⟨[.lent TVS,.dat TVS],fun args hp K=>g2 (pB TVS) (pD TVS) (fun rows row=>(Sm (Ty.sl TVS) rows)/\(Sm TVS row)/\K (dI (M.fT rows row:Int)) []) args hp,.plain,false⟩
abbrev C211:Ctx:=cx [(215,c215)] 21 [] 0 false
def ann211:=an [[kp 3],[kp 35],[kp 1826],[kp 3874],[kp 1954],[kp 67362],[kp 1826],[kp 1826],[kp 16]] [[kp 32]]
abbrev s211_0 (rows:(List LV)) (row:LV) (i0:Int) (v0:Int):St:=⟨[(1,.data TVS row),(5,dI v0),(8,.brw TVS rows),(9,dI (rows.length:Int)),(10,dI i0)],[]⟩
abbrev LP211_0 (rows:(List LV)) (row:LV) (m:Nat) (st_:St) (K:KX):Prop:=True/\bX (t:=TVS) (s211_0 rows row) rows (F.fY rows row) (fun v0:Int=>True) (bg (fun v0:Int=>True->K (.exit 0) (⟨[(5,dI v0)],[]⟩:St)) (fun _=>False)) m st_
def L211 (rows:(List LV)) (row:LV):bH:=lp1 0 (LP211_0 rows row)
theorem vc211 (rows:(List LV)) (row:LV) (K:KA):vcT C211 (L211 rows row) ann211 f211 [.brw TVS rows,.data TVS row] [] (.dat aC) K =
 (∃m_,True/\bX (t:=TVS) (s211_0 rows row) rows (F.fY rows row) (fun v0:Int=>True) (bg (fun v0:Int=>True->K (dI v0) []) (fun _=>False)) m_ (s211_0 rows row Z0 Z0)):=by kernel_rfl
theorem lvc211_0 (rows:(List LV)) (row:LV)  (i0:Int) (v0:Int) (m:Nat) (K:KX):lvT C211 (L211 rows row) ann211 f211 0 0 (s211_0 rows row i0 v0) m K =
 (cond (decide (i0<(rows.length:Int))) ((0<=i0)/\(i0<(rows.length:Int))/\(Sm TVS (nth (t:=TVS) rows i0))/\(Sm TVS row)/\cond (decide ((nth (t:=TVS) rows i0)=row)) (nxT (LP211_0 rows row) m K (s211_0 rows row (wrap64 (i0+Z1)) (wrap64 (v0+Z1)))) (nxT (LP211_0 rows row) m K (s211_0 rows row (wrap64 (i0+Z1)) v0))) (K (.exit 0) (⟨[(5,dI v0)],[]⟩:St))):=by kernel_rfl
theorem con211_ok:bf P 211 c211:=br C211 func211 (kC con215_ok kN) fun args hp K h0=>by
 obtain⟨rows,row,rfl,rfl,h_rows,h_row,hK⟩:=g2e h0
 have h:ok (F.pV rows row) (fun r=>K (dI r) []):=az (F.xx rows row h_rows h_row) hK
 refine⟨rfl,ann211,(L211 rows row),(.dat aC),(bL (i0:=0) (by kernel_rfl) ?_),?_⟩
 ·rintro _ _ K ⟨hc0,i0,v0,rfl,hl0,rfl,hv0,h⟩
  exact cast (lvc211_0 _ _ _ _ _ _).symm (bB (t:=TVS) hl0 h (fun ht0 h=>⟨hl0,⟨ht0,⟨(aQ h_rows i0),⟨h_row,(oC h (fun _ h=>(aZ (t:=TVS) (fun _ hm=>⟨hc0,hm⟩) _ rfl hl0 ht0 (bz h_rows) trivial h)) fun _ h=>(aZ (t:=TVS) (fun _ hm=>⟨hc0,hm⟩) _ rfl hl0 ht0 (bz h_rows) trivial h))⟩⟩⟩⟩) fun h=>(h trivial))
 ·rw[vc211]
  exact(bn (t:=TVS) (fun m hm=>⟨trivial,hm⟩) _ rfl trivial (aT h (fun v0 h hv0=>h) (fun _ h=>h.elim)))
def c193:Con:=⟨[.lent TVS,.dat TVS],fun args hp K=>g2 (pB TVS) (pD TVS) (fun rows row=>(Sm (Ty.sl TVS) rows)/\(Sm TVS row)/\K (dB (decide (0<(M.fT rows row:Int)))) []) args hp,.plain,false⟩
abbrev C193:Ctx:=cx [(211,c211)] 9 [] 0 false
def ann193:=an [[kp 3],[kp 16]] []
theorem vc193 (rows:(List LV)) (row:LV) (K:KA):vcT C193 aB ann193 f193 [.brw TVS rows,.data TVS row] [] (.dat Ty.bool) K =
 ((Sm (Ty.sl TVS) rows)/\(Sm TVS row)/\K (dB (decide (Z0<(M.fT rows row:Int)))) []):=by kernel_rfl
theorem con193_ok:bf P 193 c193:=br C193 func193 (kC con211_ok kN) fun args hp K h0=>by
 obtain⟨rows,row,rfl,rfl,h_rows,h_row,hK⟩:=g2e h0
 have h:ok (F.uG rows row) (fun r=>K (dB r) []):=az (F.xG rows row h_rows h_row) hK
 refine⟨rfl,ann193,aB,(.dat Ty.bool),(aH (by kernel_rfl)),?_⟩
 ·rw[vc193]
  exact⟨h_rows,⟨h_row,h⟩⟩
def c161:Con:=⟨[.dat (Ty.sl TVS)],fun args hp K=>g1 (pD (Ty.sl TVS)) (fun rows=>(Sm (Ty.sl TVS) rows)/\(LD (M.iD rows) fun r=>K (.clp 0 (r.length:Int)) [(0,.arr .dp TVS r)])) args hp,.bor,false⟩
abbrev C161:Ctx:=cx [(113,c113),(193,c193)] 23 [] 0 true
def ann161:=an [[kp 1],[.weak 3,kp 9],[kp 456],[kp 968],[kp 488],[kp 33256],[kp 456],[kp 456],[kp 4]] [[kp 8]]
abbrev s161_0 (rows:(List LV)) (i0:Int) (v0:(List LV)):St:=⟨[(3,.own 3 none),(6,.data (Ty.sl TVS) rows),(7,dI (rows.length:Int)),(8,dI i0)],[(3,.arr .sh TVS v0)]⟩
abbrev LP161_0 (rows:(List LV)) (m:Nat) (st_:St) (K:KX):Prop:=True/\bX (t:=TVS) (s161_0 rows) rows (F.fN rows) (fun v0:(List LV)=>True) (bg (fun v0:(List LV)=>True->K (.exit 0) (⟨[(3,.own 3 none)],[(3,.arr .sh TVS v0)]⟩:St)) (fun _=>False)) m st_
def L161 (rows:(List LV)):bH:=lp1 0 (LP161_0 rows)
theorem vc161 (rows:(List LV)) (K:KA):vcT C161 (L161 rows) ann161 f161 [.data (Ty.sl TVS) rows] [] .raw K =
 (∃m_,True/\bX (t:=TVS) (s161_0 rows) rows (F.fN rows) (fun v0:(List LV)=>True) (bg (fun v0:(List LV)=>True->(Sm (Ty.sl TVS) v0)/\(LD v0 fun r1=>K (.clp 0 ((r1.take (r1.length:Int).toNat).length:Int)) [(0,.arr .dp TVS (r1.take (r1.length:Int).toNat))])) (fun _=>False)) m_ (s161_0 rows Z0 [])):=by kernel_rfl
theorem lvc161_0 (rows:(List LV))  (i0:Int) (v0:(List LV)) (m:Nat) (K:KX):lvT C161 (L161 rows) ann161 f161 0 0 (s161_0 rows i0 v0) m K =
 (cond (decide (i0<(rows.length:Int))) ((0<=i0)/\(i0<(rows.length:Int))/\(Sm (Ty.sl TVS) v0)/\(Sm TVS (nth (t:=TVS) rows i0))/\cond (!(decide (0<(M.fT v0 (nth (t:=TVS) rows i0):Int)))) (((v0.length+[(nth (t:=TVS) rows i0)].length) * 24<=lim)/\(nxT (LP161_0 rows) m K (s161_0 rows (wrap64 (i0+Z1)) (v0++[(nth (t:=TVS) rows i0)])))) (nxT (LP161_0 rows) m K (s161_0 rows (wrap64 (i0+Z1)) v0))) (K (.exit 0) (⟨[(3,.own 3 none)],[(3,.arr .sh TVS v0)]⟩:St))):=by kernel_rfl
theorem con161_ok:bf P 161 c161:=br C161 func161 (kC con113_ok (kC con193_ok kN)) fun args hp K h0=>by
 obtain⟨rows,rfl,rfl,h_rows,hK⟩:=g1e h0
 have h:ok (F.nR rows) (fun r=>K (.clp 0 (r.length:Int)) [(0,.arr .dp TVS r)]):=az (F.we rows h_rows) (hK _ rfl)
 refine⟨rfl,ann161,(L161 rows),.raw,(bL (i0:=0) (by kernel_rfl) ?_),?_⟩
 ·rintro _ _ K ⟨hc0,i0,v0,rfl,hl0,rfl,hv0,h⟩
  exact cast (lvc161_0 _ _ _ _ _).symm (bB (t:=TVS) hl0 h (fun ht0 h=>⟨hl0,⟨ht0,(oG h fun _ h=>⟨(aQ h_rows i0),(oC h (fun _ h=>(oG h fun _ h=>(aZ (t:=TVS) (fun _ hm=>⟨hc0,hm⟩) _ rfl hl0 ht0 (bz h_rows) trivial h))) fun _ h=>(aZ (t:=TVS) (fun _ hm=>⟨hc0,hm⟩) _ rfl hl0 ht0 (bz h_rows) trivial h))⟩)⟩⟩) fun h=>(h trivial))
 ·rw[vc161]
  exact(bn (t:=TVS) (fun m hm=>⟨trivial,hm⟩) _ rfl trivial (aT h (fun v0 h hv0=>(oG h fun _ h=>(oL h fun _ _ h=>h))) (fun _ h=>h.elim)))
def c112:Con:=⟨[.dat ah,.dat TTb,.lent (Ty.sl TVS)],fun args hp K=>g3 (pD ah) (pD TTb) (pB (Ty.sl TVS)) (fun s tables ahead=>(Sm ah s)/\(Sm TTb tables)/\(Sm (Ty.sl (Ty.sl TVS)) ahead)/\(M.rR tables ahead s)/\(LD (M.cI tables ahead s) fun r=>K (.data (Ty.sl TVS) r) [])) args hp,.plain,false⟩
abbrev C112:Ctx:=cx [(87,c87),(158,c158),(159,c159),(160,c160),(161,c161)] 126 [] 0 false
def ann112:=an [[.fixRow 3 ah,kp 14],[kp 142],[kp 262286],[kp 786574],[kp 64],[kp 134480012],[kp 60129542280],[kp 128849019016],[kp 60129542792],[kp 4458176053896],[kp 60129542280],[kp 60129542280],[kp 281474976972940],[kp 126100789566374024],[kp 270215977642229896],[kp 126100789566376072],[kp 126100789566374024],[kp 126100789566374024],[.keep [2,3,7,18,68]],[kp 132226261520350065983628],[kp 283341988972178712821900],[kp 132226261520350065991820],[kp 135531918058358817633083532],[kp 290274422969031351995474060],[kp 135531918058358817633116300],[kp 135531918058358817633149068],[kp 79363694432322696411177099404],[kp 135531918058358817633083532],[kp 135531918058358817633083532],[kp 132226261520350065983628],[.keep [2,3,7,18,103]],[kp 64],[.keep [2,3,7,117]],[.weak 124,.freeze 124,kp 64],[kp 64]] [[],[kp 128],[],[kp 128],[],[kp 128],[],[kp 132226261520350065983628]]
abbrev s112_1 (s:ah.D) (tables:LTb) (ahead:(List (List LV))) (i1:Int) (v1:(List LV)):St:=⟨[(3,.adr ah s),(7,.own 7 none),(33,.data (Ty.sl TVS) (nth (t:=(Ty.sl TVS)) ahead s.2.1)),(34,dI ((nth (t:=(Ty.sl TVS)) ahead s.2.1).length:Int)),(35,dI i1)],[(7,.arr .sh TVS v1)]⟩
abbrev LP112_1 (s:ah.D) (tables:LTb) (ahead:(List (List LV))) (m:Nat) (st_:St) (K:KX):Prop:=True/\bX (t:=TVS) (s112_1 s tables ahead) (nth (t:=(Ty.sl TVS)) ahead s.2.1) (F.gr s tables ahead) (fun v1:(List LV)=>True) (bg (fun v1:(List LV)=>True->K (.exit 1) (⟨[(7,.own 7 none)],[(7,.arr .sh TVS v1)]⟩:St)) (fun _=>False)) m st_
abbrev s112_3 (s:ah.D) (tables:LTb) (ahead:(List (List LV))) (i3:Int) (v3:(List LV)):St:=⟨[(3,.adr ah s),(7,.own 7 none),(54,.data (Ty.sl TVS) (nth (t:=(Ty.sl TVS)) ahead s.2.1)),(55,dI ((nth (t:=(Ty.sl TVS)) ahead s.2.1).length:Int)),(56,dI i3)],[(7,.arr .sh TVS v3)]⟩
abbrev LP112_3 (s:ah.D) (tables:LTb) (ahead:(List (List LV))) (m:Nat) (st_:St) (K:KX):Prop:=True/\bX (t:=TVS) (s112_3 s tables ahead) (nth (t:=(Ty.sl TVS)) ahead s.2.1) (F.gH s tables ahead) (fun v3:(List LV)=>True) (bg (fun v3:(List LV)=>True->K (.exit 3) (⟨[(7,.own 7 none)],[(7,.arr .sh TVS v3)]⟩:St)) (fun _=>False)) m st_
abbrev s112_5 (s:ah.D) (tables:LTb) (ahead:(List (List LV))) (i5:Int) (v5:(List LV)):St:=⟨[(2,.brw (Ty.sl TVS) ahead),(3,.adr ah s),(7,.own 7 none),(74,.data (Ty.sl TVS) (nth (t:=(Ty.sl TVS)) ahead s.2.1)),(75,dI ((nth (t:=(Ty.sl TVS)) ahead s.2.1).length:Int)),(76,dI i5)],[(7,.arr .sh TVS v5)]⟩
abbrev LP112_5 (s:ah.D) (tables:LTb) (ahead:(List (List LV))) (m:Nat) (st_:St) (K:KX):Prop:=True/\cm (s112_5 s tables ahead) Z0 ((nth (t:=(Ty.sl TVS)) ahead s.2.1).length:Int) (F.gy s tables ahead) (fun v5:(List LV)=>True) (bg (fun v5:(List LV)=>True->K (.exit 5) (⟨[(7,.own 7 none)],[(7,.arr .sh TVS v5)]⟩:St)) (fun _=>False)) m st_
abbrev s112_7 (s:ah.D) (tables:LTb) (ahead:(List (List LV))) (c7_0:LV) (c7_1:Int) (i7:Int) (v7:(List LV)):St:=⟨[(2,.brw (Ty.sl TVS) ahead),(3,.adr ah s),(7,.own 7 none),(13,.data TVS c7_0),(74,.data (Ty.sl TVS) (nth (t:=(Ty.sl TVS)) ahead s.2.1)),(75,dI ((nth (t:=(Ty.sl TVS)) ahead s.2.1).length:Int)),(76,dI c7_1),(84,.data (Ty.sl TVS) (nth (t:=(Ty.sl TVS)) ahead s.2.2.1)),(85,dI ((nth (t:=(Ty.sl TVS)) ahead s.2.2.1).length:Int)),(86,dI i7)],[(7,.arr .sh TVS v7)]⟩
abbrev LP112_7 (s:ah.D) (tables:LTb) (ahead:(List (List LV))) (m:Nat) (st_:St) (K:KX):Prop:=∃c7_0:LV,∃c7_1:Int,(Sm TVS c7_0/\True)/\bX (t:=TVS) (s112_7 s tables ahead c7_0 c7_1) (nth (t:=(Ty.sl TVS)) ahead s.2.2.1) (F.gI s tables ahead c7_0 c7_1) (fun v7:(List LV)=>True) (bg (fun v7:(List LV)=>True->K (.exit 7) (⟨[(2,.brw (Ty.sl TVS) ahead),(3,.adr ah s),(7,.own 7 none),(74,.data (Ty.sl TVS) (nth (t:=(Ty.sl TVS)) ahead s.2.1)),(75,dI ((nth (t:=(Ty.sl TVS)) ahead s.2.1).length:Int)),(76,dI c7_1)],[(7,.arr .sh TVS v7)]⟩:St)) (fun _=>False)) m st_
def L112 (s:ah.D) (tables:LTb) (ahead:(List (List LV))):bH:=fun id m st_ K=>match id with
 | 1=>LP112_1 s tables ahead m st_ K
 | 3=>LP112_3 s tables ahead m st_ K
 | 5=>LP112_5 s tables ahead m st_ K
 | 7=>LP112_7 s tables ahead m st_ K
 | _=>False
theorem vc112 (s:ah.D) (tables:LTb) (ahead:(List (List LV))) (K:KA):vcT C112 (L112 s tables ahead) ann112 f112 [.data ah s,.data TTb tables,.brw (Ty.sl TVS) ahead] [] (.dat (Ty.sl TVS)) K =
 (cond (decide (s.1=Z1)) ((0<=s.2.2.2.1)/\(s.2.2.2.1<(tables.length:Int))/\K (.data (Ty.sl TVS) (nT tables s.2.2.2.1).2.1) []) (cond (decide (s.1=Z2)) ((0<=s.2.1)/\(s.2.1<(ahead.length:Int))/\(∃m_,True/\bX (t:=TVS) (s112_1 s tables ahead) (nth (t:=(Ty.sl TVS)) ahead s.2.1) (F.gr s tables ahead) (fun v1:(List LV)=>True) (bg (fun v1:(List LV)=>True->K (.data (Ty.sl TVS) v1) []) (fun _=>False)) m_ (s112_1 s tables ahead Z0 []))) (cond (decide (s.1=Z3)) ((0<=s.2.1)/\(s.2.1<(ahead.length:Int))/\(∃m_,True/\bX (t:=TVS) (s112_3 s tables ahead) (nth (t:=(Ty.sl TVS)) ahead s.2.1) (F.gH s tables ahead) (fun v3:(List LV)=>True) (bg (fun v3:(List LV)=>True->K (.data (Ty.sl TVS) v3) []) (fun _=>False)) m_ (s112_3 s tables ahead Z0 []))) (cond (decide (s.1=Z4)) ((0<=s.2.1)/\(s.2.1<(ahead.length:Int))/\(∃m_,True/\cm (s112_5 s tables ahead) Z0 ((nth (t:=(Ty.sl TVS)) ahead s.2.1).length:Int) (F.gy s tables ahead) (fun v5:(List LV)=>True) (bg (fun v5:(List LV)=>True->K (.data (Ty.sl TVS) v5) []) (fun _=>False)) m_ (s112_5 s tables ahead Z0 []))) (cond (decide (s.1=Z5)) ((0<=s.2.1)/\(s.2.1<(ahead.length:Int))/\(0<=s.2.2.1)/\(s.2.2.1<(ahead.length:Int))/\(Sm (Ty.sl (Ty.sl TVS)) [(nth (t:=(Ty.sl TVS)) ahead s.2.1),(nth (t:=(Ty.sl TVS)) ahead s.2.2.1)])/\(LD (List.flatten [(nth (t:=(Ty.sl TVS)) ahead s.2.1),(nth (t:=(Ty.sl TVS)) ahead s.2.2.1)]) fun r1=>K (.data (Ty.sl TVS) r1) [])) (cond (decide (s.1=Z6)) ((0<=s.2.1)/\(s.2.1<(ahead.length:Int))/\(Sm (Ty.sl TVS) (nth (t:=(Ty.sl TVS)) ahead s.2.1))/\(LD (M.iD (nth (t:=(Ty.sl TVS)) ahead s.2.1)) fun r2=>K (.data (Ty.sl TVS) (ay r2 (some (Z0,(r2.length:Int))))) [])) (K (.data (Ty.sl TVS) []) []))))))):=by kernel_rfl
theorem lvc112_0 (s:ah.D) (tables:LTb) (ahead:(List (List LV)))  (i1:Int) (v1:(List LV)) (m:Nat) (K:KX):lvT C112 (L112 s tables ahead) ann112 f112 0 1 (s112_1 s tables ahead i1 v1) m K =
 (cond (decide (i1<((nth (t:=(Ty.sl TVS)) ahead s.2.1).length:Int))) ((0<=i1)/\(i1<((nth (t:=(Ty.sl TVS)) ahead s.2.1).length:Int))/\(Sm TVS (nth (t:=TVS) (nth (t:=(Ty.sl TVS)) ahead s.2.1) i1))/\(Sm TPS s.2.2.2.2.1)/\(M.fZ (nth (t:=TVS) (nth (t:=(Ty.sl TVS)) ahead s.2.1) i1).length s.2.2.2.2.1)/\cond (M.holds (nth (t:=TVS) (nth (t:=(Ty.sl TVS)) ahead s.2.1) i1) s.2.2.2.2.1) (((v1.length+[(nth (t:=TVS) (nth (t:=(Ty.sl TVS)) ahead s.2.1) i1)].length) * 24<=lim)/\(nxT (LP112_1 s tables ahead) m K (s112_1 s tables ahead (wrap64 (i1+Z1)) (v1++[(nth (t:=TVS) (nth (t:=(Ty.sl TVS)) ahead s.2.1) i1)])))) (nxT (LP112_1 s tables ahead) m K (s112_1 s tables ahead (wrap64 (i1+Z1)) v1))) (K (.exit 1) (⟨[(7,.own 7 none)],[(7,.arr .sh TVS v1)]⟩:St))):=by kernel_rfl
theorem lvc112_1 (s:ah.D) (tables:LTb) (ahead:(List (List LV)))  (i3:Int) (v3:(List LV)) (m:Nat) (K:KX):lvT C112 (L112 s tables ahead) ann112 f112 1 3 (s112_3 s tables ahead i3 v3) m K =
 (cond (decide (i3<((nth (t:=(Ty.sl TVS)) ahead s.2.1).length:Int))) ((0<=i3)/\(i3<((nth (t:=(Ty.sl TVS)) ahead s.2.1).length:Int))/\(Sm TVS (nth (t:=TVS) (nth (t:=(Ty.sl TVS)) ahead s.2.1) i3))/\(Sm (Ty.sl aC) s.2.2.2.2.2.1)/\(M.Bc (nth (t:=TVS) (nth (t:=(Ty.sl TVS)) ahead s.2.1) i3) s.2.2.2.2.2.1)/\(LD (M.taken (nth (t:=TVS) (nth (t:=(Ty.sl TVS)) ahead s.2.1) i3) s.2.2.2.2.2.1) fun r3=>((v3.length+[r3].length) * 24<=lim)/\(nxT (LP112_3 s tables ahead) m K (s112_3 s tables ahead (wrap64 (i3+Z1)) (v3++[r3]))))) (K (.exit 3) (⟨[(7,.own 7 none)],[(7,.arr .sh TVS v3)]⟩:St))):=by kernel_rfl
theorem lvc112_2 (s:ah.D) (tables:LTb) (ahead:(List (List LV)))  (i5:Int) (v5:(List LV)) (m:Nat) (K:KX):lvT C112 (L112 s tables ahead) ann112 f112 2 5 (s112_5 s tables ahead i5 v5) m K =
 (cond (decide (i5<((nth (t:=(Ty.sl TVS)) ahead s.2.1).length:Int))) ((0<=i5)/\(i5<((nth (t:=(Ty.sl TVS)) ahead s.2.1).length:Int))/\(0<=s.2.2.1)/\(s.2.2.1<(ahead.length:Int))/\(∃m_,∃c7_0:LV,∃c7_1:Int,(Sm TVS c7_0/\True)/\bX (t:=TVS) (s112_7 s tables ahead c7_0 c7_1) (nth (t:=(Ty.sl TVS)) ahead s.2.2.1) (F.gI s tables ahead c7_0 c7_1) (fun v7:(List LV)=>True) (bg (fun v7:(List LV)=>True->(nxT (LP112_5 s tables ahead) m K (s112_5 s tables ahead (wrap64 (c7_1+Z1)) v7))) (fun _=>False)) m_ (s112_7 s tables ahead (nth (t:=TVS) (nth (t:=(Ty.sl TVS)) ahead s.2.1) i5) i5 Z0 v5))) (K (.exit 5) (⟨[(7,.own 7 none)],[(7,.arr .sh TVS v5)]⟩:St))):=by kernel_rfl
theorem lvc112_3 (s:ah.D) (tables:LTb) (ahead:(List (List LV))) (c7_0:LV) (c7_1:Int) (i7:Int) (v7:(List LV)) (m:Nat) (K:KX):lvT C112 (L112 s tables ahead) ann112 f112 3 7 (s112_7 s tables ahead c7_0 c7_1 i7 v7) m K =
 (cond (decide (i7<((nth (t:=(Ty.sl TVS)) ahead s.2.2.1).length:Int))) ((0<=i7)/\(i7<((nth (t:=(Ty.sl TVS)) ahead s.2.2.1).length:Int))/\(Sm TVS c7_0)/\(Sm TVS (nth (t:=TVS) (nth (t:=(Ty.sl TVS)) ahead s.2.2.1) i7))/\(c7_0.length+(nth (t:=TVS) (nth (t:=(Ty.sl TVS)) ahead s.2.2.1) i7).length<=1048576)/\(LD (c7_0++(nth (t:=TVS) (nth (t:=(Ty.sl TVS)) ahead s.2.2.1) i7)) fun r4=>(Sm TVS (ay r4 (some (Z0,(r4.length:Int)))))/\(Sm TPS s.2.2.2.2.1)/\(M.fZ (ay r4 (some (Z0,(r4.length:Int)))).length s.2.2.2.2.1)/\cond (M.holds (ay r4 (some (Z0,(r4.length:Int)))) s.2.2.2.2.1) (((v7.length+[(ay r4 (some (Z0,(r4.length:Int))))].length) * 24<=lim)/\(nxT (LP112_7 s tables ahead) m K (s112_7 s tables ahead c7_0 c7_1 (wrap64 (i7+Z1)) (v7++[(ay r4 (some (Z0,(r4.length:Int))))])))) (nxT (LP112_7 s tables ahead) m K (s112_7 s tables ahead c7_0 c7_1 (wrap64 (i7+Z1)) v7)))) (K (.exit 7) (⟨[(2,.brw (Ty.sl TVS) ahead),(3,.adr ah s),(7,.own 7 none),(74,.data (Ty.sl TVS) (nth (t:=(Ty.sl TVS)) ahead s.2.1)),(75,dI ((nth (t:=(Ty.sl TVS)) ahead s.2.1).length:Int)),(76,dI c7_1)],[(7,.arr .sh TVS v7)]⟩:St))):=by kernel_rfl
theorem con112_ok:bf P 112 c112:=br C112 func112 (kC con87_ok (kC con158_ok (kC con159_ok (kC con160_ok (kC con161_ok kN))))) fun args hp K h0=>by
 obtain⟨s,tables,ahead,rfl,rfl,h_s,h_tables,h_ahead,p0,hK⟩:=g3e h0
 have h:ok (F.mL s tables ahead) (fun r=>K (.data (Ty.sl TVS) r) []):=az (F.uf s tables ahead h_s h_tables h_ahead p0) (hK _ rfl)
 refine⟨rfl,ann112,(L112 s tables ahead),(.dat (Ty.sl TVS)),(Fy (i0:=1) (i1:=3) (i2:=5) (i3:=7) (by kernel_rfl) ?_ ?_ ?_ ?_),?_⟩
 ·rintro _ _ K ⟨hc1,i1,v1,rfl,hl1,rfl,hv1,h⟩
  exact cast (lvc112_0 _ _ _ _ _ _ _).symm (bB (t:=TVS) hl1 h (fun ht1 h=>⟨hl1,⟨ht1,⟨(aQ (aQ h_ahead s.2.1) i1),⟨h_s.2.2.2.2.1,(oG h fun _ h=>(oC h (fun _ h=>(oG h fun _ h=>(aZ (t:=TVS) (fun _ hm=>⟨hc1,hm⟩) _ rfl hl1 ht1 (bz (aQ h_ahead s.2.1)) trivial h))) fun _ h=>(aZ (t:=TVS) (fun _ hm=>⟨hc1,hm⟩) _ rfl hl1 ht1 (bz (aQ h_ahead s.2.1)) trivial h)))⟩⟩⟩⟩) fun h=>(h trivial))
 ·rintro _ _ K ⟨hc3,i3,v3,rfl,hl3,rfl,hv3,h⟩
  exact cast (lvc112_1 _ _ _ _ _ _ _).symm (bB (t:=TVS) hl3 h (fun ht3 h=>⟨hl3,⟨ht3,⟨(aQ (aQ h_ahead s.2.1) i3),⟨h_s.2.2.2.2.2.1,(oG h fun _ h=>(oL h fun _ _ h=>(oG h fun _ h=>(aZ (t:=TVS) (fun _ hm=>⟨hc3,hm⟩) _ rfl hl3 ht3 (bz (aQ h_ahead s.2.1)) trivial h))))⟩⟩⟩⟩) fun h=>(h trivial))
 ·rintro _ _ K ⟨hc5,i5,v5,rfl,hl5,rfl,hv5,h⟩
  exact cast (lvc112_2 _ _ _ _ _ _ _).symm (bM h (fun ht5 h=>⟨hl5,⟨ht5,(oG h fun _ h=>(oG h fun _ h=>(bn (t:=TVS) (fun m hm=>⟨(nth (t:=TVS) (nth (t:=(Ty.sl TVS)) ahead s.2.1) i5),i5,⟨(aQ (aQ h_ahead s.2.1) i5),trivial⟩,hm⟩) _ rfl trivial (aT h (fun v7 h hv7=>(aN (fun _ hm=>⟨hc5,hm⟩) _ rfl hl5 fS ht5 (bz (aQ h_ahead s.2.1)) trivial h)) (fun _ h=>h.elim)))))⟩⟩) fun h=>(h trivial))
 ·rintro _ _ K ⟨c7_0,c7_1,hc7,i7,v7,rfl,hl7,rfl,hv7,h⟩
  exact cast (lvc112_3 _ _ _ _ _ _ _ _ _).symm (bB (t:=TVS) hl7 h (fun ht7 h=>⟨hl7,⟨ht7,⟨hc7.1,⟨(aQ (aQ h_ahead s.2.2.1) i7),(oG h fun _ h=>(oL h fun _ _ h=>(oG h fun _ h=>⟨h_s.2.2.2.2.1,(oG h fun _ h=>(oC h (fun _ h=>(oG h fun _ h=>(aZ (t:=TVS) (fun _ hm=>⟨c7_0,c7_1,hc7,hm⟩) _ rfl hl7 ht7 (bz (aQ h_ahead s.2.2.1)) trivial h))) fun _ h=>(aZ (t:=TVS) (fun _ hm=>⟨c7_0,c7_1,hc7,hm⟩) _ rfl hl7 ht7 (bz (aQ h_ahead s.2.2.1)) trivial h)))⟩)))⟩⟩⟩⟩) fun h=>(h trivial))
 ·rw[vc112]
  exact(oC h (fun _ h=>(oG h fun _ h=>(oG h fun _ h=>h))) fun _ h=>(oC h (fun _ h=>(oG h fun _ h=>(oG h fun _ h=>(bn (t:=TVS) (fun m hm=>⟨trivial,hm⟩) _ rfl trivial (aT h (fun v1 h hv1=>h) (fun _ h=>h.elim)))))) fun _ h=>(oC h (fun _ h=>(oG h fun _ h=>(oG h fun _ h=>(bn (t:=TVS) (fun m hm=>⟨trivial,hm⟩) _ rfl trivial (aT h (fun v3 h hv3=>h) (fun _ h=>h.elim)))))) fun _ h=>(oC h (fun _ h=>(oG h fun _ h=>(oG h fun _ h=>(bA (fun m hm=>⟨trivial,hm⟩) Z0 _ rfl (Int.natCast_nonneg 0) trivial (aT h (fun v5 h hv5=>h) (fun _ h=>h.elim)))))) fun _ h=>(oC h (fun _ h=>(oG h fun _ h=>(oG h fun _ h=>(oG h fun _ h=>(oG h fun _ h=>(oG h fun _ h=>(oL h fun _ _ h=>h))))))) fun _ h=>(oC h (fun _ h=>(oG h fun _ h=>(oG h fun _ h=>⟨(aQ h_ahead s.2.1),(oL h fun _ _ h=>h)⟩))) fun _ h=>h))))))
def c61:Con:=⟨[.dat TTb,.dat TSS],fun args hp K=>g2 (pD TTb) (pD TSS) (fun tables plan=>(Sm TTb tables)/\(Sm TSS plan)/\(M.bC tables plan=true)/\(LD (M.dG tables plan) fun r=>K (.clp 0 (r.length:Int)) [(0,.arr .dp TVS r)])) args hp,.bor,false⟩
abbrev C61:Ctx:=cx [(112,c112),(113,c113)] 29 [] 0 true
def ann61:=an [[kp 3],[.weak 5,kp 35],[kp 1825],[kp 3873],[.fixRow 7 ah,kp 1953],[kp 1825],[kp 1825],[kp 16]] [[kp 32]]
abbrev s61_0 (tables:LTb) (plan:LS) (i0:Int) (v0:(List (List LV))):St:=⟨[(0,.data TTb tables),(5,.own 5 none),(8,.data TSS plan),(9,dI (plan.length:Int)),(10,dI i0)],[(5,.arr .sh (Ty.sl TVS) v0)]⟩
abbrev LP61_0 (tables:LTb) (plan:LS) (m:Nat) (st_:St) (K:KX):Prop:=True/\bX (t:=ah) (s61_0 tables plan) plan (F.fG tables plan) (fun v0:(List (List LV))=>True) (bg (fun v0:(List (List LV))=>True->K (.exit 0) (⟨[(5,.own 5 none)],[(5,.arr .sh (Ty.sl TVS) v0)]⟩:St)) (fun _=>False)) m st_
def L61 (tables:LTb) (plan:LS):bH:=lp1 0 (LP61_0 tables plan)
theorem vc61 (tables:LTb) (plan:LS) (K:KA):vcT C61 (L61 tables plan) ann61 f61 [.data TTb tables,.data TSS plan] [] .raw K =
 (∃m_,True/\bX (t:=ah) (s61_0 tables plan) plan (F.fG tables plan) (fun v0:(List (List LV))=>True) (bg (fun v0:(List (List LV))=>True->(0<=wrap64 ((v0.length:Int)-Z1))/\(wrap64 ((v0.length:Int)-Z1)<(v0.length:Int))/\(Sm (Ty.sl TVS) (nth (t:=(Ty.sl TVS)) v0 (wrap64 ((v0.length:Int)-Z1))))/\(LD (nth (t:=(Ty.sl TVS)) v0 (wrap64 ((v0.length:Int)-Z1))) fun r1=>K (.clp 0 ((r1.take (r1.length:Int).toNat).length:Int)) [(0,.arr .dp TVS (r1.take (r1.length:Int).toNat))])) (fun _=>False)) m_ (s61_0 tables plan Z0 [])):=by kernel_rfl
theorem lvc61_0 (tables:LTb) (plan:LS)  (i0:Int) (v0:(List (List LV))) (m:Nat) (K:KX):lvT C61 (L61 tables plan) ann61 f61 0 0 (s61_0 tables plan i0 v0) m K =
 (cond (decide (i0<(plan.length:Int))) ((0<=i0)/\(i0<(plan.length:Int))/\(Sm ah (nS plan i0))/\(Sm TTb tables)/\(Sm (Ty.sl (Ty.sl TVS)) v0)/\(M.rR tables v0 (nS plan i0))/\(LD (M.cI tables v0 (nS plan i0)) fun r2=>((v0.length+[r2].length) * 24<=lim)/\(nxT (LP61_0 tables plan) m K (s61_0 tables plan (wrap64 (i0+Z1)) (v0++[r2]))))) (K (.exit 0) (⟨[(5,.own 5 none)],[(5,.arr .sh (Ty.sl TVS) v0)]⟩:St))):=by kernel_rfl
theorem con61_ok:bf P 61 c61:=br C61 func61 (kC con112_ok (kC con113_ok kN)) fun args hp K h0=>by
 obtain⟨tables,plan,rfl,rfl,h_tables,h_plan,p0,hK⟩:=g2e h0
 have h:ok (F.nK tables plan) (fun r=>K (.clp 0 (r.length:Int)) [(0,.arr .dp TVS r)]):=az (F.vZ tables plan h_tables h_plan p0) (hK _ rfl)
 refine⟨rfl,ann61,(L61 tables plan),.raw,(bL (i0:=0) (by kernel_rfl) ?_),?_⟩
 ·rintro _ _ K ⟨hc0,i0,v0,rfl,hl0,rfl,hv0,h⟩
  exact cast (lvc61_0 _ _ _ _ _ _).symm (bB (t:=ah) hl0 h (fun ht0 h=>⟨hl0,⟨ht0,⟨(aQ h_plan i0),⟨h_tables,(oG h fun _ h=>(oG h fun _ h=>(oL h fun _ _ h=>(oG h fun _ h=>(aZ (t:=ah) (fun _ hm=>⟨hc0,hm⟩) _ rfl hl0 ht0 (bz h_plan) trivial h)))))⟩⟩⟩⟩) fun h=>(h trivial))
 ·rw[vc61]
  exact(bn (t:=ah) (fun m hm=>⟨trivial,hm⟩) _ rfl trivial (aT h (fun v0 h hv0=>(oG h fun _ h=>(oG h fun _ h=>(oG h fun _ h=>(oL h fun _ _ h=>h))))) (fun _ h=>h.elim)))
def c22:Con:=⟨[.dat TTb,.dat TSS],fun args hp K=>g2 (pD TTb) (pD TSS) (fun tables plan=>(Sm TTb tables)/\(Sm TSS plan)/\(LD (M.dG tables plan) fun r=>K (.clp 0 (r.length:Int)) [(0,.arr .dp TVS r)])) args hp,.bor,false⟩
abbrev C22:Ctx:=cx [(20,c20),(61,c61)] 12 [] 0 true
def ann22:=an [[kp 3],[kp 259],[.clip 4,kp 16],[kp 16]] []
theorem vc22 (tables:LTb) (plan:LS) (K:KA):vcT C22 aB ann22 f22 [.data TTb tables,.data TSS plan] [] .raw K =
 ((Sm TTb tables)/\(Sm TSS plan)/\cond (!(M.bC tables plan)) (K (.clp 0 (([]:List TVS.D).length:Int)) [(0,.arr .dp TVS ([]:List TVS.D))]) ((Sm TTb tables)/\(Sm TSS plan)/\(M.bC tables plan=true)/\(LD (M.dG tables plan) fun r1=>K (.clp 0 ((r1.take (r1.length:Int).toNat).length:Int)) [(0,.arr .dp TVS (r1.take (r1.length:Int).toNat))]))):=by kernel_rfl
theorem con22_ok:bf P 22 c22:=br C22 func22 (kC con20_ok (kC con61_ok kN)) fun args hp K h0=>by
 obtain⟨tables,plan,rfl,rfl,h_tables,h_plan,hK⟩:=g2e h0
 have h:ok (F.nX tables plan) (fun r=>K (.clp 0 (r.length:Int)) [(0,.arr .dp TVS r)]):=az (F.vp tables plan h_tables h_plan) (hK _ rfl)
 refine⟨rfl,ann22,aB,.raw,(aH (by kernel_rfl)),?_⟩
 ·rw[vc22]
  exact⟨h_tables,⟨h_plan,(oC h (fun _ h=>h) fun b_1 h=>⟨h_tables,⟨h_plan,⟨(bnf b_1),(oL h fun _ _ h=>h)⟩⟩⟩)⟩⟩
def c170:Con:=⟨[.dat aC,.dat aC],fun args hp K=>g2 (pD aC) (pD aC) (fun x y=>K (dB (decide (x<y))) []) args hp,.plain,false⟩
abbrev C170:Ctx:=cx [(200,c200)] 17 [] 0 false
def ann170:=an [[kp 3],[kp 16]] []
theorem vc170 (x:Int) (y:Int) (K:KA):vcT C170 aB ann170 f170 [dI x,dI y] [] (.dat Ty.bool) K =
 (cond (false==true) (cond ((!false)==false) (K (dB (decide (x<y))) []) (K (dB true) [])) (K (dB (decide (x<y))) [])):=by kernel_rfl
theorem con170_ok:bf P 170 c170:=br C170 func170 (kC con200_ok kN) fun args hp K h0=>by
 obtain⟨x,y,rfl,rfl,hK⟩:=g2e h0
 have h:ok (F.va x y) (fun r=>K (dB r) []):=az (F.xh x y) hK
 refine⟨rfl,ann170,aB,(.dat Ty.bool),(aH (by kernel_rfl)),?_⟩
 ·rw[vc170]
  exact(oC h (fun b_1 h=>(bE (ugt (unf (bet b_1))) h)) fun _ h=>h)
def c164:Con:=⟨[.dat aC,.dat aC],fun args hp K=>hpN 1000000 .sh aC (fun xs=>wO (fun a0 a1 a2=>CV 1000000 (xs.length:Int) a0 (ff aC a1 fun a=>ff aC a2 fun b=>(Sm (Ty.sl aC) xs)/\(a=0)/\(b=(xs.length:Int))/\(LD (M.gS xs) fun r=>K (.tup []) [(1000000,.arr .sh aC r)]))) args []) hp,.io,false⟩
abbrev C164:Ctx:=cx [(170,c170)] 49 [] 0 false
def ann164:=an [[kp 71],[kp 4167],[kp 71],[kp 199],[kp 1073742023],[kp 199],[kp 199]] [[kp 0],[],[kp 71]]
abbrev s164_0 (xs:LI) (a:Int) (b:Int) (i0:Int) (v0:LI):St:=⟨[(0,.clp 1000000 (xs.length:Int)),(1,dI a),(2,dI b),(6,dI i0)],[(1000000,.arr .sh aC v0)]⟩
abbrev LP164_0 (xs:LI) (a:Int) (b:Int) (m:Nat) (st_:St) (K:KX):Prop:=(b<=ew/\True)/\cm (s164_0 xs a b) Z0 b (F.cU xs a b) (fun v0:LI=>True) (bg (fun v0:LI=>True->K (.exit 0) (⟨[],[(1000000,.arr .sh aC v0)]⟩:St)) (fun _=>False)) m st_
abbrev s164_2 (xs:LI) (a:Int) (b:Int) (c2_0:Int) (v2:Int×LI):St:=⟨[(0,.clp 1000000 (xs.length:Int)),(1,dI a),(2,dI b),(6,dI c2_0),(7,dI v2.1)],[(1000000,.arr .sh aC v2.2)]⟩
abbrev LP164_2 (xs:LI) (a:Int) (b:Int) (m:Nat) (st_:St) (K:KX):Prop:=∃c2_0:Int,True/\ep (s164_2 xs a b c2_0) (F.ct xs a b c2_0) (fun v2:Int×LI=>True) (fun e2:LI=>True->K (.exit 2) (⟨[(0,.clp 1000000 (xs.length:Int)),(1,dI a),(2,dI b),(6,dI c2_0)],[(1000000,.arr .sh aC e2)]⟩:St)) m st_
def L164 (xs:LI) (a:Int) (b:Int):bH:=lp2 0 (LP164_0 xs a b) 2 (LP164_2 xs a b)
theorem vc164 (xs:LI) (a:Int) (b:Int) (K:KA):vcT C164 (L164 xs a b) ann164 f164 [.clp 1000000 (xs.length:Int),dI a,dI b] [(1000000,.arr .sh aC xs)] .raw K =
 (∃m_,(b<=ew/\True)/\cm (s164_0 xs a b) Z0 b (F.cU xs a b) (fun v0:LI=>True) (bg (fun v0:LI=>True->K (.tup []) [(1000000,.arr .sh aC v0)]) (fun _=>False)) m_ (s164_0 xs a b (wrap64 (a+Z1)) xs)):=by kernel_rfl
theorem lvc164_0 (xs:LI) (a:Int) (b:Int)  (i0:Int) (v0:LI) (m:Nat) (K:KX):lvT C164 (L164 xs a b) ann164 f164 0 0 (s164_0 xs a b i0 v0) m K =
 (cond (decide (i0<b)) (∃m_,∃c2_0:Int,True/\ep (s164_2 xs a b c2_0) (F.ct xs a b c2_0) (fun v2:Int×LI=>True) (fun e2:LI=>True->(nxT (LP164_0 xs a b) m K (s164_0 xs a b (wrap64 (c2_0+Z1)) e2))) m_ (s164_2 xs a b i0 (i0,v0))) (K (.exit 0) (⟨[],[(1000000,.arr .sh aC v0)]⟩:St))):=by kernel_rfl
abbrev S164l2_0 (xs:LI) (a:Int) (b:Int) (c2_0:Int) (v2:Int×LI) (m:Nat) (K:KX):Prop:=K (.exit 2) (⟨[(0,.clp 1000000 (xs.length:Int)),(1,dI a),(2,dI b),(6,dI c2_0)],[(1000000,.arr .sh aC v2.2)]⟩:St)
theorem lvc164_1 (xs:LI) (a:Int) (b:Int) (c2_0:Int) (v2:Int×LI) (m:Nat) (K:KX):lvT C164 (L164 xs a b) ann164 f164 1 2 (s164_2 xs a b c2_0 v2) m K =
 (cond ((decide (a<v2.1))==true) ((0<=v2.1)/\(v2.1<(xs.length:Int))/\(0<=wrap64 (v2.1-Z1))/\(wrap64 (v2.1-Z1)<(xs.length:Int))/\cond (decide ((nI v2.2 v2.1)<(nI v2.2 (wrap64 (v2.1-Z1))))) ((0<=wrap64 (v2.1-Z1))/\(wrap64 (v2.1-Z1)<(xs.length:Int))/\(0<=v2.1)/\(v2.1<(xs.length:Int))/\(0<=v2.1)/\(v2.1<(xs.length:Int))/\(0<=wrap64 (v2.1-Z1))/\(wrap64 (v2.1-Z1)<(xs.length:Int))/\(let y1:LI:=((v2.2.set v2.1.toNat (nI v2.2 (wrap64 (v2.1-Z1)))).set (wrap64 (v2.1-Z1)).toNat (nI v2.2 v2.1));(nxT (LP164_2 xs a b) m K (s164_2 xs a b c2_0 (wrap64 (v2.1-Z1),y1))))) (S164l2_0  xs a b c2_0 v2 m K)) (S164l2_0  xs a b c2_0 v2 m K)):=by kernel_rfl
theorem con164_ok:bf P 164 c164:=br C164 func164 (kC con170_ok kN) fun args hp K h0=>by
 unfold c164 at h0
 dsimp only at h0
 obtain⟨xs,rfl,h00⟩:=rC (n:=1000000) (d:=.sh) (t:=aC) h0
 obtain⟨a0,a1,a2,rfl,_,h1⟩:=jP h00
 obtain⟨rfl,h2⟩:=tw h1
 obtain⟨a,rfl,h3⟩:=bp h2
 obtain⟨b,rfl,h4⟩:=bp h3
 obtain⟨h_xs,p0,p1,hK⟩:=h4
 have h:ok (F.gT xs a b) (fun r=>K (.tup []) [(1000000,.arr .sh aC r)]):=az (F.oK xs a b h_xs p0 p1) (hK _ rfl)
 refine⟨rfl,ann164,(L164 xs a b),.raw,(lS (i0:=0) (i1:=2) (by kernel_rfl) ?_ ?_),?_⟩
 ·rintro _ _ K ⟨hc0,i0,v0,rfl,hl0,rfl,hv0,h⟩
  exact cast (lvc164_0 _ _ _ _ _ _ _).symm (bM h (fun ht0 h=>(cj (fun m hm=>⟨i0,trivial,hm⟩) _ rfl trivial (gA h (fun e2 h hv2=>(aN (fun _ hm=>⟨hc0,hm⟩) _ rfl hl0 fS ht0 hc0.1 trivial h))))) fun h=>(h trivial))
 ·rintro _ _ K ⟨c2_0,hc2,v2,rfl,hv2,h⟩
  exact cast (lvc164_1 _ _ _ _ _ _ _).symm (cS h (fun m1 hm2 h=>(oC h (fun _ h=>(oG h fun g1 h=>(oG h fun g2 h=>(oG h fun g3 h=>(oG h fun g4 h=>(oC h (fun _ h=>⟨g3,⟨g4,⟨g1,⟨g2,⟨g1,⟨g2,⟨g3,⟨g4,(have h:=cL h _ rfl;(aX (fun _ hm=>⟨c2_0,hc2,hm⟩) hm2 _ rfl trivial h))⟩⟩⟩⟩⟩⟩⟩⟩) fun _ h=>((cB h :) trivial))))))) fun _ h=>((cB h :) trivial))))
 ·rw[vc164]
  exact(have hi_0:=(aD h).1;have hlo:=(aD (aD h).2).1;have h:=(aD (aD h).2).2;(bA (fun m hm=>⟨⟨hi_0,trivial⟩,hm⟩) (wrap64 (a+Z1)) _ rfl hlo trivial (aT h (fun v0 h hv0=>h) (fun _ h=>h.elim))))
def c114:Con:=⟨[.dat aC,.dat aC,.dat aC],fun args hp K=>hpN 1000000 .sh aC (fun xs=>CH (fun a0 a1 a2 a3=>CV 1000000 (xs.length:Int) a0 (ff aC a1 fun a=>ff aC a2 fun b=>ff aC a3 fun limit=>(Sm (Ty.sl aC) xs)/\(a=0)/\(b=(xs.length:Int))/\(xs.length<=12)/\(LD (M.gS xs) fun r=>K (.tup []) [(1000000,.arr .sh aC r)]))) args []) hp,.io,false⟩
abbrev C114:Ctx:=cx [(164,c164)] 134 [] 0 false
def ann114:=an [[kp 7],[kp 7],[kp 1031],[kp 8388615],[kp 0]] [[kp 0]]
abbrev s114_0 (xs:LI) (a:Int) (b:Int) (limit:Int) (v0:Unit):St:=⟨[(0,.clp 1000000 (xs.length:Int)),(1,dI a),(2,dI b)],[(1000000,.arr .sh aC xs)]⟩
abbrev LP114_0 (xs:LI) (a:Int) (b:Int) (limit:Int) (m:Nat) (st_:St) (K:KX):Prop:=True/\ep (s114_0 xs a b limit) (F.gC xs a b limit) (fun v0:Unit=>True) (fun q0:LI=>K .ret (⟨[],[(1000000,.arr .sh aC q0)]⟩:St)) m st_
def L114 (xs:LI) (a:Int) (b:Int) (limit:Int):bH:=lp1 0 (LP114_0 xs a b limit)
theorem vc114 (xs:LI) (a:Int) (b:Int) (limit:Int) (K:KA):vcT C114 (L114 xs a b limit) ann114 (qt [(23,false)] f114) [.clp 1000000 (xs.length:Int),dI a,dI b,dI limit] [(1000000,.arr .sh aC xs)] .raw K =
 (∃m_,True/\ep (s114_0 xs a b limit) (F.gC xs a b limit) (fun v0:Unit=>True) (fun q0:LI=>K (.tup []) [(1000000,.arr .sh aC q0)]) m_ (s114_0 xs a b limit ())):=by kernel_rfl
theorem lvc114_0 (xs:LI) (a:Int) (b:Int) (limit:Int)  (v0:Unit) (m:Nat) (K:KX):lvT C114 (L114 xs a b limit) ann114 (qt [(23,false)] f114) 0 0 (s114_0 xs a b limit v0) m K =
 (cond (decide (wrap64 (b-a)<=(12:Int))) (((xs.length:Int)=(xs.length:Int))/\((xs.length:Int)=(xs.length:Int))/\(Sm (Ty.sl aC) xs)/\(a=0)/\(b=(xs.length:Int))/\(LD (M.gS xs) fun r1=>(r1.length=xs.length)/\K .ret (⟨[],[(1000000,.arr .sh aC r1)]⟩:St))) False):=by kernel_rfl
theorem con114_ok:bf P 114 c114:=Fg [(23,false)] C114 func114 (kC con164_ok kN) fun args hp K h0=>by
 unfold c114 at h0
 dsimp only at h0
 obtain⟨xs,rfl,h00⟩:=rC (n:=1000000) (d:=.sh) (t:=aC) h0
 obtain⟨a0,a1,a2,a3,rfl,_,h1⟩:=sR h00
 obtain⟨rfl,h2⟩:=tw h1
 obtain⟨a,rfl,h3⟩:=bp h2
 obtain⟨b,rfl,h4⟩:=bp h3
 obtain⟨limit,rfl,h5⟩:=bp h4
 obtain⟨h_xs,p0,p1,p2,hK⟩:=h5
 have h:ok (F.mQ xs a b limit) (fun r=>K (.tup []) [(1000000,.arr .sh aC r)]):=az (F.uA xs a b limit h_xs p0 p1 p2) (hK _ rfl)
 refine⟨rfl,ann114,(L114 xs a b limit),.raw,(bL (i0:=0) (by kernel_rfl) ?_),?_⟩
 ·rintro _ _ K ⟨hc0,v0,rfl,hv0,h⟩
  exact cast (lvc114_0 _ _ _ _ _ _ _).symm (cS h (fun m1 hm0 h=>(oC h (fun _ h=>⟨rfl,⟨rfl,⟨h_xs,(oG h fun _ h=>(oG h fun _ h=>(oL h fun _ er1 h=>⟨(by rw[er1];exact(M.lQ _)),h⟩)))⟩⟩⟩) fun _ h=>h)))
 ·rw[vc114]
  exact(cj (fun m hm=>⟨trivial,hm⟩) _ rfl trivial (gA h (fun q0 h=>h)))
def c174:Con:=⟨[.dat (Ty.int .u64)],fun args hp K=>g1 (pD (Ty.int .u64)) (fun x=>(0<=x)/\(x<=12)/\K (dI (M.zp x)) []) args hp,.plain,false⟩
abbrev C174:Ctx:=cx [] 25 [] 0 false
def ann174:=an [[kp 5],[kp 21],[],[],[kp 261],[],[],[kp 16389],[],[],[kp 4]] []
theorem vc174 (x:Int) (K:KA):vcT C174 aB ann174 (qt [(4,true),(8,true),(14,true)] f174) [.data (Ty.int .u64) x] [] .raw K =
 (cond (decide ((4294967296:Int)<=x)) False (cond (decide ((65536:Int)<=x)) False (cond (decide ((256:Int)<=x)) False ((0<=(x % 256))/\((x % 256)<((⟨#[0,1,2,2,3,3,3,3,4,4,4,4,4,4,4,4,5,5,5,5,5,5,5,5,5,5,5,5,5,5,5,5,6,6,6,6,6,6,6,6,6,6,6,6,6,6,6,6,6,6,6,6,6,6,6,6,6,6,6,6,6,6,6,6,7,7,7,7,7,7,7,7,7,7,7,7,7,7,7,7,7,7,7,7,7,7,7,7,7,7,7,7,7,7,7,7,7,7,7,7,7,7,7,7,7,7,7,7,7,7,7,7,7,7,7,7,7,7,7,7,7,7,7,7,7,7,7,7,8,8,8,8,8,8,8,8,8,8,8,8,8,8,8,8,8,8,8,8,8,8,8,8,8,8,8,8,8,8,8,8,8,8,8,8,8,8,8,8,8,8,8,8,8,8,8,8,8,8,8,8,8,8,8,8,8,8,8,8,8,8,8,8,8,8,8,8,8,8,8,8,8,8,8,8,8,8,8,8,8,8,8,8,8,8,8,8,8,8,8,8,8,8,8,8,8,8,8,8,8,8,8,8,8,8,8,8,8,8,8,8,8,8,8,8,8,8,8,8,8,8,8,8,8,8,8,8]⟩:ByteArray).size:Int))/\K (dI (wrap64 (Z0+wrap64 (((⟨#[0,1,2,2,3,3,3,3,4,4,4,4,4,4,4,4,5,5,5,5,5,5,5,5,5,5,5,5,5,5,5,5,6,6,6,6,6,6,6,6,6,6,6,6,6,6,6,6,6,6,6,6,6,6,6,6,6,6,6,6,6,6,6,6,7,7,7,7,7,7,7,7,7,7,7,7,7,7,7,7,7,7,7,7,7,7,7,7,7,7,7,7,7,7,7,7,7,7,7,7,7,7,7,7,7,7,7,7,7,7,7,7,7,7,7,7,7,7,7,7,7,7,7,7,7,7,7,7,8,8,8,8,8,8,8,8,8,8,8,8,8,8,8,8,8,8,8,8,8,8,8,8,8,8,8,8,8,8,8,8,8,8,8,8,8,8,8,8,8,8,8,8,8,8,8,8,8,8,8,8,8,8,8,8,8,8,8,8,8,8,8,8,8,8,8,8,8,8,8,8,8,8,8,8,8,8,8,8,8,8,8,8,8,8,8,8,8,8,8,8,8,8,8,8,8,8,8,8,8,8,8,8,8,8,8,8,8,8,8,8,8,8,8,8,8,8,8,8,8,8,8,8,8,8,8,8]⟩:ByteArray).get! (x % 256).toNat).toNat:Int)))) [])))):=by kernel_rfl
theorem con174_ok:bf P 174 c174:=Fg [(4,true),(8,true),(14,true)] C174 func174 kN fun args hp K h0=>by
 obtain⟨x,rfl,rfl,p0,p1,hK⟩:=g1e h0
 have h:ok (F.mN x) (fun r=>K (dI r) []):=az (F.Aw x p0 p1) hK
 refine⟨rfl,ann174,aB,.raw,(aH (by kernel_rfl)),?_⟩
 ·rw[vc174]
  exact(oC h (fun _ h=>h) fun _ h=>(oC h (fun _ h=>h) fun _ h=>(oC h (fun _ h=>h) fun _ h=>(oG h fun _ h=>(oG h fun _ h=>h)))))
def c115:Con:=⟨[.dat (Ty.int .u64)],fun args hp K=>g1 (pD (Ty.int .u64)) (fun x=>(0<=x)/\(x<=12)/\K (dI (M.zp x)) []) args hp,.plain,false⟩
abbrev C115:Ctx:=cx [(174,c174)] 8 [] 0 false
def ann115:=an [[kp 1],[kp 4],[kp 4]] []
theorem vc115 (x:Int) (K:KA):vcT C115 aB ann115 f115 [.data (Ty.int .u64) x] [] .raw K =
 ((0<=x)/\(x<=12)/\K (dI (M.zp x)) []):=by kernel_rfl
theorem con115_ok:bf P 115 c115:=br C115 func115 (kC con174_ok kN) fun args hp K h0=>by
 obtain⟨x,rfl,rfl,p0,p1,hK⟩:=g1e h0
 have h:ok (F.Da x) (fun r=>K (dI r) []):=az (F.Dd x p0 p1) hK
 refine⟨rfl,ann115,aB,.raw,(aH (by kernel_rfl)),?_⟩
 ·rw[vc115]
  exact⟨p0,⟨p1,h⟩⟩
def c63:Con:=⟨[],fun args hp K=>hpN 1000000 .sh aC (fun xs=>args1 (fun a0=>CV 1000000 (xs.length:Int) a0 ((Sm (Ty.sl aC) xs)/\(xs.length<=12)/\(LD (M.gS xs) fun r=>K (.tup []) [(1000000,.arr .sh aC r)]))) args []) hp,.io,false⟩
abbrev C63:Ctx:=cx [(114,c114),(115,c115)] 11 [] 0 false
def ann63:=an [[kp 5],[kp 0]] []
theorem vc63 (xs:LI) (K:KA):vcT C63 aB ann63 f63 [.clp 1000000 (xs.length:Int)] [(1000000,.arr .sh aC xs)] .raw K =
 ((0<=(mZ .u64 (xs.length:Int)))/\((mZ .u64 (xs.length:Int))<=12)/\((xs.length:Int)=(xs.length:Int))/\((xs.length:Int)=(xs.length:Int))/\(Sm (Ty.sl aC) xs)/\(Z0=0)/\((xs.length:Int)=(xs.length:Int))/\(xs.length<=12)/\(LD (M.gS xs) fun r1=>(r1.length=xs.length)/\K (.tup []) [(1000000,.arr .sh aC r1)])):=by kernel_rfl
theorem con63_ok:bf P 63 c63:=br C63 func63 (kC con114_ok (kC con115_ok kN)) fun args hp K h0=>by
 unfold c63 at h0
 dsimp only at h0
 obtain⟨xs,rfl,h00⟩:=rC (n:=1000000) (d:=.sh) (t:=aC) h0
 obtain⟨a0,rfl,_,h1⟩:=sL h00
 obtain⟨rfl,h2⟩:=tw h1
 obtain⟨h_xs,p0,hK⟩:=h2
 have h:ok (F.rB xs) (fun r=>K (.tup []) [(1000000,.arr .sh aC r)]):=az (F.ye xs h_xs p0) (hK _ rfl)
 refine⟨rfl,ann63,aB,.raw,(aH (by kernel_rfl)),?_⟩
 ·rw[vc63]
  exact(oG h fun _ h=>(oG h fun _ h=>⟨rfl,⟨rfl,⟨h_xs,(oG h fun _ h=>(oG h fun _ h=>⟨p0,(oL h fun _ er1 h=>⟨(by rw[er1];exact(M.lQ _)),h⟩)⟩))⟩⟩⟩))
def c65:Con:=⟨[.mv],fun args hp K=>hpN 0 .sh aC (fun xs=>args1 (fun a0=>FB 0 a0 ((Sm (Ty.sl aC) xs)/\(LD (M.cE xs) fun r=>K (.own 0 none) [(0,.arr .sh aC r)]))) args []) hp,.mv,false⟩
abbrev C65:Ctx:=cx [] 61 [] 0 false
def ann65:=an [[kp 1],[kp 257],[kp 4],[kp 9],[kp 8201],[kp 9],[kp 33554441],[kp 25],[kp 57],[kp 4294967353],[kp 57],[kp 17592186044473],[kp 57],[kp 57],[kp 9],[kp 4],[kp 4]] [[kp 1],[],[kp 9]]
abbrev s65_0 (xs:LI) (i0:Int) (v0:Unit):St:=⟨[(0,.own 0 none),(3,dI i0)],[(0,.arr .sh aC xs)]⟩
abbrev LP65_0 (xs:LI) (m:Nat) (st_:St) (K:KX):Prop:=True/\cm (s65_0 xs) Z0 (xs.length:Int) (F.dW xs) (fun v0:Unit=>True) (bg (fun v0:Unit=>True->K (.exit 0) (⟨[(0,.own 0 none)],[(0,.arr .sh aC xs)]⟩:St)) (fun q0:Int×LI=>K .ret (⟨[(2,.own 0 (some (Z0,q0.1)))],[(0,.arr .sh aC q0.2)]⟩:St))) m st_
abbrev s65_2 (xs:LI) (c2_0:Int) (i2:Int) (v2:Int×LI):St:=⟨[(0,.own 0 none),(3,dI v2.1),(4,.own 0 (some (c2_0,(xs.length:Int)))),(5,dI i2)],[(0,.arr .sh aC v2.2)]⟩
abbrev LP65_2 (xs:LI) (m:Nat) (st_:St) (K:KX):Prop:=∃c2_0:Int,(((xs.length:Int)-Z1)<=ew/\((xs.length:Int)-c2_0)<=ew/\True)/\cm (s65_2 xs c2_0) Z0 ((xs.length:Int)-c2_0) (F.fc xs c2_0) (fun v2:Int×LI=>True) (bg (fun v2:Int×LI=>True->K (.exit 2) (⟨[(0,.own 0 none),(3,dI v2.1)],[(0,.arr .sh aC v2.2)]⟩:St)) (fun _=>False)) m st_
def L65 (xs:LI):bH:=lp2 0 (LP65_0 xs) 2 (LP65_2 xs)
theorem vc65 (xs:LI) (K:KA):vcT C65 (L65 xs) ann65 f65 [.own 0 none] [(0,.arr .sh aC xs)] .raw K =
 (cond (decide ((xs.length:Int)<Z2)) (K (.own 0 none) [(0,.arr .sh aC xs)]) (∃m_,True/\cm (s65_0 xs) Z0 (xs.length:Int) (F.dW xs) (fun v0:Unit=>True) (bg (fun v0:Unit=>True->K (.own 0 none) [(0,.arr .sh aC xs)]) (fun q0:Int×LI=>(Z0=0)/\K (.own 0 none) [(0,.arr .sh aC (q0.2.take q0.1.toNat))])) m_ (s65_0 xs Z1 ()))):=by kernel_rfl
theorem lvc65_0 (xs:LI)  (i0:Int) (v0:Unit) (m:Nat) (K:KX):lvT C65 (L65 xs) ann65 f65 0 0 (s65_0 xs i0 v0) m K =
 (cond (decide (i0<(xs.length:Int))) ((0<=i0)/\(i0<(xs.length:Int))/\(0<=wrap64 (i0-Z1))/\(wrap64 (i0-Z1)<(xs.length:Int))/\cond (decide ((nI xs i0)=(nI xs (wrap64 (i0-Z1))))) ((0<=i0)/\(i0<=(xs.length:Int))/\((xs.length:Int)<=(xs.length:Int))/\((xs.length:Int)=(xs.length:Int))/\(∃m_,∃c2_0:Int,(((xs.length:Int)-Z1)<=ew/\((xs.length:Int)-c2_0)<=ew/\True)/\cm (s65_2 xs c2_0) Z0 ((xs.length:Int)-c2_0) (F.fc xs c2_0) (fun v2:Int×LI=>True) (bg (fun v2:Int×LI=>True->(0<=v2.1)/\(v2.1<=(v2.2.length:Int))/\((v2.2.length:Int)<=(v2.2.length:Int))/\((v2.2.length:Int)=(v2.2.length:Int))/\(0<=Z0)/\(Z0<=v2.1)/\(v2.1<=((v2.2.take v2.1.toNat++(List.replicate ((v2.2.length:Int)-v2.1).toNat Z0++v2.2.drop (v2.2.length:Int).toNat)).length:Int))/\(v2.1=v2.1)/\K .ret (⟨[(2,.own 0 (some (Z0,v2.1)))],[(0,.arr .sh aC (v2.2.take v2.1.toNat++(List.replicate ((v2.2.length:Int)-v2.1).toNat Z0++v2.2.drop (v2.2.length:Int).toNat)))]⟩:St)) (fun _=>False)) m_ (s65_2 xs i0 Z1 (i0,xs)))) (nxT (LP65_0 xs) m K (s65_0 xs (wrap64 (i0+Z1)) ()))) (K (.exit 0) (⟨[(0,.own 0 none)],[(0,.arr .sh aC xs)]⟩:St))):=by kernel_rfl
theorem lvc65_1 (xs:LI) (c2_0:Int) (i2:Int) (v2:Int×LI) (m:Nat) (K:KX):lvT C65 (L65 xs) ann65 f65 1 2 (s65_2 xs c2_0 i2 v2) m K =
 (cond (decide (i2<((xs.length:Int)-c2_0))) ((0<=i2)/\(i2<(xs.length:Int)-c2_0)/\(0<=wrap64 (i2-Z1))/\(wrap64 (i2-Z1)<(xs.length:Int)-c2_0)/\cond (!decide ((nI v2.2 (c2_0+i2))=(nI v2.2 (c2_0+wrap64 (i2-Z1))))) ((0<=i2)/\(i2<(xs.length:Int)-c2_0)/\(0<=v2.1)/\(v2.1<(v2.2.length:Int))/\(nxT (LP65_2 xs) m K (s65_2 xs c2_0 (wrap64 (i2+Z1)) (wrap64 (v2.1+Z1),(v2.2.set v2.1.toNat (nI v2.2 (c2_0+i2))))))) (nxT (LP65_2 xs) m K (s65_2 xs c2_0 (wrap64 (i2+Z1)) (v2.1,v2.2)))) (K (.exit 2) (⟨[(0,.own 0 none),(3,dI v2.1)],[(0,.arr .sh aC v2.2)]⟩:St))):=by kernel_rfl
theorem con65_ok:bf P 65 c65:=br C65 func65 kN fun args hp K h0=>by
 unfold c65 at h0
 dsimp only at h0
 obtain⟨xs,rfl,h00⟩:=rC (n:=0) (d:=.sh) (t:=aC) h0
 obtain⟨a0,rfl,_,h1⟩:=sL h00
 obtain⟨rfl,h2⟩:=yY h1
 obtain⟨h_xs,hK⟩:=h2
 have h:ok (F.jv xs) (fun r=>K (.own 0 none) [(0,.arr .sh aC r)]):=az (F.tG xs h_xs) (hK _ rfl)
 refine⟨rfl,ann65,(L65 xs),.raw,(lS (i0:=0) (i1:=2) (by kernel_rfl) ?_ ?_),?_⟩
 ·rintro _ _ K ⟨hc0,i0,v0,rfl,hl0,rfl,hv0,h⟩
  exact cast (lvc65_0 _ _ _ _ _).symm (bM h (fun ht0 h=>⟨hl0,⟨ht0,(oG h fun _ h=>(oG h fun _ h=>(oC h (fun _ h=>⟨hl0,(oG h fun _ h=>⟨(Int.le_refl _),⟨rfl,(have hi_0:=(aD h).1;have hi_1:=(aD (aD h).2).1;have h:=(aD (aD h).2).2;(bA (fun m hm=>⟨i0,⟨hi_0,hi_1,trivial⟩,hm⟩) Z1 _ rfl (Int.natCast_nonneg 1) trivial (aT h (fun v2 h hv2=>(oG h fun _ h=>(oG h fun _ h=>⟨(Int.le_refl _),⟨rfl,⟨(Int.natCast_nonneg 0),(oG h fun _ h=>(oG h fun _ h=>⟨rfl,h⟩))⟩⟩⟩))) (fun _ h=>h.elim))))⟩⟩)⟩) fun _ h=>(aN (fun _ hm=>⟨hc0,hm⟩) _ rfl hl0 fS ht0 (bz h_xs) trivial h))))⟩⟩) fun h=>(h trivial))
 ·rintro _ _ K ⟨c2_0,hc2,i2,v2,rfl,hl2,rfl,hv2,h⟩
  exact cast (lvc65_1 _ _ _ _ _ _).symm (bM h (fun ht2 h=>⟨hl2,(oG h fun g1 h=>(oG h fun _ h=>(oG h fun _ h=>(oC h (fun _ h=>⟨hl2,⟨g1,(oG h fun _ h=>(oG h fun _ h=>(aN (fun _ hm=>⟨c2_0,hc2,hm⟩) _ rfl hl2 fS ht2 hc2.2.1 trivial h)))⟩⟩) fun _ h=>(aN (fun _ hm=>⟨c2_0,hc2,hm⟩) _ rfl hl2 fS ht2 hc2.2.1 trivial h)))))⟩) fun h=>(h trivial))
 ·rw[vc65]
  exact(oC h (fun _ h=>h) fun _ h=>(bA (fun m hm=>⟨trivial,hm⟩) Z1 _ rfl (Int.natCast_nonneg 1) trivial (aT h (fun v0 h hv0=>h) (fun q0 h=>⟨rfl,h⟩))))
def c24:Con:=⟨[.dat TTb,.dat TSS],fun args hp K=>g2 (pD TTb) (pD TSS) (fun tables plan=>(Sm TTb tables)/\(Sm TSS plan)/\(LD (M.dc tables plan) fun r=>K (.clp 0 (r.length:Int)) [(0,.arr .sh aC r)])) args hp,.bor,false⟩
abbrev C24:Ctx:=cx [(20,c20),(62,c62),(63,c63),(64,c64),(65,c65)] 43 [] 0 true
def ann24:=an [[kp 3],[kp 2050],[.clip 4,kp 16],[kp 34],[kp 57378],[kp 122914],[kp 57570],[kp 268492898],[kp 57378],[kp 57378],[kp 32],[kp 16]] [[kp 32]]
abbrev s24_0 (tables:LTb) (plan:LS) (c0_0:Int) (c0_1:(List Bool)) (i0:Int) (v0:LI):St:=⟨[(1,.data TSS plan),(5,.own 5 none),(13,.own 13 none),(14,dI c0_0),(15,dI i0)],[(5,.arr .sh aC v0),(13,.arr .sh Ty.bool c0_1)]⟩
abbrev LP24_0 (tables:LTb) (plan:LS) (m:Nat) (st_:St) (K:KX):Prop:=∃c0_0:Int,∃c0_1:(List Bool),(c0_0<=ew/\True)/\cm (s24_0 tables plan c0_0 c0_1) Z0 c0_0 (F.fU tables plan c0_0 c0_1) (fun v0:LI=>True) (bg (fun v0:LI=>True->K (.exit 0) (⟨[(5,.own 5 none)],[(5,.arr .sh aC v0)]⟩:St)) (fun _=>False)) m st_
def L24 (tables:LTb) (plan:LS):bH:=lp1 0 (LP24_0 tables plan)
theorem vc24 (tables:LTb) (plan:LS) (K:KA):vcT C24 (L24 tables plan) ann24 f24 [.data TTb tables,.data TSS plan] [] .raw K =
 ((Sm TTb tables)/\(Sm TSS plan)/\cond (!(M.bC tables plan)) (K (.clp 0 (([]:List aC.D).length:Int)) [(0,.arr .sh aC ([]:List aC.D))]) ((Sm TSS plan)/\(M.iW plan)/\(LD (M.cn plan) fun r1=>(∃m_,∃c0_0:Int,∃c0_1:(List Bool),(c0_0<=ew/\True)/\cm (s24_0 tables plan c0_0 c0_1) Z0 c0_0 (F.fU tables plan c0_0 c0_1) (fun v0:LI=>True) (bg (fun v0:LI=>True->((v0.length:Int)=(v0.length:Int))/\(Sm (Ty.sl aC) v0)/\(v0.length<=12)/\(LD (M.gS v0) fun r2=>(r2.length=v0.length)/\(Sm (Ty.sl aC) r2)/\(LD (M.cE r2) fun r3=>(Sm (Ty.sl aC) r3)/\(LD r3 fun r4=>K (.clp 0 ((r4.take (r4.length:Int).toNat).length:Int)) [(0,.arr .sh aC (r4.take (r4.length:Int).toNat))])))) (fun _=>False)) m_ (s24_0 tables plan (r1.length:Int) r1 Z0 []))))):=by kernel_rfl
theorem lvc24_0 (tables:LTb) (plan:LS) (c0_0:Int) (c0_1:(List Bool)) (i0:Int) (v0:LI) (m:Nat) (K:KX):lvT C24 (L24 tables plan) ann24 f24 0 0 (s24_0 tables plan c0_0 c0_1 i0 v0) m K =
 (cond (decide (i0<c0_0)) ((0<=i0)/\(i0<(c0_1.length:Int))/\cond ((nth (t:=Ty.bool) c0_1 i0)==true) ((0<=i0)/\(i0<(plan.length:Int))/\cond (decide ((nS plan i0).1=Z1)) ((0<=i0)/\(i0<(plan.length:Int))/\((v0.length+[(nS plan i0).2.2.2.1].length) * 8<=lim)/\(nxT (LP24_0 tables plan) m K (s24_0 tables plan c0_0 c0_1 (wrap64 (i0+Z1)) (v0++[(nS plan i0).2.2.2.1])))) (nxT (LP24_0 tables plan) m K (s24_0 tables plan c0_0 c0_1 (wrap64 (i0+Z1)) v0))) (nxT (LP24_0 tables plan) m K (s24_0 tables plan c0_0 c0_1 (wrap64 (i0+Z1)) v0))) (K (.exit 0) (⟨[(5,.own 5 none)],[(5,.arr .sh aC v0)]⟩:St))):=by kernel_rfl
theorem con24_ok:bf P 24 c24:=br C24 func24 (kC con20_ok (kC con62_ok (kC con63_ok (kC con64_ok (kC con65_ok kN))))) fun args hp K h0=>by
 obtain⟨tables,plan,rfl,rfl,h_tables,h_plan,hK⟩:=g2e h0
 have h:ok (F.ld tables plan) (fun r=>K (.clp 0 (r.length:Int)) [(0,.arr .sh aC r)]):=az (F.tq tables plan h_tables h_plan) (hK _ rfl)
 refine⟨rfl,ann24,(L24 tables plan),.raw,(bL (i0:=0) (by kernel_rfl) ?_),?_⟩
 ·rintro _ _ K ⟨c0_0,c0_1,hc0,i0,v0,rfl,hl0,rfl,hv0,h⟩
  exact cast (lvc24_0 _ _ _ _ _ _ _ _).symm (bM h (fun ht0 h=>⟨hl0,(oG h fun _ h=>(oC h (fun _ h=>⟨hl0,(oG h fun g1 h=>(oC h (fun _ h=>⟨hl0,⟨g1,(oG h fun _ h=>(aN (fun _ hm=>⟨c0_0,c0_1,hc0,hm⟩) _ rfl hl0 fS ht0 hc0.1 trivial h))⟩⟩) fun _ h=>(aN (fun _ hm=>⟨c0_0,c0_1,hc0,hm⟩) _ rfl hl0 fS ht0 hc0.1 trivial h)))⟩) fun _ h=>(aN (fun _ hm=>⟨c0_0,c0_1,hc0,hm⟩) _ rfl hl0 fS ht0 hc0.1 trivial h)))⟩) fun h=>(h trivial))
 ·rw[vc24]
  exact⟨h_tables,⟨h_plan,(oC h (fun _ h=>h) fun _ h=>⟨h_plan,(oG h fun _ h=>(oL h fun r1 _ h=>(have hi_0:=(aD h).1;have h:=(aD h).2;(bA (fun m hm=>⟨(r1.length:Int),r1,⟨hi_0,trivial⟩,hm⟩) Z0 _ rfl (Int.natCast_nonneg 0) trivial (aT h (fun v0 h hv0=>⟨rfl,(oG h fun _ h=>(oG h fun _ h=>(oL h fun _ er2 h=>⟨(by rw[er2];exact(M.lQ _)),(oG h fun _ h=>(oL h fun _ _ h=>(oG h fun _ h=>(oL h fun _ _ h=>h))))⟩)))⟩) (fun _ h=>h.elim))))))⟩)⟩⟩
def c4:Con:=⟨[.dat TBy],fun args hp K=>g1 (pD TBy) (fun code=>(Ln TBy code)/\(M.aq code)/\K (dB true) []) args hp,.plain,false⟩
abbrev C4:Ctx:=cx [(14,c14),(16,c16),(17,c17),(18,c18),(19,c19),(20,c20),(21,c21),(22,c22),(23,c23),(24,c24)] 71 [] 0 true
def ann4:=an [[kp 1],[kp 257],[kp 4],[kp 24],[kp 56],[kp 4194360],[kp 4],[kp 33554488],[kp 4],[kp 4]] []
theorem vc4 (code:LI) (K:KA):vcT C4 aB ann4 f4 [.data TBy code] [] (.dat Ty.bool) K =
 (cond (decide ((1048576:Int)<(code.length:Int))) (K (dB true) []) ((Sm TBy code)/\(M.aq code)/\(LD (M.de code) fun r1=>(Sm TTb r1.1)/\(Sm TSS r1.2)/\(LD (M.cM r1.1 r1.2) fun r2=>(Sm TTb r1.1)/\(Sm TSS r1.2)/\(LD (M.cM r1.1 r1.2) fun r3=>(Sm TSS r2)/\(Sm TSS r3)/\(r2=r3)/\cond (!true) (K (dB false) []) (cond (decide ((r2.length:Int)=Z0)) ((Sm TTb r1.1)/\(Sm TSS r1.2)/\cond ((!(M.bC r1.1 r1.2))==true) (K (dB true) []) (K (dB false) [])) ((Sm TTb r1.1)/\(Sm TSS r2)/\cond ((M.bC r1.1 r2)==true) (cond ((decide ((r2.length:Int)<=(r1.2.length:Int)))==true) ((Sm TTb r1.1)/\(Sm TSS r2)/\(LD (M.dG r1.1 r2) fun r4=>(Sm TTb r1.1)/\(Sm TSS r1.2)/\(LD (M.dG r1.1 r1.2) fun r5=>(Sm (Ty.sl TVS) (ay r4 (some (Z0,(r4.length:Int)))))/\(Sm (Ty.sl TVS) (ay r5 (some (Z0,(r5.length:Int)))))/\((ay r4 (some (Z0,(r4.length:Int))))=(ay r5 (some (Z0,(r5.length:Int)))))/\cond (true==true) ((Sm TTb r1.1)/\(Sm TSS r2)/\(LD (M.cM r1.1 r2) fun r6=>(Sm TSS r6)/\(Sm TSS r2)/\(r6=r2)/\cond (true==true) ((Sm TTb r1.1)/\(Sm TSS r2)/\(LD (M.dc r1.1 r2) fun r7=>(Sm TTb r1.1)/\(Sm TSS r1.2)/\(LD (M.dc r1.1 r1.2) fun r8=>(Sm (Ty.sl aC) (ay r7 (some (Z0,(r7.length:Int)))))/\(Sm (Ty.sl aC) (ay r8 (some (Z0,(r8.length:Int)))))/\((ay r7 (some (Z0,(r7.length:Int))))=(ay r8 (some (Z0,(r8.length:Int)))))/\cond (true==true) (K (dB true) []) (K (dB false) [])))) (K (dB false) []))) (K (dB false) [])))) (K (dB false) [])) (K (dB false) [])))))))):=by kernel_rfl
theorem con4_ok:bf P 4 c4:=br C4 func4 (kC con14_ok (kC con16_ok (kC con17_ok (kC con18_ok (kC con19_ok (kC con20_ok (kC con21_ok (kC con22_ok (kC con23_ok (kC con24_ok kN)))))))))) fun args hp K h0=>by
 obtain⟨code,rfl,rfl,h_code,p0,hK⟩:=g1e h0
 have h:ok (F.lp code) (fun r=>K (dB r) []):=az (F.tD code h_code p0) hK
 refine⟨rfl,ann4,aB,(.dat Ty.bool),(aH (by kernel_rfl)),?_⟩
 ·rw[vc4]
  exact(oC h (fun _ h=>h) fun _ h=>(oG h fun _ h=>⟨p0,(oL h fun _ _ h=>(oG h fun g1 h=>(oG h fun g2 h=>(oL h fun _ _ h=>⟨g1,⟨g2,(oL h fun _ _ h=>(oG h fun g3 h=>(oG h fun _ h=>(oG h fun _ h=>(oC h (fun _ h=>h) fun b_8 h=>(oC h (fun _ h=>⟨g1,⟨g2,(oC h (fun _ h=>h) fun _ h=>h)⟩⟩) fun _ h=>⟨g1,⟨g3,(oC h (fun _ h=>(oC h (fun _ h=>⟨g1,⟨g3,(oL h fun _ _ h=>⟨g1,⟨g2,(oL h fun _ _ h=>(oG h fun _ h=>(oG h fun _ h=>(oG h fun _ h=>(bE (uet (bnf b_8)) ⟨g1,⟨g3,(oL h fun _ _ h=>(oG h fun _ h=>⟨g3,(oG h fun _ h=>(bE (uet (bnf b_8)) ⟨g1,⟨g3,(oL h fun _ _ h=>⟨g1,⟨g2,(oL h fun _ _ h=>(oG h fun _ h=>(oG h fun _ h=>(oG h fun _ h=>(bE (uet (bnf b_8)) h)))))⟩⟩)⟩⟩))⟩))⟩⟩)))))⟩⟩)⟩⟩) fun _ h=>h)) fun _ h=>h)⟩⟩))))))⟩⟩))))⟩))
end Go.AE
