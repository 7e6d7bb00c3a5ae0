/- Contracts. -/
import Derived.Test.YtmkgiaecgkicoaaGreatAeInl
import Derived.Test.YtmkgiaecgkicoaaGreatAeEq
import Derived.Test.YtmkgiaecgkicoaaGreatAeDel
import Derived.Test.YtmkgiaecgkicoaaGreatAeC0
namespace Go.AE
open Go Go.RowKit Go.Proofs.Tryz
set_option maxRecDepth 100000
set_option maxHeartbeats 2000000
set_option linter.unusedVariables false
def c90:Con:=⟨[.lent TVS,.dat TVS],fun args hp K=>g2 (pB TVS) (pD TVS) (fun rows row=>(Sm (Ty.sl TVS) rows)/\(Sm TVS row)/\K (dI (M.cV rows row:Int)) []) args hp,.plain,false⟩
abbrev C90:Ctx:=cx [(158,c158)] 21 [] 0 false
def ann90:=an [[kp 3],[kp 35],[kp 1826],[kp 3874],[kp 1954],[kp 67362],[kp 1826],[kp 1826],[kp 16]] [[kp 32]]
abbrev s90_0 (rows:(List LV)) (row:LV) (i0:Int) (v0:Int):St:=⟨[(1,.data TVS row),(5,dI v0),(8,.brw TVS rows),(9,dI (rows.length:Int)),(10,dI i0)],[]⟩
abbrev LP90_0 (rows:(List LV)) (row:LV) (m:Nat) (st_:St) (K:KX):Prop:=True/\cw (t:=TVS) (s90_0 rows row) rows (F.gD rows row) (fun v0:Int=>True) (bz (fun v0:Int=>True->K (.exit 0) (⟨[(5,dI v0)],[]⟩:St)) (fun _=>False)) m st_
def L90 (rows:(List LV)) (row:LV):bK:=lp1 0 (LP90_0 rows row)
theorem vc90 (rows:(List LV)) (row:LV) (K:KA):vcT C90 (L90 rows row) ann90 f90 [.brw TVS rows,.data TVS row] [] (.dat aE) K =
 (∃m_,True/\cw (t:=TVS) (s90_0 rows row) rows (F.gD rows row) (fun v0:Int=>True) (bz (fun v0:Int=>True->K (dI v0) []) (fun _=>False)) m_ (s90_0 rows row Z0 Z0)):=by kernel_rfl
theorem lvc90_0 (rows:(List LV)) (row:LV)  (i0:Int) (v0:Int) (m:Nat) (K:KX):lvT C90 (L90 rows row) ann90 f90 0 0 (s90_0 rows row i0 v0) m K =
 (cond (decide (i0<(rows.length:Int))) ((0<=i0)/\(i0<(rows.length:Int))/\(Sm TVS (@nth TVS rows i0))/\(Sm TVS row)/\cond (decide ((@nth TVS rows i0)=row)) (nxT (LP90_0 rows row) m K (s90_0 rows row (wrap64 (i0+Z1)) (wrap64 (v0+Z1)))) (nxT (LP90_0 rows row) m K (s90_0 rows row (wrap64 (i0+Z1)) v0))) (K (.exit 0) (⟨[(5,dI v0)],[]⟩:St))):=by kernel_rfl
theorem con90_ok:bt P 90 c90:=bA C90 func90 (kC con158_ok kN) fun args hp K h0=>by
 obtain⟨rows,row,rfl,rfl,h_rows,h_row,hK⟩:=g2e h0
 have h:ok (F.qo rows row) (fun r=>K (dI r) []):=aA (F.yh rows row h_rows h_row) hK
 refine⟨rfl,ann90,(L90 rows row),(.dat aE),(bW (i0:=0) (by kernel_rfl) ?_),?_⟩
 ·rintro _ _ K ⟨hc0,i0,v0,rfl,hl0,rfl,hv0,h⟩
  exact cast (lvc90_0 _ _ _ _ _ _).symm (bD (t:=TVS) hl0 h (fun ht0 h=>⟨hl0,⟨ht0,⟨(aO h_rows i0),⟨h_row,(oC h (fun _ h=>(br (t:=TVS) (fun _ hm=>⟨hc0,hm⟩) _ rfl hl0 ht0 (bC h_rows) trivial h)) fun _ h=>(br (t:=TVS) (fun _ hm=>⟨hc0,hm⟩) _ rfl hl0 ht0 (bC h_rows) trivial h))⟩⟩⟩⟩) fun h=>(h trivial))
 ·rw[vc90]
  exact(bu (t:=TVS) (fun m hm=>⟨trivial,hm⟩) _ rfl trivial (bn h (fun v0 h hv0=>h) (fun _ h=>h.elim)))
def c213:Con:=⟨[.lent TVS,.dat TVS],fun args hp K=>g2 (pB TVS) (pD TVS) (fun rows row=>(Sm (Ty.sl TVS) rows)/\(Sm TVS row)/\K (dB (decide (0<(M.cV rows row:Int)))) []) args hp,.plain,false⟩
abbrev C213:Ctx:=cx [(90,c90)] 9 [] 0 false
def ann213:=an [[kp 3],[kp 16]] []
theorem vc213 (rows:(List LV)) (row:LV) (K:KA):vcT C213 aB ann213 f213 [.brw TVS rows,.data TVS row] [] (.dat Ty.bool) K =
 ((Sm (Ty.sl TVS) rows)/\(Sm TVS row)/\K (dB (decide (Z0<(M.cV rows row:Int)))) []):=by kernel_rfl
theorem con213_ok:bt P 213 c213:=bA C213 func213 (kC con90_ok kN) fun args hp K h0=>by
 obtain⟨rows,row,rfl,rfl,h_rows,h_row,hK⟩:=g2e h0
 have h:ok (F.vw rows row) (fun r=>K (dB r) []):=aA (F.yb rows row h_rows h_row) hK
 refine⟨rfl,ann213,aB,(.dat Ty.bool),(aL (by kernel_rfl)),?_⟩
 ·rw[vc213]
  exact⟨h_rows,⟨h_row,h⟩⟩
def c171:Con:=⟨[.dat (Ty.sl TVS)],fun args hp K=>g1 (pD (Ty.sl TVS)) (fun rows=>(Sm (Ty.sl TVS) rows)/\(LD (M.gC rows) fun r=>K (.clp 0 (r.length:Int)) [(0,.arr .dp TVS r)])) args hp,.bor,false⟩
abbrev C171:Ctx:=cx [(87,c87),(213,c213)] 23 [] 0 true
def ann171:=an [[kp 1],[.weak 3,kp 9],[kp 456],[kp 968],[kp 488],[kp 33256],[kp 456],[kp 456],[kp 4]] [[kp 8]]
abbrev s171_0 (rows:(List LV)) (i0:Int) (v0:(List LV)):St:=⟨[(3,.own 3 none),(6,.data (Ty.sl TVS) rows),(7,dI (rows.length:Int)),(8,dI i0)],[(3,.arr .sh TVS v0)]⟩
abbrev LP171_0 (rows:(List LV)) (m:Nat) (st_:St) (K:KX):Prop:=True/\cw (t:=TVS) (s171_0 rows) rows (F.gb rows) (fun v0:(List LV)=>True) (bz (fun v0:(List LV)=>True->K (.exit 0) (⟨[(3,.own 3 none)],[(3,.arr .sh TVS v0)]⟩:St)) (fun _=>False)) m st_
def L171 (rows:(List LV)):bK:=lp1 0 (LP171_0 rows)
theorem vc171 (rows:(List LV)) (K:KA):vcT C171 (L171 rows) ann171 f171 [.data (Ty.sl TVS) rows] [] .raw K =
 (∃m_,True/\cw (t:=TVS) (s171_0 rows) rows (F.gb rows) (fun v0:(List LV)=>True) (bz (fun v0:(List LV)=>True->(Sm (Ty.sl TVS) v0)/\(LD v0 fun r1=>K (.clp 0 ((r1.take (r1.length:Int).toNat).length:Int)) [(0,.arr .dp TVS (r1.take (r1.length:Int).toNat))])) (fun _=>False)) m_ (s171_0 rows Z0 [])):=by kernel_rfl
theorem lvc171_0 (rows:(List LV))  (i0:Int) (v0:(List LV)) (m:Nat) (K:KX):lvT C171 (L171 rows) ann171 f171 0 0 (s171_0 rows i0 v0) m K =
 (cond (decide (i0<(rows.length:Int))) ((0<=i0)/\(i0<(rows.length:Int))/\(Sm (Ty.sl TVS) v0)/\(Sm TVS (@nth TVS rows i0))/\cond (!(decide (0<(M.cV v0 (@nth TVS rows i0):Int)))) (((v0.length+[(@nth TVS rows i0)].length) * 24<=lim)/\(nxT (LP171_0 rows) m K (s171_0 rows (wrap64 (i0+Z1)) (v0++[(@nth TVS rows i0)])))) (nxT (LP171_0 rows) m K (s171_0 rows (wrap64 (i0+Z1)) v0))) (K (.exit 0) (⟨[(3,.own 3 none)],[(3,.arr .sh TVS v0)]⟩:St))):=by kernel_rfl
theorem con171_ok:bt P 171 c171:=bA C171 func171 (kC con87_ok (kC con213_ok kN)) fun args hp K h0=>by
 obtain⟨rows,rfl,rfl,h_rows,hK⟩:=g1e h0
 have h:ok (F.oX rows) (fun r=>K (.clp 0 (r.length:Int)) [(0,.arr .dp TVS r)]):=aA (F.vY rows h_rows) (hK _ rfl)
 refine⟨rfl,ann171,(L171 rows),.raw,(bW (i0:=0) (by kernel_rfl) ?_),?_⟩
 ·rintro _ _ K ⟨hc0,i0,v0,rfl,hl0,rfl,hv0,h⟩
  exact cast (lvc171_0 _ _ _ _ _).symm (bD (t:=TVS) hl0 h (fun ht0 h=>⟨hl0,⟨ht0,(oG h fun _ h=>⟨(aO h_rows i0),(oC h (fun _ h=>(oG h fun _ h=>(br (t:=TVS) (fun _ hm=>⟨hc0,hm⟩) _ rfl hl0 ht0 (bC h_rows) trivial h))) fun _ h=>(br (t:=TVS) (fun _ hm=>⟨hc0,hm⟩) _ rfl hl0 ht0 (bC h_rows) trivial h))⟩)⟩⟩) fun h=>(h trivial))
 ·rw[vc171]
  exact(bu (t:=TVS) (fun m hm=>⟨trivial,hm⟩) _ rfl trivial (bn h (fun v0 h hv0=>(oG h fun _ h=>(oL h fun _ _ h=>h))) (fun _ h=>h.elim)))
def c214:Con:=⟨[.any,.dat aE],fun args hp K=>args2 (fun a0 a1=>DZ a0 (dA aE a1 fun n=>(0<=n)/\(n<=1099511627776)/\(LD ([]:List TVS.D) fun r=>K (.own 0 none) [(0,.arr .sh TVS r)]))) args hp,.plain,false⟩
abbrev C214:Ctx:=cx [] 27 [] 0 false
def ann214:=an [[kp 3],[kp 67],[kp 3],[kp 3],[kp 65539],[kp 1],[kp 16]] []
theorem vc214 (n:Int) (K:KA):vcT C214 aB ann214 f214 [.cst (.slice none 0 0),dI n] [] .raw K =
 (cond (decide (n<Z0)) False (cond (decide (Z0<wrap64 (n-(wrap64 (Z0-Z0))))) ((0<=Z0)/\(Z0<=Z0)/\(Z0<=Z0)/\(Z0=Z0)/\(0<=wrap64 (n-(wrap64 (Z0-Z0))))/\((wrap64 (n-(wrap64 (Z0-Z0)))) * 24<=(lim:Int))/\(0<=Z0)/\(Z0<=Z0)/\(Z0<=((List.replicate (wrap64 (n-(wrap64 (Z0-Z0)))).toNat ([]:List af.D)).length:Int))/\(Z0=Z0)/\(Z0=0)/\K (.own 0 none) [(0,.arr .sh TVS ((List.replicate (wrap64 (n-(wrap64 (Z0-Z0)))).toNat ([]:List af.D)).take Z0.toNat))]) (K (.own 0 none) [(0,.arr .sh TVS [])]))):=by kernel_rfl
theorem con214_ok:bt P 214 c214:=bA C214 func214 kN fun args hp K h0=>by
 obtain⟨a0,a1,rfl,rfl,h1⟩:=bZ h0
 obtain⟨rfl,h2⟩:=tG h1
 obtain⟨n,rfl,h3⟩:=aP h2
 obtain⟨p0,p1,hK⟩:=h3
 have h:ok (F.qH n) (fun r=>K (.own 0 none) [(0,.arr .sh TVS r)]):=aA (F.yl n p0 p1) (hK _ rfl)
 refine⟨rfl,ann214,aB,.raw,(aL (by kernel_rfl)),?_⟩
 ·rw[vc214]
  exact(oC h (fun _ h=>h) fun _ h=>(oC h (fun _ h=>⟨(Int.natCast_nonneg 0),⟨(Int.le_refl _),⟨(Int.le_refl _),⟨rfl,(oG h fun _ h=>(oG h fun _ h=>⟨(Int.natCast_nonneg 0),⟨(Int.le_refl _),⟨(Int.natCast_nonneg _),⟨rfl,⟨rfl,h⟩⟩⟩⟩⟩))⟩⟩⟩⟩) fun _ h=>h))
def c172:Con:=⟨[.dat (Ty.sl (Ty.sl TVS))],fun args hp K=>g1 (pD (Ty.sl (Ty.sl TVS))) (fun xss=>(Sm (Ty.sl (Ty.sl TVS)) xss)/\(LD (List.flatten xss) fun r=>K (.own 0 none) [(0,.arr .sh TVS r)])) args hp,.plain,false⟩
abbrev C172:Ctx:=cx [(214,c214)] 36 [] 0 false
def ann172:=an [[kp 1],[kp 9],[kp 3593],[kp 7689],[kp 3625],[kp 3593],[kp 1052169],[kp 3593],[kp 3593],[kp 65],[kp 234881088],[kp 503316544],[kp 234881344],[kp 234881088],[kp 234881088],[kp 4]] [[kp 9],[],[kp 64]]
abbrev s172_0 (xss:(List (List LV))) (i0:Int) (v0:Int):St:=⟨[(0,.data (Ty.sl (Ty.sl TVS)) xss),(3,dI v0),(9,.data (Ty.sl (Ty.sl TVS)) xss),(10,dI (xss.length:Int)),(11,dI i0)],[]⟩
abbrev LP172_0 (xss:(List (List LV))) (m:Nat) (st_:St) (K:KX):Prop:=True/\cw (t:=(Ty.sl TVS)) (s172_0 xss) xss (F.gO xss) (fun v0:Int=>True) (bz (fun v0:Int=>True->K (.exit 0) (⟨[(0,.data (Ty.sl (Ty.sl TVS)) xss),(3,dI v0)],[]⟩:St)) (fun _=>False)) m st_
abbrev s172_2 (xss:(List (List LV))) (i2:Int) (v2:(List LV)):St:=⟨[(6,.own 24 none),(25,.data (Ty.sl (Ty.sl TVS)) xss),(26,dI (xss.length:Int)),(27,dI i2)],[(24,.arr .sh TVS v2)]⟩
abbrev LP172_2 (xss:(List (List LV))) (m:Nat) (st_:St) (K:KX):Prop:=True/\cw (t:=(Ty.sl TVS)) (s172_2 xss) xss (F.gT xss) (fun v2:(List LV)=>True) (bz (fun v2:(List LV)=>True->K (.exit 2) (⟨[(6,.own 24 none)],[(24,.arr .sh TVS v2)]⟩:St)) (fun _=>False)) m st_
def L172 (xss:(List (List LV))):bK:=lp2 0 (LP172_0 xss) 2 (LP172_2 xss)
theorem vc172 (xss:(List (List LV))) (K:KA):vcT C172 (L172 xss) ann172 f172 [.data (Ty.sl (Ty.sl TVS)) xss] [] .raw K =
 (∃m_,True/\cw (t:=(Ty.sl TVS)) (s172_0 xss) xss (F.gO xss) (fun v0:Int=>True) (bz (fun v0:Int=>True->(0<=v0)/\(v0<=1099511627776)/\(LD ([]:List TVS.D) fun r1=>(∃m_,True/\cw (t:=(Ty.sl TVS)) (s172_2 xss) xss (F.gT xss) (fun v2:(List LV)=>True) (bz (fun v2:(List LV)=>True->K (.own 0 none) [(0,.arr .sh TVS v2)]) (fun _=>False)) m_ (s172_2 xss Z0 r1)))) (fun _=>False)) m_ (s172_0 xss Z0 Z0)):=by kernel_rfl
theorem lvc172_0 (xss:(List (List LV)))  (i0:Int) (v0:Int) (m:Nat) (K:KX):lvT C172 (L172 xss) ann172 f172 0 0 (s172_0 xss i0 v0) m K =
 (cond (decide (i0<(xss.length:Int))) ((0<=i0)/\(i0<(xss.length:Int))/\cond (decide (wrap64 (v0+((@nth (Ty.sl TVS) xss i0).length:Int))<Z0)) False (nxT (LP172_0 xss) m K (s172_0 xss (wrap64 (i0+Z1)) (wrap64 (v0+((@nth (Ty.sl TVS) xss i0).length:Int)))))) (K (.exit 0) (⟨[(0,.data (Ty.sl (Ty.sl TVS)) xss),(3,dI v0)],[]⟩:St))):=by kernel_rfl
theorem lvc172_1 (xss:(List (List LV)))  (i2:Int) (v2:(List LV)) (m:Nat) (K:KX):lvT C172 (L172 xss) ann172 f172 1 2 (s172_2 xss i2 v2) m K =
 (cond (decide (i2<(xss.length:Int))) ((0<=i2)/\(i2<(xss.length:Int))/\((v2.length+(@nth (Ty.sl TVS) xss i2).length) * 24<=lim)/\(nxT (LP172_2 xss) m K (s172_2 xss (wrap64 (i2+Z1)) (v2++(@nth (Ty.sl TVS) xss i2))))) (K (.exit 2) (⟨[(6,.own 24 none)],[(24,.arr .sh TVS v2)]⟩:St))):=by kernel_rfl
theorem con172_ok:bt P 172 c172:=bA C172 func172 (kC con214_ok kN) fun args hp K h0=>by
 obtain⟨xss,rfl,rfl,h_xss,hK⟩:=g1e h0
 have h:ok (F.ny xss) (fun r=>K (.own 0 none) [(0,.arr .sh TVS r)]):=aA (F.vg xss h_xss) (hK _ rfl)
 refine⟨rfl,ann172,(L172 xss),.raw,(qa (i0:=0) (i1:=2) (by kernel_rfl) ?_ ?_),?_⟩
 ·rintro _ _ K ⟨hc0,i0,v0,rfl,hl0,rfl,hv0,h⟩
  exact cast (lvc172_0 _ _ _ _ _).symm (bD (t:=(Ty.sl TVS)) hl0 h (fun ht0 h=>⟨hl0,⟨ht0,(oC h (fun _ h=>h) fun _ h=>(br (t:=(Ty.sl TVS)) (fun _ hm=>⟨hc0,hm⟩) _ rfl hl0 ht0 (bC h_xss) trivial h))⟩⟩) fun h=>(h trivial))
 ·rintro _ _ K ⟨hc2,i2,v2,rfl,hl2,rfl,hv2,h⟩
  exact cast (lvc172_1 _ _ _ _ _).symm (bD (t:=(Ty.sl TVS)) hl2 h (fun ht2 h=>⟨hl2,⟨ht2,(oG h fun _ h=>(br (t:=(Ty.sl TVS)) (fun _ hm=>⟨hc2,hm⟩) _ rfl hl2 ht2 (bC h_xss) trivial h))⟩⟩) fun h=>(h trivial))
 ·rw[vc172]
  exact(bu (t:=(Ty.sl TVS)) (fun m hm=>⟨trivial,hm⟩) _ rfl trivial (bn h (fun v0 h hv0=>(oG h fun _ h=>(oG h fun _ h=>(oL h fun _ _ h=>(bu (t:=(Ty.sl TVS)) (fun m hm=>⟨trivial,hm⟩) _ rfl trivial (bn h (fun v2 h hv2=>h) (fun _ h=>h.elim))))))) (fun _ h=>h.elim)))
def c217:Con:=⟨[.dat TVS,.dat TVS,.any],fun args hp K=>rK (fun a0 a1 a2=>dA TVS a0 fun s1=>dA TVS a1 fun s2=>jC 218 a2 (nj ((Sm TVS s1)/\(Sm TVS s2)/\K (dI (M.bY s1 s2)) []))) args hp,.plain,false⟩
abbrev C217:Ctx:=cx [(218,c218)] 39 [] 0 false
def ann217:=an [[kp 7],[kp 14343],[kp 30727],[.fixRow 8 af,kp 14727],[kp 2111879],[kp 64],[.fixRow 9 af,kp 15111],[kp 15367],[kp 2147499015],[kp 64],[kp 14343],[.keep [38]],[kp 64],[kp 64]] [[kp 3]]
abbrev s217_0 (s1:LV) (s2:LV) (i0:Int) (v0:Unit):St:=⟨[(0,.data TVS s1),(1,.data TVS s2),(2,.fn 218 []),(11,.data TVS s1),(12,dI (s1.length:Int)),(13,dI i0)],[]⟩
abbrev LP217_0 (s1:LV) (s2:LV) (m:Nat) (st_:St) (K:KX):Prop:=True/\dc (s217_0 s1 s2) Z0 (s1.length:Int) (F.gr s1 s2) (fun v0:Unit=>True) (bz (fun v0:Unit=>True->K (.exit 0) (⟨[(0,.data TVS s1),(1,.data TVS s2)],[]⟩:St)) (fun q0:Int=>K .ret (⟨[(6,dI q0)],[]⟩:St))) m st_
def L217 (s1:LV) (s2:LV):bK:=lp1 0 (LP217_0 s1 s2)
theorem vc217 (s1:LV) (s2:LV) (K:KA):vcT C217 (L217 s1 s2) ann217 f217 [.data TVS s1,.data TVS s2,.fn 218 []] [] (.dat aE) K =
 (∃m_,True/\dc (s217_0 s1 s2) Z0 (s1.length:Int) (F.gr s1 s2) (fun v0:Unit=>True) (bz (fun v0:Unit=>True->cond (decide ((s1.length:Int)<(s2.length:Int))) (K (dI (-1:Int)) []) (K (dI Z0) [])) (fun q0:Int=>K (dI q0) [])) m_ (s217_0 s1 s2 Z0 ())):=by kernel_rfl
theorem lvc217_0 (s1:LV) (s2:LV)  (i0:Int) (v0:Unit) (m:Nat) (K:KX):lvT C217 (L217 s1 s2) ann217 f217 0 0 (s217_0 s1 s2 i0 v0) m K =
 (cond (decide (i0<(s1.length:Int))) ((0<=i0)/\(i0<(s1.length:Int))/\cond (decide ((s2.length:Int)<=i0)) (K .ret (⟨[(6,dI Z1)],[]⟩:St)) ((0<=i0)/\(i0<(s2.length:Int))/\(Sm af (nV s1 i0))/\(Sm af (nV s2 i0))/\cond (!decide ((M.order (nV s1 i0) (nV s2 i0))=Z0)) (K .ret (⟨[(6,dI (M.order (nV s1 i0) (nV s2 i0)))],[]⟩:St)) (nxT (LP217_0 s1 s2) m K (s217_0 s1 s2 (wrap64 (i0+Z1)) ())))) (K (.exit 0) (⟨[(0,.data TVS s1),(1,.data TVS s2)],[]⟩:St))):=by kernel_rfl
theorem con217_ok:bt P 217 c217:=bA C217 func217 (kC con218_ok kN) fun args hp K h0=>by
 obtain⟨a0,a1,a2,rfl,rfl,h1⟩:=gq h0
 obtain⟨s1,rfl,h2⟩:=aP h1
 obtain⟨s2,rfl,h3⟩:=aP h2
 obtain⟨cs2,rfl,h4⟩:=cH h3
 obtain⟨rfl,h5⟩:=dJ h4
 obtain⟨h_s1,h_s2,hK⟩:=h5
 have h:ok (F.bY s1 s2) (fun r=>K (dI r) []):=aA (F.tS s1 s2 h_s1 h_s2) hK
 refine⟨rfl,ann217,(L217 s1 s2),(.dat aE),(bW (i0:=0) (by kernel_rfl) ?_),?_⟩
 ·rintro _ _ K ⟨hc0,i0,v0,rfl,hl0,rfl,hv0,h⟩
  exact cast (lvc217_0 _ _ _ _ _ _).symm (ct h (fun ht0 h=>⟨hl0,⟨ht0,(oC h (fun _ h=>h) fun _ h=>⟨hl0,(oG h fun _ h=>⟨(aO h_s1 i0),⟨(aO h_s2 i0),(oC h (fun _ h=>h) fun _ h=>(aV (fun _ hm=>⟨hc0,hm⟩) _ rfl hl0 iR ht0 (bC h_s1) trivial h))⟩⟩)⟩)⟩⟩) fun h=>(h trivial))
 ·rw[vc217]
  exact(bT (fun m hm=>⟨trivial,hm⟩) Z0 _ rfl (Int.natCast_nonneg 0) trivial (bn h (fun v0 h hv0=>(oC h (fun _ h=>h) fun _ h=>h)) (fun q0 h=>h)))
def c174:Con:=⟨[.dat TVS,.dat TVS],fun args hp K=>g2 (pD TVS) (pD TVS) (fun a b=>(Sm TVS a)/\(Sm TVS b)/\K (dI (M.dY a b)) []) args hp,.plain,false⟩
abbrev C174:Ctx:=cx [(216,c216),(217,c217),(219,c219)] 15 [] 0 false
def ann174:=an [[kp 3],[kp 16]] []
theorem vc174 (a:LV) (b:LV) (K:KA):vcT C174 aB ann174 f174 [.data TVS a,.data TVS b] [] (.dat aE) K =
 ((Sm TVS a)/\(Sm TVS b)/\(Sm (Ty.sl aE) [(M.bY a b),(M.rP (a.length:Int) (b.length:Int))])/\K (dI (M.orI [(M.bY a b),(M.rP (a.length:Int) (b.length:Int))])) []):=by kernel_rfl
theorem con174_ok:bt P 174 c174:=bA C174 func174 (kC con216_ok (kC con217_ok (kC con219_ok kN))) fun args hp K h0=>by
 obtain⟨a,b,rfl,rfl,h_a,h_b,hK⟩:=g2e h0
 have h:ok (F.dY a b) (fun r=>K (dI r) []):=aA (F.Dw a b h_a h_b) hK
 refine⟨rfl,ann174,aB,(.dat aE),(aL (by kernel_rfl)),?_⟩
 ·rw[vc174]
  exact⟨h_a,⟨h_b,(oG h fun _ h=>h)⟩⟩
def c244:Con:=⟨[.dat aE,.dat aE,.any],fun args hp K=>hpN 1000000 .sh TVS (fun data=>DB (fun a0 a1 a2 a3=>xz 1000000 (data.length:Int) a0 (dA aE a1 fun a=>dA aE a2 fun b=>jC 174 a3 (nj ((Sm (Ty.sl TVS) data)/\(0<=a)/\(a<=b)/\(b<=(data.length:Int))/\(LD (M.cr data a b) fun r=>K (.tup []) [(1000000,.arr .sh TVS r)]))))) args []) hp,.io,false⟩
abbrev C244:Ctx:=cx [(174,c174)] 53 [] 0 false
def ann244:=an [[kp 271],[kp 16655],[kp 271],[kp 783],[kp 17179869967],[kp 783],[kp 783]] [[kp 0],[],[kp 271]]
abbrev s244_0 (data:(List LV)) (a:Int) (b:Int) (i0:Int) (v0:(List LV)):St:=⟨[(0,.clp 1000000 (data.length:Int)),(1,dI a),(2,dI b),(3,.fn 174 []),(8,dI i0)],[(1000000,.arr .sh TVS v0)]⟩
abbrev LP244_0 (data:(List LV)) (a:Int) (b:Int) (m:Nat) (st_:St) (K:KX):Prop:=(b<=eS/\True)/\dc (s244_0 data a b) Z0 b (F.iF data a b) (fun v0:(List LV)=>True) (bz (fun v0:(List LV)=>True->K (.exit 0) (⟨[],[(1000000,.arr .sh TVS v0)]⟩:St)) (fun _=>False)) m st_
abbrev s244_2 (data:(List LV)) (a:Int) (b:Int) (c2_0:Int) (v2:Int×(List LV)):St:=⟨[(0,.clp 1000000 (data.length:Int)),(1,dI a),(2,dI b),(3,.fn 174 []),(8,dI c2_0),(9,dI v2.1)],[(1000000,.arr .sh TVS v2.2)]⟩
abbrev LP244_2 (data:(List LV)) (a:Int) (b:Int) (m:Nat) (st_:St) (K:KX):Prop:=∃c2_0:Int,True/\de (s244_2 data a b c2_0) (F.iK data a b c2_0) (fun v2:Int×(List LV)=>True) (fun e2:(List LV)=>True->K (.exit 2) (⟨[(0,.clp 1000000 (data.length:Int)),(1,dI a),(2,dI b),(3,.fn 174 []),(8,dI c2_0)],[(1000000,.arr .sh TVS e2)]⟩:St)) m st_
def L244 (data:(List LV)) (a:Int) (b:Int):bK:=lp2 0 (LP244_0 data a b) 2 (LP244_2 data a b)
theorem vc244 (data:(List LV)) (a:Int) (b:Int) (K:KA):vcT C244 (L244 data a b) ann244 f244 [.clp 1000000 (data.length:Int),dI a,dI b,.fn 174 []] [(1000000,.arr .sh TVS data)] .raw K =
 (∃m_,(b<=eS/\True)/\dc (s244_0 data a b) Z0 b (F.iF data a b) (fun v0:(List LV)=>True) (bz (fun v0:(List LV)=>True->K (.tup []) [(1000000,.arr .sh TVS v0)]) (fun _=>False)) m_ (s244_0 data a b (wrap64 (a+Z1)) data)):=by kernel_rfl
theorem lvc244_0 (data:(List LV)) (a:Int) (b:Int)  (i0:Int) (v0:(List LV)) (m:Nat) (K:KX):lvT C244 (L244 data a b) ann244 f244 0 0 (s244_0 data a b i0 v0) m K =
 (cond (decide (i0<b)) (∃m_,∃c2_0:Int,True/\de (s244_2 data a b c2_0) (F.iK data a b c2_0) (fun v2:Int×(List LV)=>True) (fun e2:(List LV)=>True->(nxT (LP244_0 data a b) m K (s244_0 data a b (wrap64 (c2_0+Z1)) e2))) m_ (s244_2 data a b i0 (i0,v0))) (K (.exit 0) (⟨[],[(1000000,.arr .sh TVS v0)]⟩:St))):=by kernel_rfl
abbrev S244l2_0 (data:(List LV)) (a:Int) (b:Int) (c2_0:Int) (v2:Int×(List LV)) (m:Nat) (K:KX):Prop:=K (.exit 2) (⟨[(0,.clp 1000000 (data.length:Int)),(1,dI a),(2,dI b),(3,.fn 174 []),(8,dI c2_0)],[(1000000,.arr .sh TVS v2.2)]⟩:St)
theorem lvc244_1 (data:(List LV)) (a:Int) (b:Int) (c2_0:Int) (v2:Int×(List LV)) (m:Nat) (K:KX):lvT C244 (L244 data a b) ann244 f244 1 2 (s244_2 data a b c2_0 v2) m K =
 (cond ((decide (a<v2.1))==true) ((0<=v2.1)/\(v2.1<(data.length:Int))/\(0<=wrap64 (v2.1-Z1))/\(wrap64 (v2.1-Z1)<(data.length:Int))/\(Sm TVS (@nth TVS v2.2 v2.1))/\(Sm TVS (@nth TVS v2.2 (wrap64 (v2.1-Z1))))/\cond (decide ((M.dY (@nth TVS v2.2 v2.1) (@nth TVS v2.2 (wrap64 (v2.1-Z1))))<Z0)) ((0<=wrap64 (v2.1-Z1))/\(wrap64 (v2.1-Z1)<(data.length:Int))/\(0<=v2.1)/\(v2.1<(data.length:Int))/\(0<=v2.1)/\(v2.1<(data.length:Int))/\(0<=wrap64 (v2.1-Z1))/\(wrap64 (v2.1-Z1)<(data.length:Int))/\(let y1:(List LV):=((v2.2.set v2.1.toNat (@nth TVS v2.2 (wrap64 (v2.1-Z1)))).set (wrap64 (v2.1-Z1)).toNat (@nth TVS v2.2 v2.1));(nxT (LP244_2 data a b) m K (s244_2 data a b c2_0 (wrap64 (v2.1-Z1),y1))))) (S244l2_0  data a b c2_0 v2 m K)) (S244l2_0  data a b c2_0 v2 m K)):=by kernel_rfl
theorem con244_ok:bt P 244 c244:=bA C244 func244 (kC con174_ok kN) fun args hp K h0=>by
 unfold c244 at h0
 dsimp only at h0
 obtain⟨data,rfl,h00⟩:=lJ (n:=1000000) (d:=.sh) (t:=TVS) h0
 obtain⟨a0,a1,a2,a3,rfl,_,h1⟩:=tT h00
 obtain⟨rfl,h2⟩:=ju h1
 obtain⟨a,rfl,h3⟩:=aP h2
 obtain⟨b,rfl,h4⟩:=aP h3
 obtain⟨cs3,rfl,h5⟩:=cH h4
 obtain⟨rfl,h6⟩:=dJ h5
 obtain⟨h_data,p0,p1,p2,hK⟩:=h6
 have h:ok (F.cr data a b) (fun r=>K (.tup []) [(1000000,.arr .sh TVS r)]):=aA (F.wq data a b h_data p0 p1 p2) (hK _ rfl)
 refine⟨rfl,ann244,(L244 data a b),.raw,(qa (i0:=0) (i1:=2) (by kernel_rfl) ?_ ?_),?_⟩
 ·rintro _ _ K ⟨hc0,i0,v0,rfl,hl0,rfl,hv0,h⟩
  exact cast (lvc244_0 _ _ _ _ _ _ _).symm (ct h (fun ht0 h=>(bJ (fun m hm=>⟨i0,trivial,hm⟩) _ rfl trivial (eR h (fun e2 h hv2=>(aV (fun _ hm=>⟨hc0,hm⟩) _ rfl hl0 iR ht0 hc0.1 trivial h))))) fun h=>(h trivial))
 ·rintro _ _ K ⟨c2_0,hc2,v2,rfl,hv2,h⟩
  exact cast (lvc244_1 _ _ _ _ _ _ _).symm (cC h (fun m1 hm2 h=>(oC h (fun _ h=>(oG h fun g1 h=>(oG h fun g2 h=>(oG h fun g3 h=>(oG h fun g4 h=>(oG h fun _ h=>(oG h fun _ h=>(oC h (fun _ h=>⟨g3,⟨g4,⟨g1,⟨g2,⟨g1,⟨g2,⟨g3,⟨g4,(have h:=cI h _ rfl;(aW (fun _ hm=>⟨c2_0,hc2,hm⟩) hm2 _ rfl trivial h))⟩⟩⟩⟩⟩⟩⟩⟩) fun _ h=>((cB h :) trivial))))))))) fun _ h=>((cB h :) trivial))))
 ·rw[vc244]
  exact(have hi_0:=(aC h).1;have hlo:=(aC (aC h).2).1;have h:=(aC (aC h).2).2;(bT (fun m hm=>⟨⟨hi_0,trivial⟩,hm⟩) (wrap64 (a+Z1)) _ rfl hlo trivial (bn h (fun v0 h hv0=>h) (fun _ h=>h.elim))))
def c261:Con:=⟨[.dat aE,.dat aE,.dat aE,.any],fun args hp K=>hpN 1000000 .sh TVS (fun data=>Dh (fun a0 a1 a2 a3 a4=>xz 1000000 (data.length:Int) a0 (dA aE a1 fun a=>dA aE a2 fun b=>dA aE a3 fun n=>jC 174 a4 (nj ((Sm (Ty.sl TVS) data)/\(0<=a)/\(0<=b)/\(0<=n)/\(a+n<=(data.length:Int))/\(b+n<=(data.length:Int))/\(LD (M.dz data a b n) fun r=>K (.tup []) [(1000000,.arr .sh TVS r)]))))) args []) hp,.io,false⟩
abbrev C261:Ctx:=cx [(174,c174)] 38 [] 0 false
def ann261:=an [[kp 1039],[kp 9231],[kp 1039],[kp 1039]] [[kp 0]]
abbrev s261_0 (data:(List LV)) (a:Int) (b:Int) (n:Int) (i0:Int) (v0:(List LV)):St:=⟨[(0,.clp 1000000 (data.length:Int)),(1,dI a),(2,dI b),(3,dI n),(10,dI i0)],[(1000000,.arr .sh TVS v0)]⟩
abbrev LP261_0 (data:(List LV)) (a:Int) (b:Int) (n:Int) (m:Nat) (st_:St) (K:KX):Prop:=(n<=eS/\True)/\dc (s261_0 data a b n) Z0 n (F.mz data a b n) (fun v0:(List LV)=>True) (bz (fun v0:(List LV)=>True->K (.exit 0) (⟨[],[(1000000,.arr .sh TVS v0)]⟩:St)) (fun _=>False)) m st_
def L261 (data:(List LV)) (a:Int) (b:Int) (n:Int):bK:=lp1 0 (LP261_0 data a b n)
theorem vc261 (data:(List LV)) (a:Int) (b:Int) (n:Int) (K:KA):vcT C261 (L261 data a b n) ann261 f261 [.clp 1000000 (data.length:Int),dI a,dI b,dI n,.fn 174 []] [(1000000,.arr .sh TVS data)] .raw K =
 (∃m_,(n<=eS/\True)/\dc (s261_0 data a b n) Z0 n (F.mz data a b n) (fun v0:(List LV)=>True) (bz (fun v0:(List LV)=>True->K (.tup []) [(1000000,.arr .sh TVS v0)]) (fun _=>False)) m_ (s261_0 data a b n Z0 data)):=by kernel_rfl
theorem lvc261_0 (data:(List LV)) (a:Int) (b:Int) (n:Int)  (i0:Int) (v0:(List LV)) (m:Nat) (K:KX):lvT C261 (L261 data a b n) ann261 f261 0 0 (s261_0 data a b n i0 v0) m K =
 (cond (decide (i0<n)) ((0<=wrap64 (b+i0))/\(wrap64 (b+i0)<(data.length:Int))/\(0<=wrap64 (a+i0))/\(wrap64 (a+i0)<(data.length:Int))/\(0<=wrap64 (a+i0))/\(wrap64 (a+i0)<(data.length:Int))/\(0<=wrap64 (b+i0))/\(wrap64 (b+i0)<(data.length:Int))/\(let y1:(List LV):=((v0.set (wrap64 (a+i0)).toNat (@nth TVS v0 (wrap64 (b+i0)))).set (wrap64 (b+i0)).toNat (@nth TVS v0 (wrap64 (a+i0))));(nxT (LP261_0 data a b n) m K (s261_0 data a b n (wrap64 (i0+Z1)) y1)))) (K (.exit 0) (⟨[],[(1000000,.arr .sh TVS v0)]⟩:St))):=by kernel_rfl
theorem con261_ok:bt P 261 c261:=bA C261 func261 (kC con174_ok kN) fun args hp K h0=>by
 unfold c261 at h0
 dsimp only at h0
 obtain⟨data,rfl,h00⟩:=lJ (n:=1000000) (d:=.sh) (t:=TVS) h0
 obtain⟨a0,a1,a2,a3,a4,rfl,_,h1⟩:=qi h00
 obtain⟨rfl,h2⟩:=ju h1
 obtain⟨a,rfl,h3⟩:=aP h2
 obtain⟨b,rfl,h4⟩:=aP h3
 obtain⟨n,rfl,h5⟩:=aP h4
 obtain⟨cs4,rfl,h6⟩:=cH h5
 obtain⟨rfl,h7⟩:=dJ h6
 obtain⟨h_data,p0,p1,p2,p3,p4,hK⟩:=h7
 have h:ok (F.dz data a b n) (fun r=>K (.tup []) [(1000000,.arr .sh TVS r)]):=aA (F.Cs data a b n h_data p0 p1 p2 p3 p4) (hK _ rfl)
 refine⟨rfl,ann261,(L261 data a b n),.raw,(bW (i0:=0) (by kernel_rfl) ?_),?_⟩
 ·rintro _ _ K ⟨hc0,i0,v0,rfl,hl0,rfl,hv0,h⟩
  exact cast (lvc261_0 _ _ _ _ _ _ _ _).symm (ct h (fun ht0 h=>(oG h fun g1 h=>(oG h fun g2 h=>(oG h fun g3 h=>(oG h fun g4 h=>⟨g3,⟨g4,⟨g1,⟨g2,(have h:=cI h _ rfl;(aV (fun _ hm=>⟨hc0,hm⟩) _ rfl hl0 iR ht0 hc0.1 trivial h))⟩⟩⟩⟩))))) fun h=>(h trivial))
 ·rw[vc261]
  exact(have hi_0:=(aC h).1;have h:=(aC h).2;(bT (fun m hm=>⟨⟨hi_0,trivial⟩,hm⟩) Z0 _ rfl (Int.natCast_nonneg 0) trivial (bn h (fun v0 h hv0=>h) (fun _ h=>h.elim))))
def c255:Con:=⟨[.dat aE,.dat aE,.dat aE,.any],fun args hp K=>hpN 1000000 .sh TVS (fun data=>Dh (fun a0 a1 a2 a3 a4=>xz 1000000 (data.length:Int) a0 (dA aE a1 fun a=>dA aE a2 fun mi=>dA aE a3 fun b=>jC 174 a4 (nj ((Sm (Ty.sl TVS) data)/\(0<=a)/\(a<mi)/\(mi<b)/\(b<=(data.length:Int))/\(LD (M.dr data a mi b) fun r=>K (.tup []) [(1000000,.arr .sh TVS r)]))))) args []) hp,.io,false⟩
abbrev C255:Ctx:=cx [(174,c174),(261,c261)] 58 [] 0 false
def ann255:=an [[kp 1053],[kp 3093],[kp 1051669],[kp 8391701],[kp 3093],[kp 3093],[kp 3093],[kp 3093],[kp 0]] [[kp 1045]]
abbrev s255_0 (data:(List LV)) (a:Int) (mi:Int) (b:Int) (v0:Int×Int×(List LV)):St:=⟨[(0,.clp 1000000 (data.length:Int)),(2,dI mi),(4,.fn 174 []),(10,dI v0.1),(11,dI v0.2.1)],[(1000000,.arr .sh TVS v0.2.2)]⟩
abbrev LP255_0 (data:(List LV)) (a:Int) (mi:Int) (b:Int) (m:Nat) (st_:St) (K:KX):Prop:=True/\de (s255_0 data a mi b) (F.kQ data a mi b) (fun v0:Int×Int×(List LV)=>True) (fun e0:Int×(List LV)=>True->K (.exit 0) (⟨[(0,.clp 1000000 (data.length:Int)),(2,dI mi),(4,.fn 174 []),(10,dI e0.1)],[(1000000,.arr .sh TVS e0.2)]⟩:St)) m st_
def L255 (data:(List LV)) (a:Int) (mi:Int) (b:Int):bK:=lp1 0 (LP255_0 data a mi b)
theorem vc255 (data:(List LV)) (a:Int) (mi:Int) (b:Int) (K:KA):vcT C255 (L255 data a mi b) ann255 f255 [.clp 1000000 (data.length:Int),dI a,dI mi,dI b,.fn 174 []] [(1000000,.arr .sh TVS data)] .raw K =
 (∃m_,True/\de (s255_0 data a mi b) (F.kQ data a mi b) (fun v0:Int×Int×(List LV)=>True) (fun e0:Int×(List LV)=>True->((data.length:Int)=(e0.2.length:Int))/\((e0.2.length:Int)=(e0.2.length:Int))/\(Sm (Ty.sl TVS) e0.2)/\(0<=(wrap64 (mi-e0.1)))/\(0<=mi)/\(0<=e0.1)/\((wrap64 (mi-e0.1))+e0.1<=(e0.2.length:Int))/\(mi+e0.1<=(e0.2.length:Int))/\(LD (M.dz e0.2 (wrap64 (mi-e0.1)) mi e0.1) fun r1=>(r1.length=e0.2.length)/\K (.tup []) [(1000000,.arr .sh TVS r1)])) m_ (s255_0 data a mi b (wrap64 (mi-a),wrap64 (b-mi),data))):=by kernel_rfl
theorem lvc255_0 (data:(List LV)) (a:Int) (mi:Int) (b:Int)  (v0:Int×Int×(List LV)) (m:Nat) (K:KX):lvT C255 (L255 data a mi b) ann255 f255 0 0 (s255_0 data a mi b v0) m K =
 (cond (!decide (v0.1=v0.2.1)) (cond (decide (v0.2.1<v0.1)) (((data.length:Int)=(v0.2.2.length:Int))/\((v0.2.2.length:Int)=(v0.2.2.length:Int))/\(Sm (Ty.sl TVS) v0.2.2)/\(0<=(wrap64 (mi-v0.1)))/\(0<=mi)/\(0<=v0.2.1)/\((wrap64 (mi-v0.1))+v0.2.1<=(v0.2.2.length:Int))/\(mi+v0.2.1<=(v0.2.2.length:Int))/\(LD (M.dz v0.2.2 (wrap64 (mi-v0.1)) mi v0.2.1) fun r2=>(r2.length=v0.2.2.length)/\(nxT (LP255_0 data a mi b) m K (s255_0 data a mi b (wrap64 (v0.1-v0.2.1),v0.2.1,r2))))) (((data.length:Int)=(v0.2.2.length:Int))/\((v0.2.2.length:Int)=(v0.2.2.length:Int))/\(Sm (Ty.sl TVS) v0.2.2)/\(0<=(wrap64 (mi-v0.1)))/\(0<=(wrap64 (wrap64 (mi+v0.2.1)-v0.1)))/\(0<=v0.1)/\((wrap64 (mi-v0.1))+v0.1<=(v0.2.2.length:Int))/\((wrap64 (wrap64 (mi+v0.2.1)-v0.1))+v0.1<=(v0.2.2.length:Int))/\(LD (M.dz v0.2.2 (wrap64 (mi-v0.1)) (wrap64 (wrap64 (mi+v0.2.1)-v0.1)) v0.1) fun r3=>(r3.length=v0.2.2.length)/\(nxT (LP255_0 data a mi b) m K (s255_0 data a mi b (v0.1,wrap64 (v0.2.1-v0.1),r3)))))) (K (.exit 0) (⟨[(0,.clp 1000000 (data.length:Int)),(2,dI mi),(4,.fn 174 []),(10,dI v0.1)],[(1000000,.arr .sh TVS v0.2.2)]⟩:St))):=by kernel_rfl
theorem con255_ok:bt P 255 c255:=bA C255 func255 (kC con174_ok (kC con261_ok kN)) fun args hp K h0=>by
 unfold c255 at h0
 dsimp only at h0
 obtain⟨data,rfl,h00⟩:=lJ (n:=1000000) (d:=.sh) (t:=TVS) h0
 obtain⟨a0,a1,a2,a3,a4,rfl,_,h1⟩:=qi h00
 obtain⟨rfl,h2⟩:=ju h1
 obtain⟨a,rfl,h3⟩:=aP h2
 obtain⟨mi,rfl,h4⟩:=aP h3
 obtain⟨b,rfl,h5⟩:=aP h4
 obtain⟨cs4,rfl,h6⟩:=cH h5
 obtain⟨rfl,h7⟩:=dJ h6
 obtain⟨h_data,p0,p1,p2,p3,hK⟩:=h7
 have h:ok (F.dr data a mi b) (fun r=>K (.tup []) [(1000000,.arr .sh TVS r)]):=aA (F.Bn data a mi b h_data p0 p1 p2 p3) (hK _ rfl)
 refine⟨rfl,ann255,(L255 data a mi b),.raw,(bW (i0:=0) (by kernel_rfl) ?_),?_⟩
 ·rintro _ _ K ⟨hc0,v0,rfl,hv0,h⟩
  exact cast (lvc255_0 _ _ _ _ _ _ _).symm (cC h (fun m1 hm0 h=>(oC h (fun _ h=>(oC h (fun _ h=>(oG h fun _ h=>⟨rfl,(oG h fun _ h=>(oG h fun _ h=>(oG h fun _ h=>(oG h fun _ h=>(oG h fun _ h=>(oG h fun _ h=>(oL h fun _ _ h=>(oG h fun _ h=>(aW (fun _ hm=>⟨hc0,hm⟩) hm0 _ rfl trivial h)))))))))⟩)) fun _ h=>(oG h fun _ h=>⟨rfl,(oG h fun _ h=>(oG h fun _ h=>(oG h fun _ h=>(oG h fun _ h=>(oG h fun _ h=>(oG h fun _ h=>(oL h fun _ _ h=>(oG h fun _ h=>(aW (fun _ hm=>⟨hc0,hm⟩) hm0 _ rfl trivial h)))))))))⟩))) fun _ h=>((cB h :) trivial))))
 ·rw[vc255]
  exact(bJ (fun m hm=>⟨trivial,hm⟩) _ rfl trivial (eR h (fun e0 h hv0=>(oG h fun _ h=>⟨rfl,(oG h fun _ h=>(oG h fun _ h=>(oG h fun _ h=>(oG h fun _ h=>(oG h fun _ h=>(oG h fun _ h=>(oL h fun _ _ h=>(oG h fun _ h=>h))))))))⟩))))
def c245r (n_:Nat):Con:=⟨[.dat aE,.dat aE,.dat aE,.any],fun args hp K=>hpN 1000000 .sh TVS (fun data=>Dh (fun a0 a1 a2 a3 a4=>xz 1000000 (data.length:Int) a0 (dA aE a1 fun a=>dA aE a2 fun mi=>dA aE a3 fun b=>jC 174 a4 (nj ((Sm (Ty.sl TVS) data)/\(0<=a)/\(a<mi)/\(mi<b)/\(b<=(data.length:Int))/\((b-a).toNat<=2 ^ n_)/\(LD (M.aX n_ data a mi b) fun r=>K (.tup []) [(1000000,.arr .sh TVS r)]))))) args []) hp,.io,false⟩
abbrev C245 (n_:Nat):Ctx:=cx [(174,c174),(255,c255),(245,c245r n_)] 220 [] 0 false
def ann245:=an [[kp 268435487],[kp 1051],[kp 3091],[kp 8589937683],[kp 7187],[kp 1125899906849811],[kp 3091],[kp 3091],[kp 9217],[kp 288230376151720961],[kp 9217],[kp 9217],[.keep [0,1,2,3,4,80]],[kp 16405],[kp 49173],[.keep [0,2,4,14,15,85]],[kp 114709],[.keep [0,2,4,14,15,16,103]],[kp 49173],[kp 49173],[kp 147457],[.keep [0,14,17,110]],[kp 147457],[kp 147457],[kp 262175],[kp 786463],[kp 786463],[.keep [0,1,2,3,4,18,19,140]],[kp 1835039],[kp 3932191],[kp 1835039],[kp 3932191],[kp 8126495],[.keep [0,1,2,3,4,18,19,20,21,22,151]],[kp 16515103],[.keep [0,1,2,3,4,18,19,20,21,22,23,171]],[kp 8126495],[kp 8126495],[kp 18087967],[.keep [0,1,2,3,4,18,20,24,185]],[kp 18087963],[.keep [0,1,3,4,18,20,24,199]],[kp 17039385],[.keep [0,3,4,18,24,213]],[kp 0]] [[kp 1027],[],[kp 0],[],[kp 16389],[],[kp 0],[],[kp 1835039]]
abbrev s245_0 (data:(List LV)) (a:Int) (mi:Int) (b:Int) (v0:Int×Int):St:=⟨[(0,.clp 1000000 (data.length:Int)),(1,dI a),(4,.fn 174 []),(10,dI v0.1),(11,dI v0.2)],[(1000000,.arr .sh TVS data)]⟩
abbrev LP245_0 (data:(List LV)) (a:Int) (mi:Int) (b:Int) (m:Nat) (st_:St) (K:KX):Prop:=True/\de (s245_0 data a mi b) (F.nO data a mi b) (fun v0:Int×Int=>True) (fun e0:Int=>True->K (.exit 0) (⟨[(0,.clp 1000000 (data.length:Int)),(1,dI a),(10,dI e0)],[(1000000,.arr .sh TVS data)]⟩:St)) m st_
abbrev s245_2 (data:(List LV)) (a:Int) (mi:Int) (b:Int) (c2_0:Int) (i2:Int) (v2:(List LV)):St:=⟨[(0,.clp 1000000 (data.length:Int)),(10,dI c2_0),(13,dI i2)],[(1000000,.arr .sh TVS v2)]⟩
abbrev LP245_2 (data:(List LV)) (a:Int) (mi:Int) (b:Int) (m:Nat) (st_:St) (K:KX):Prop:=∃c2_0:Int,(wrap64 (c2_0-Z1)<=eS/\True)/\dc (s245_2 data a mi b c2_0) Z0 (wrap64 (c2_0-Z1)) (F.og data a mi b c2_0) (fun v2:(List LV)=>True) (bz (fun v2:(List LV)=>True->K (.exit 2) (⟨[],[(1000000,.arr .sh TVS v2)]⟩:St)) (fun _=>False)) m st_
abbrev s245_4 (data:(List LV)) (a:Int) (mi:Int) (b:Int) (v4:Int×Int):St:=⟨[(0,.clp 1000000 (data.length:Int)),(2,dI mi),(4,.fn 174 []),(14,dI v4.1),(15,dI v4.2)],[(1000000,.arr .sh TVS data)]⟩
abbrev LP245_4 (data:(List LV)) (a:Int) (mi:Int) (b:Int) (m:Nat) (st_:St) (K:KX):Prop:=True/\de (s245_4 data a mi b) (F.om data a mi b) (fun v4:Int×Int=>True) (fun e4:Int=>True->K (.exit 4) (⟨[(0,.clp 1000000 (data.length:Int)),(2,dI mi),(14,dI e4)],[(1000000,.arr .sh TVS data)]⟩:St)) m st_
abbrev s245_6 (data:(List LV)) (a:Int) (mi:Int) (b:Int) (c6_0:Int) (v6:Int×(List LV)):St:=⟨[(0,.clp 1000000 (data.length:Int)),(14,dI c6_0),(17,dI v6.1)],[(1000000,.arr .sh TVS v6.2)]⟩
abbrev LP245_6 (data:(List LV)) (a:Int) (mi:Int) (b:Int) (m:Nat) (st_:St) (K:KX):Prop:=∃c6_0:Int,True/\de (s245_6 data a mi b c6_0) (F.oo data a mi b c6_0) (fun v6:Int×(List LV)=>True) (fun e6:(List LV)=>True->K (.exit 6) (⟨[],[(1000000,.arr .sh TVS e6)]⟩:St)) m st_
abbrev s245_8 (data:(List LV)) (a:Int) (mi:Int) (b:Int) (v8:Int×Int):St:=⟨[(0,.clp 1000000 (data.length:Int)),(1,dI a),(2,dI mi),(3,dI b),(4,.fn 174 []),(18,dI (M.mid a b)),(19,dI (wrap64 ((M.mid a b)+mi))),(20,dI v8.1),(21,dI v8.2),(22,dI (wrap64 (wrap64 ((M.mid a b)+mi)-Z1)))],[(1000000,.arr .sh TVS data)]⟩
abbrev LP245_8 (data:(List LV)) (a:Int) (mi:Int) (b:Int) (m:Nat) (st_:St) (K:KX):Prop:=True/\de (s245_8 data a mi b) (F.iw data a mi b) (fun v8:Int×Int=>True) (fun e8:Int=>True->K (.exit 8) (⟨[(0,.clp 1000000 (data.length:Int)),(1,dI a),(2,dI mi),(3,dI b),(4,.fn 174 []),(18,dI (M.mid a b)),(19,dI (wrap64 ((M.mid a b)+mi))),(20,dI e8)],[(1000000,.arr .sh TVS data)]⟩:St)) m st_
def L245 (data:(List LV)) (a:Int) (mi:Int) (b:Int):bK:=fun id m st_ K=>match id with
 | 0=>LP245_0 data a mi b m st_ K
 | 2=>LP245_2 data a mi b m st_ K
 | 4=>LP245_4 data a mi b m st_ K
 | 6=>LP245_6 data a mi b m st_ K
 | 8=>LP245_8 data a mi b m st_ K
 | _=>False
theorem vc245 (n_:Nat) (data:(List LV)) (a:Int) (mi:Int) (b:Int) (K:KA):vcT (C245 n_) (L245 data a mi b) ann245 f245 [.clp 1000000 (data.length:Int),dI a,dI mi,dI b,.fn 174 []] [(1000000,.arr .sh TVS data)] .raw K =
 (cond (decide (wrap64 (mi-a)=Z1)) (∃m_,True/\de (s245_0 data a mi b) (F.nO data a mi b) (fun v0:Int×Int=>True) (fun e0:Int=>True->(∃m_,∃c2_0:Int,(wrap64 (c2_0-Z1)<=eS/\True)/\dc (s245_2 data a mi b c2_0) Z0 (wrap64 (c2_0-Z1)) (F.og data a mi b c2_0) (fun v2:(List LV)=>True) (bz (fun v2:(List LV)=>True->K (.tup []) [(1000000,.arr .sh TVS v2)]) (fun _=>False)) m_ (s245_2 data a mi b e0 a data))) m_ (s245_0 data a mi b (mi,b))) (cond (decide (wrap64 (b-mi)=Z1)) (∃m_,True/\de (s245_4 data a mi b) (F.om data a mi b) (fun v4:Int×Int=>True) (fun e4:Int=>True->(∃m_,∃c6_0:Int,True/\de (s245_6 data a mi b c6_0) (F.oo data a mi b c6_0) (fun v6:Int×(List LV)=>True) (fun e6:(List LV)=>True->K (.tup []) [(1000000,.arr .sh TVS e6)]) m_ (s245_6 data a mi b e4 (mi,data)))) m_ (s245_4 data a mi b (a,mi))) ((0<=Z1)/\cond (decide ((M.mid a b)<mi)) (∃m_,True/\de (s245_8 data a mi b) (F.iw data a mi b) (fun v8:Int×Int=>True) (fun e8:Int=>True->cond ((decide (e8<mi))==true) (cond (decide (mi<wrap64 (wrap64 ((M.mid a b)+mi)-e8))) (((data.length:Int)=(data.length:Int))/\((data.length:Int)=(data.length:Int))/\(Sm (Ty.sl TVS) data)/\(0<=e8)/\(e8<mi)/\(mi<(wrap64 (wrap64 ((M.mid a b)+mi)-e8)))/\((wrap64 (wrap64 ((M.mid a b)+mi)-e8))<=(data.length:Int))/\(LD (M.dr data e8 mi (wrap64 (wrap64 ((M.mid a b)+mi)-e8))) fun r1=>(r1.length=data.length)/\cond ((decide (a<e8))==true) (cond (decide (e8<(M.mid a b))) (((data.length:Int)=(r1.length:Int))/\((r1.length:Int)=(r1.length:Int))/\(Sm (Ty.sl TVS) r1)/\(0<=a)/\(a<e8)/\(e8<(M.mid a b))/\((M.mid a b)<=(r1.length:Int))/\(((M.mid a b)-a).toNat<=2 ^ n_)/\(LD (M.aX n_ r1 a e8 (M.mid a b)) fun r2=>(r2.length=r1.length)/\cond ((decide ((M.mid a b)<wrap64 (wrap64 ((M.mid a b)+mi)-e8)))==true) (cond (decide (wrap64 (wrap64 ((M.mid a b)+mi)-e8)<b)) (((data.length:Int)=(r2.length:Int))/\((r2.length:Int)=(r2.length:Int))/\(Sm (Ty.sl TVS) r2)/\(0<=(M.mid a b))/\((M.mid a b)<(wrap64 (wrap64 ((M.mid a b)+mi)-e8)))/\((wrap64 (wrap64 ((M.mid a b)+mi)-e8))<b)/\(b<=(r2.length:Int))/\((b-(M.mid a b)).toNat<=2 ^ n_)/\(LD (M.aX n_ r2 (M.mid a b) (wrap64 (wrap64 ((M.mid a b)+mi)-e8)) b) fun r3=>(r3.length=r2.length)/\K (.tup []) [(1000000,.arr .sh TVS r3)])) (K (.tup []) [(1000000,.arr .sh TVS r2)])) (K (.tup []) [(1000000,.arr .sh TVS r2)]))) (cond ((decide ((M.mid a b)<wrap64 (wrap64 ((M.mid a b)+mi)-e8)))==true) (cond (decide (wrap64 (wrap64 ((M.mid a b)+mi)-e8)<b)) (((data.length:Int)=(r1.length:Int))/\((r1.length:Int)=(r1.length:Int))/\(Sm (Ty.sl TVS) r1)/\(0<=(M.mid a b))/\((M.mid a b)<(wrap64 (wrap64 ((M.mid a b)+mi)-e8)))/\((wrap64 (wrap64 ((M.mid a b)+mi)-e8))<b)/\(b<=(r1.length:Int))/\((b-(M.mid a b)).toNat<=2 ^ n_)/\(LD (M.aX n_ r1 (M.mid a b) (wrap64 (wrap64 ((M.mid a b)+mi)-e8)) b) fun r3=>(r3.length=r1.length)/\K (.tup []) [(1000000,.arr .sh TVS r3)])) (K (.tup []) [(1000000,.arr .sh TVS r1)])) (K (.tup []) [(1000000,.arr .sh TVS r1)]))) (cond ((decide ((M.mid a b)<wrap64 (wrap64 ((M.mid a b)+mi)-e8)))==true) (cond (decide (wrap64 (wrap64 ((M.mid a b)+mi)-e8)<b)) (((data.length:Int)=(r1.length:Int))/\((r1.length:Int)=(r1.length:Int))/\(Sm (Ty.sl TVS) r1)/\(0<=(M.mid a b))/\((M.mid a b)<(wrap64 (wrap64 ((M.mid a b)+mi)-e8)))/\((wrap64 (wrap64 ((M.mid a b)+mi)-e8))<b)/\(b<=(r1.length:Int))/\((b-(M.mid a b)).toNat<=2 ^ n_)/\(LD (M.aX n_ r1 (M.mid a b) (wrap64 (wrap64 ((M.mid a b)+mi)-e8)) b) fun r3=>(r3.length=r1.length)/\K (.tup []) [(1000000,.arr .sh TVS r3)])) (K (.tup []) [(1000000,.arr .sh TVS r1)])) (K (.tup []) [(1000000,.arr .sh TVS r1)])))) (cond ((decide (a<e8))==true) (cond (decide (e8<(M.mid a b))) (((data.length:Int)=(data.length:Int))/\((data.length:Int)=(data.length:Int))/\(Sm (Ty.sl TVS) data)/\(0<=a)/\(a<e8)/\(e8<(M.mid a b))/\((M.mid a b)<=(data.length:Int))/\(((M.mid a b)-a).toNat<=2 ^ n_)/\(LD (M.aX n_ data a e8 (M.mid a b)) fun r2=>(r2.length=data.length)/\cond ((decide ((M.mid a b)<wrap64 (wrap64 ((M.mid a b)+mi)-e8)))==true) (cond (decide (wrap64 (wrap64 ((M.mid a b)+mi)-e8)<b)) (((data.length:Int)=(r2.length:Int))/\((r2.length:Int)=(r2.length:Int))/\(Sm (Ty.sl TVS) r2)/\(0<=(M.mid a b))/\((M.mid a b)<(wrap64 (wrap64 ((M.mid a b)+mi)-e8)))/\((wrap64 (wrap64 ((M.mid a b)+mi)-e8))<b)/\(b<=(r2.length:Int))/\((b-(M.mid a b)).toNat<=2 ^ n_)/\(LD (M.aX n_ r2 (M.mid a b) (wrap64 (wrap64 ((M.mid a b)+mi)-e8)) b) fun r3=>(r3.length=r2.length)/\K (.tup []) [(1000000,.arr .sh TVS r3)])) (K (.tup []) [(1000000,.arr .sh TVS r2)])) (K (.tup []) [(1000000,.arr .sh TVS r2)]))) (cond ((decide ((M.mid a b)<wrap64 (wrap64 ((M.mid a b)+mi)-e8)))==true) (cond (decide (wrap64 (wrap64 ((M.mid a b)+mi)-e8)<b)) (((data.length:Int)=(data.length:Int))/\((data.length:Int)=(data.length:Int))/\(Sm (Ty.sl TVS) data)/\(0<=(M.mid a b))/\((M.mid a b)<(wrap64 (wrap64 ((M.mid a b)+mi)-e8)))/\((wrap64 (wrap64 ((M.mid a b)+mi)-e8))<b)/\(b<=(data.length:Int))/\((b-(M.mid a b)).toNat<=2 ^ n_)/\(LD (M.aX n_ data (M.mid a b) (wrap64 (wrap64 ((M.mid a b)+mi)-e8)) b) fun r3=>(r3.length=data.length)/\K (.tup []) [(1000000,.arr .sh TVS r3)])) (K (.tup []) [(1000000,.arr .sh TVS data)])) (K (.tup []) [(1000000,.arr .sh TVS data)]))) (cond ((decide ((M.mid a b)<wrap64 (wrap64 ((M.mid a b)+mi)-e8)))==true) (cond (decide (wrap64 (wrap64 ((M.mid a b)+mi)-e8)<b)) (((data.length:Int)=(data.length:Int))/\((data.length:Int)=(data.length:Int))/\(Sm (Ty.sl TVS) data)/\(0<=(M.mid a b))/\((M.mid a b)<(wrap64 (wrap64 ((M.mid a b)+mi)-e8)))/\((wrap64 (wrap64 ((M.mid a b)+mi)-e8))<b)/\(b<=(data.length:Int))/\((b-(M.mid a b)).toNat<=2 ^ n_)/\(LD (M.aX n_ data (M.mid a b) (wrap64 (wrap64 ((M.mid a b)+mi)-e8)) b) fun r3=>(r3.length=data.length)/\K (.tup []) [(1000000,.arr .sh TVS r3)])) (K (.tup []) [(1000000,.arr .sh TVS data)])) (K (.tup []) [(1000000,.arr .sh TVS data)])))) (cond ((decide (a<e8))==true) (cond (decide (e8<(M.mid a b))) (((data.length:Int)=(data.length:Int))/\((data.length:Int)=(data.length:Int))/\(Sm (Ty.sl TVS) data)/\(0<=a)/\(a<e8)/\(e8<(M.mid a b))/\((M.mid a b)<=(data.length:Int))/\(((M.mid a b)-a).toNat<=2 ^ n_)/\(LD (M.aX n_ data a e8 (M.mid a b)) fun r2=>(r2.length=data.length)/\cond ((decide ((M.mid a b)<wrap64 (wrap64 ((M.mid a b)+mi)-e8)))==true) (cond (decide (wrap64 (wrap64 ((M.mid a b)+mi)-e8)<b)) (((data.length:Int)=(r2.length:Int))/\((r2.length:Int)=(r2.length:Int))/\(Sm (Ty.sl TVS) r2)/\(0<=(M.mid a b))/\((M.mid a b)<(wrap64 (wrap64 ((M.mid a b)+mi)-e8)))/\((wrap64 (wrap64 ((M.mid a b)+mi)-e8))<b)/\(b<=(r2.length:Int))/\((b-(M.mid a b)).toNat<=2 ^ n_)/\(LD (M.aX n_ r2 (M.mid a b) (wrap64 (wrap64 ((M.mid a b)+mi)-e8)) b) fun r3=>(r3.length=r2.length)/\K (.tup []) [(1000000,.arr .sh TVS r3)])) (K (.tup []) [(1000000,.arr .sh TVS r2)])) (K (.tup []) [(1000000,.arr .sh TVS r2)]))) (cond ((decide ((M.mid a b)<wrap64 (wrap64 ((M.mid a b)+mi)-e8)))==true) (cond (decide (wrap64 (wrap64 ((M.mid a b)+mi)-e8)<b)) (((data.length:Int)=(data.length:Int))/\((data.length:Int)=(data.length:Int))/\(Sm (Ty.sl TVS) data)/\(0<=(M.mid a b))/\((M.mid a b)<(wrap64 (wrap64 ((M.mid a b)+mi)-e8)))/\((wrap64 (wrap64 ((M.mid a b)+mi)-e8))<b)/\(b<=(data.length:Int))/\((b-(M.mid a b)).toNat<=2 ^ n_)/\(LD (M.aX n_ data (M.mid a b) (wrap64 (wrap64 ((M.mid a b)+mi)-e8)) b) fun r3=>(r3.length=data.length)/\K (.tup []) [(1000000,.arr .sh TVS r3)])) (K (.tup []) [(1000000,.arr .sh TVS data)])) (K (.tup []) [(1000000,.arr .sh TVS data)]))) (cond ((decide ((M.mid a b)<wrap64 (wrap64 ((M.mid a b)+mi)-e8)))==true) (cond (decide (wrap64 (wrap64 ((M.mid a b)+mi)-e8)<b)) (((data.length:Int)=(data.length:Int))/\((data.length:Int)=(data.length:Int))/\(Sm (Ty.sl TVS) data)/\(0<=(M.mid a b))/\((M.mid a b)<(wrap64 (wrap64 ((M.mid a b)+mi)-e8)))/\((wrap64 (wrap64 ((M.mid a b)+mi)-e8))<b)/\(b<=(data.length:Int))/\((b-(M.mid a b)).toNat<=2 ^ n_)/\(LD (M.aX n_ data (M.mid a b) (wrap64 (wrap64 ((M.mid a b)+mi)-e8)) b) fun r3=>(r3.length=data.length)/\K (.tup []) [(1000000,.arr .sh TVS r3)])) (K (.tup []) [(1000000,.arr .sh TVS data)])) (K (.tup []) [(1000000,.arr .sh TVS data)])))) m_ (s245_8 data a mi b (wrap64 (wrap64 ((M.mid a b)+mi)-b),(M.mid a b)))) (∃m_,True/\de (s245_8 data a mi b) (F.iw data a mi b) (fun v8:Int×Int=>True) (fun e8:Int=>True->cond ((decide (e8<mi))==true) (cond (decide (mi<wrap64 (wrap64 ((M.mid a b)+mi)-e8))) (((data.length:Int)=(data.length:Int))/\((data.length:Int)=(data.length:Int))/\(Sm (Ty.sl TVS) data)/\(0<=e8)/\(e8<mi)/\(mi<(wrap64 (wrap64 ((M.mid a b)+mi)-e8)))/\((wrap64 (wrap64 ((M.mid a b)+mi)-e8))<=(data.length:Int))/\(LD (M.dr data e8 mi (wrap64 (wrap64 ((M.mid a b)+mi)-e8))) fun r1=>(r1.length=data.length)/\cond ((decide (a<e8))==true) (cond (decide (e8<(M.mid a b))) (((data.length:Int)=(r1.length:Int))/\((r1.length:Int)=(r1.length:Int))/\(Sm (Ty.sl TVS) r1)/\(0<=a)/\(a<e8)/\(e8<(M.mid a b))/\((M.mid a b)<=(r1.length:Int))/\(((M.mid a b)-a).toNat<=2 ^ n_)/\(LD (M.aX n_ r1 a e8 (M.mid a b)) fun r2=>(r2.length=r1.length)/\cond ((decide ((M.mid a b)<wrap64 (wrap64 ((M.mid a b)+mi)-e8)))==true) (cond (decide (wrap64 (wrap64 ((M.mid a b)+mi)-e8)<b)) (((data.length:Int)=(r2.length:Int))/\((r2.length:Int)=(r2.length:Int))/\(Sm (Ty.sl TVS) r2)/\(0<=(M.mid a b))/\((M.mid a b)<(wrap64 (wrap64 ((M.mid a b)+mi)-e8)))/\((wrap64 (wrap64 ((M.mid a b)+mi)-e8))<b)/\(b<=(r2.length:Int))/\((b-(M.mid a b)).toNat<=2 ^ n_)/\(LD (M.aX n_ r2 (M.mid a b) (wrap64 (wrap64 ((M.mid a b)+mi)-e8)) b) fun r3=>(r3.length=r2.length)/\K (.tup []) [(1000000,.arr .sh TVS r3)])) (K (.tup []) [(1000000,.arr .sh TVS r2)])) (K (.tup []) [(1000000,.arr .sh TVS r2)]))) (cond ((decide ((M.mid a b)<wrap64 (wrap64 ((M.mid a b)+mi)-e8)))==true) (cond (decide (wrap64 (wrap64 ((M.mid a b)+mi)-e8)<b)) (((data.length:Int)=(r1.length:Int))/\((r1.length:Int)=(r1.length:Int))/\(Sm (Ty.sl TVS) r1)/\(0<=(M.mid a b))/\((M.mid a b)<(wrap64 (wrap64 ((M.mid a b)+mi)-e8)))/\((wrap64 (wrap64 ((M.mid a b)+mi)-e8))<b)/\(b<=(r1.length:Int))/\((b-(M.mid a b)).toNat<=2 ^ n_)/\(LD (M.aX n_ r1 (M.mid a b) (wrap64 (wrap64 ((M.mid a b)+mi)-e8)) b) fun r3=>(r3.length=r1.length)/\K (.tup []) [(1000000,.arr .sh TVS r3)])) (K (.tup []) [(1000000,.arr .sh TVS r1)])) (K (.tup []) [(1000000,.arr .sh TVS r1)]))) (cond ((decide ((M.mid a b)<wrap64 (wrap64 ((M.mid a b)+mi)-e8)))==true) (cond (decide (wrap64 (wrap64 ((M.mid a b)+mi)-e8)<b)) (((data.length:Int)=(r1.length:Int))/\((r1.length:Int)=(r1.length:Int))/\(Sm (Ty.sl TVS) r1)/\(0<=(M.mid a b))/\((M.mid a b)<(wrap64 (wrap64 ((M.mid a b)+mi)-e8)))/\((wrap64 (wrap64 ((M.mid a b)+mi)-e8))<b)/\(b<=(r1.length:Int))/\((b-(M.mid a b)).toNat<=2 ^ n_)/\(LD (M.aX n_ r1 (M.mid a b) (wrap64 (wrap64 ((M.mid a b)+mi)-e8)) b) fun r3=>(r3.length=r1.length)/\K (.tup []) [(1000000,.arr .sh TVS r3)])) (K (.tup []) [(1000000,.arr .sh TVS r1)])) (K (.tup []) [(1000000,.arr .sh TVS r1)])))) (cond ((decide (a<e8))==true) (cond (decide (e8<(M.mid a b))) (((data.length:Int)=(data.length:Int))/\((data.length:Int)=(data.length:Int))/\(Sm (Ty.sl TVS) data)/\(0<=a)/\(a<e8)/\(e8<(M.mid a b))/\((M.mid a b)<=(data.length:Int))/\(((M.mid a b)-a).toNat<=2 ^ n_)/\(LD (M.aX n_ data a e8 (M.mid a b)) fun r2=>(r2.length=data.length)/\cond ((decide ((M.mid a b)<wrap64 (wrap64 ((M.mid a b)+mi)-e8)))==true) (cond (decide (wrap64 (wrap64 ((M.mid a b)+mi)-e8)<b)) (((data.length:Int)=(r2.length:Int))/\((r2.length:Int)=(r2.length:Int))/\(Sm (Ty.sl TVS) r2)/\(0<=(M.mid a b))/\((M.mid a b)<(wrap64 (wrap64 ((M.mid a b)+mi)-e8)))/\((wrap64 (wrap64 ((M.mid a b)+mi)-e8))<b)/\(b<=(r2.length:Int))/\((b-(M.mid a b)).toNat<=2 ^ n_)/\(LD (M.aX n_ r2 (M.mid a b) (wrap64 (wrap64 ((M.mid a b)+mi)-e8)) b) fun r3=>(r3.length=r2.length)/\K (.tup []) [(1000000,.arr .sh TVS r3)])) (K (.tup []) [(1000000,.arr .sh TVS r2)])) (K (.tup []) [(1000000,.arr .sh TVS r2)]))) (cond ((decide ((M.mid a b)<wrap64 (wrap64 ((M.mid a b)+mi)-e8)))==true) (cond (decide (wrap64 (wrap64 ((M.mid a b)+mi)-e8)<b)) (((data.length:Int)=(data.length:Int))/\((data.length:Int)=(data.length:Int))/\(Sm (Ty.sl TVS) data)/\(0<=(M.mid a b))/\((M.mid a b)<(wrap64 (wrap64 ((M.mid a b)+mi)-e8)))/\((wrap64 (wrap64 ((M.mid a b)+mi)-e8))<b)/\(b<=(data.length:Int))/\((b-(M.mid a b)).toNat<=2 ^ n_)/\(LD (M.aX n_ data (M.mid a b) (wrap64 (wrap64 ((M.mid a b)+mi)-e8)) b) fun r3=>(r3.length=data.length)/\K (.tup []) [(1000000,.arr .sh TVS r3)])) (K (.tup []) [(1000000,.arr .sh TVS data)])) (K (.tup []) [(1000000,.arr .sh TVS data)]))) (cond ((decide ((M.mid a b)<wrap64 (wrap64 ((M.mid a b)+mi)-e8)))==true) (cond (decide (wrap64 (wrap64 ((M.mid a b)+mi)-e8)<b)) (((data.length:Int)=(data.length:Int))/\((data.length:Int)=(data.length:Int))/\(Sm (Ty.sl TVS) data)/\(0<=(M.mid a b))/\((M.mid a b)<(wrap64 (wrap64 ((M.mid a b)+mi)-e8)))/\((wrap64 (wrap64 ((M.mid a b)+mi)-e8))<b)/\(b<=(data.length:Int))/\((b-(M.mid a b)).toNat<=2 ^ n_)/\(LD (M.aX n_ data (M.mid a b) (wrap64 (wrap64 ((M.mid a b)+mi)-e8)) b) fun r3=>(r3.length=data.length)/\K (.tup []) [(1000000,.arr .sh TVS r3)])) (K (.tup []) [(1000000,.arr .sh TVS data)])) (K (.tup []) [(1000000,.arr .sh TVS data)])))) (cond ((decide (a<e8))==true) (cond (decide (e8<(M.mid a b))) (((data.length:Int)=(data.length:Int))/\((data.length:Int)=(data.length:Int))/\(Sm (Ty.sl TVS) data)/\(0<=a)/\(a<e8)/\(e8<(M.mid a b))/\((M.mid a b)<=(data.length:Int))/\(((M.mid a b)-a).toNat<=2 ^ n_)/\(LD (M.aX n_ data a e8 (M.mid a b)) fun r2=>(r2.length=data.length)/\cond ((decide ((M.mid a b)<wrap64 (wrap64 ((M.mid a b)+mi)-e8)))==true) (cond (decide (wrap64 (wrap64 ((M.mid a b)+mi)-e8)<b)) (((data.length:Int)=(r2.length:Int))/\((r2.length:Int)=(r2.length:Int))/\(Sm (Ty.sl TVS) r2)/\(0<=(M.mid a b))/\((M.mid a b)<(wrap64 (wrap64 ((M.mid a b)+mi)-e8)))/\((wrap64 (wrap64 ((M.mid a b)+mi)-e8))<b)/\(b<=(r2.length:Int))/\((b-(M.mid a b)).toNat<=2 ^ n_)/\(LD (M.aX n_ r2 (M.mid a b) (wrap64 (wrap64 ((M.mid a b)+mi)-e8)) b) fun r3=>(r3.length=r2.length)/\K (.tup []) [(1000000,.arr .sh TVS r3)])) (K (.tup []) [(1000000,.arr .sh TVS r2)])) (K (.tup []) [(1000000,.arr .sh TVS r2)]))) (cond ((decide ((M.mid a b)<wrap64 (wrap64 ((M.mid a b)+mi)-e8)))==true) (cond (decide (wrap64 (wrap64 ((M.mid a b)+mi)-e8)<b)) (((data.length:Int)=(data.length:Int))/\((data.length:Int)=(data.length:Int))/\(Sm (Ty.sl TVS) data)/\(0<=(M.mid a b))/\((M.mid a b)<(wrap64 (wrap64 ((M.mid a b)+mi)-e8)))/\((wrap64 (wrap64 ((M.mid a b)+mi)-e8))<b)/\(b<=(data.length:Int))/\((b-(M.mid a b)).toNat<=2 ^ n_)/\(LD (M.aX n_ data (M.mid a b) (wrap64 (wrap64 ((M.mid a b)+mi)-e8)) b) fun r3=>(r3.length=data.length)/\K (.tup []) [(1000000,.arr .sh TVS r3)])) (K (.tup []) [(1000000,.arr .sh TVS data)])) (K (.tup []) [(1000000,.arr .sh TVS data)]))) (cond ((decide ((M.mid a b)<wrap64 (wrap64 ((M.mid a b)+mi)-e8)))==true) (cond (decide (wrap64 (wrap64 ((M.mid a b)+mi)-e8)<b)) (((data.length:Int)=(data.length:Int))/\((data.length:Int)=(data.length:Int))/\(Sm (Ty.sl TVS) data)/\(0<=(M.mid a b))/\((M.mid a b)<(wrap64 (wrap64 ((M.mid a b)+mi)-e8)))/\((wrap64 (wrap64 ((M.mid a b)+mi)-e8))<b)/\(b<=(data.length:Int))/\((b-(M.mid a b)).toNat<=2 ^ n_)/\(LD (M.aX n_ data (M.mid a b) (wrap64 (wrap64 ((M.mid a b)+mi)-e8)) b) fun r3=>(r3.length=data.length)/\K (.tup []) [(1000000,.arr .sh TVS r3)])) (K (.tup []) [(1000000,.arr .sh TVS data)])) (K (.tup []) [(1000000,.arr .sh TVS data)])))) m_ (s245_8 data a mi b (a,mi)))))):=by kernel_rfl
theorem lvc245_0 (n_:Nat) (data:(List LV)) (a:Int) (mi:Int) (b:Int)  (v0:Int×Int) (m:Nat) (K:KX):lvT (C245 n_) (L245 data a mi b) ann245 f245 0 0 (s245_0 data a mi b v0) m K =
 (cond (decide (v0.1<v0.2)) ((0<=Z1)/\(0<=(M.mid v0.1 v0.2))/\((M.mid v0.1 v0.2)<(data.length:Int))/\(0<=a)/\(a<(data.length:Int))/\(Sm TVS (@nth TVS data (M.mid v0.1 v0.2)))/\(Sm TVS (@nth TVS data a))/\cond (decide ((M.dY (@nth TVS data (M.mid v0.1 v0.2)) (@nth TVS data a))<Z0)) (nxT (LP245_0 data a mi b) m K (s245_0 data a mi b (wrap64 ((M.mid v0.1 v0.2)+Z1),v0.2))) (nxT (LP245_0 data a mi b) m K (s245_0 data a mi b (v0.1,(M.mid v0.1 v0.2))))) (K (.exit 0) (⟨[(0,.clp 1000000 (data.length:Int)),(1,dI a),(10,dI v0.1)],[(1000000,.arr .sh TVS data)]⟩:St))):=by kernel_rfl
theorem lvc245_1 (n_:Nat) (data:(List LV)) (a:Int) (mi:Int) (b:Int) (c2_0:Int) (i2:Int) (v2:(List LV)) (m:Nat) (K:KX):lvT (C245 n_) (L245 data a mi b) ann245 f245 1 2 (s245_2 data a mi b c2_0 i2 v2) m K =
 (cond (decide (i2<wrap64 (c2_0-Z1))) ((0<=wrap64 (i2+Z1))/\(wrap64 (i2+Z1)<(data.length:Int))/\(0<=i2)/\(i2<(data.length:Int))/\(0<=i2)/\(i2<(data.length:Int))/\(0<=wrap64 (i2+Z1))/\(wrap64 (i2+Z1)<(data.length:Int))/\(let y1:(List LV):=((v2.set i2.toNat (@nth TVS v2 (wrap64 (i2+Z1)))).set (wrap64 (i2+Z1)).toNat (@nth TVS v2 i2));(nxT (LP245_2 data a mi b) m K (s245_2 data a mi b c2_0 (wrap64 (i2+Z1)) y1)))) (K (.exit 2) (⟨[],[(1000000,.arr .sh TVS v2)]⟩:St))):=by kernel_rfl
theorem lvc245_2 (n_:Nat) (data:(List LV)) (a:Int) (mi:Int) (b:Int)  (v4:Int×Int) (m:Nat) (K:KX):lvT (C245 n_) (L245 data a mi b) ann245 f245 2 4 (s245_4 data a mi b v4) m K =
 (cond (decide (v4.1<v4.2)) ((0<=Z1)/\(0<=mi)/\(mi<(data.length:Int))/\(0<=(M.mid v4.1 v4.2))/\((M.mid v4.1 v4.2)<(data.length:Int))/\(Sm TVS (@nth TVS data mi))/\(Sm TVS (@nth TVS data (M.mid v4.1 v4.2)))/\cond (!(decide ((M.dY (@nth TVS data mi) (@nth TVS data (M.mid v4.1 v4.2)))<Z0))) (nxT (LP245_4 data a mi b) m K (s245_4 data a mi b (wrap64 ((M.mid v4.1 v4.2)+Z1),v4.2))) (nxT (LP245_4 data a mi b) m K (s245_4 data a mi b (v4.1,(M.mid v4.1 v4.2))))) (K (.exit 4) (⟨[(0,.clp 1000000 (data.length:Int)),(2,dI mi),(14,dI v4.1)],[(1000000,.arr .sh TVS data)]⟩:St))):=by kernel_rfl
theorem lvc245_3 (n_:Nat) (data:(List LV)) (a:Int) (mi:Int) (b:Int) (c6_0:Int) (v6:Int×(List LV)) (m:Nat) (K:KX):lvT (C245 n_) (L245 data a mi b) ann245 f245 3 6 (s245_6 data a mi b c6_0 v6) m K =
 (cond (decide (c6_0<v6.1)) ((0<=wrap64 (v6.1-Z1))/\(wrap64 (v6.1-Z1)<(data.length:Int))/\(0<=v6.1)/\(v6.1<(data.length:Int))/\(0<=v6.1)/\(v6.1<(data.length:Int))/\(0<=wrap64 (v6.1-Z1))/\(wrap64 (v6.1-Z1)<(data.length:Int))/\(let y2:(List LV):=((v6.2.set v6.1.toNat (@nth TVS v6.2 (wrap64 (v6.1-Z1)))).set (wrap64 (v6.1-Z1)).toNat (@nth TVS v6.2 v6.1));(nxT (LP245_6 data a mi b) m K (s245_6 data a mi b c6_0 (wrap64 (v6.1-Z1),y2))))) (K (.exit 6) (⟨[],[(1000000,.arr .sh TVS v6.2)]⟩:St))):=by kernel_rfl
theorem lvc245_4 (n_:Nat) (data:(List LV)) (a:Int) (mi:Int) (b:Int)  (v8:Int×Int) (m:Nat) (K:KX):lvT (C245 n_) (L245 data a mi b) ann245 f245 4 8 (s245_8 data a mi b v8) m K =
 (cond (decide (v8.1<v8.2)) ((0<=Z1)/\(0<=wrap64 (wrap64 (wrap64 ((M.mid a b)+mi)-Z1)-(M.mid v8.1 v8.2)))/\(wrap64 (wrap64 (wrap64 ((M.mid a b)+mi)-Z1)-(M.mid v8.1 v8.2))<(data.length:Int))/\(0<=(M.mid v8.1 v8.2))/\((M.mid v8.1 v8.2)<(data.length:Int))/\(Sm TVS (@nth TVS data (wrap64 (wrap64 (wrap64 ((M.mid a b)+mi)-Z1)-(M.mid v8.1 v8.2)))))/\(Sm TVS (@nth TVS data (M.mid v8.1 v8.2)))/\cond (!(decide ((M.dY (@nth TVS data (wrap64 (wrap64 (wrap64 ((M.mid a b)+mi)-Z1)-(M.mid v8.1 v8.2)))) (@nth TVS data (M.mid v8.1 v8.2)))<Z0))) (nxT (LP245_8 data a mi b) m K (s245_8 data a mi b (wrap64 ((M.mid v8.1 v8.2)+Z1),v8.2))) (nxT (LP245_8 data a mi b) m K (s245_8 data a mi b (v8.1,(M.mid v8.1 v8.2))))) (K (.exit 8) (⟨[(0,.clp 1000000 (data.length:Int)),(1,dI a),(2,dI mi),(3,dI b),(4,.fn 174 []),(18,dI (M.mid a b)),(19,dI (wrap64 ((M.mid a b)+mi))),(20,dI v8.1)],[(1000000,.arr .sh TVS data)]⟩:St))):=by kernel_rfl
theorem con245r_ok:∀n_,bt P 245 (c245r n_)
 | 0=>bA (cx [] 220 [] 0 false) func245 kN fun args hp K h0=>by
  unfold c245r at h0
  dsimp only at h0
  obtain⟨data,rfl,h00⟩:=lJ (n:=1000000) (d:=.sh) (t:=TVS) h0
  obtain⟨a0,a1,a2,a3,a4,rfl,_,h1⟩:=qi h00
  obtain⟨rfl,h2⟩:=ju h1
  obtain⟨a,rfl,h3⟩:=aP h2
  obtain⟨mi,rfl,h4⟩:=aP h3
  obtain⟨b,rfl,h5⟩:=aP h4
  obtain⟨cs4,rfl,h6⟩:=cH h5
  obtain⟨rfl,h7⟩:=dJ h6
  obtain⟨h_data,p0,p1,p2,p3,p4,_⟩:=h7
  exfalso;have q1:@LT.lt Int _ a mi:=p1;have q2:@LT.lt Int _ mi b:=p2;simp at p4;omega
 | n_+1=>(fun ih=>bA (C245 n_) func245 (kC con174_ok (kC con255_ok (kC ih kN))) fun args hp K h0=>by
  unfold c245r at h0
  dsimp only at h0
  obtain⟨data,rfl,h00⟩:=lJ (n:=1000000) (d:=.sh) (t:=TVS) h0
  obtain⟨a0,a1,a2,a3,a4,rfl,_,h1⟩:=qi h00
  obtain⟨rfl,h2⟩:=ju h1
  obtain⟨a,rfl,h3⟩:=aP h2
  obtain⟨mi,rfl,h4⟩:=aP h3
  obtain⟨b,rfl,h5⟩:=aP h4
  obtain⟨cs4,rfl,h6⟩:=cH h5
  obtain⟨rfl,h7⟩:=dJ h6
  obtain⟨h_data,p0,p1,p2,p3,p4,hK⟩:=h7
  have h:ok (F.aX n_ data a mi b) (fun r=>K (.tup []) [(1000000,.arr .sh TVS r)]):=aA (F.DH n_ data a mi b h_data p0 p1 p2 p3 p4) (hK _ rfl)
  refine⟨rfl,ann245,(L245 data a mi b),.raw,(JY (i0:=0) (i1:=2) (i2:=4) (i3:=6) (i4:=8) (by kernel_rfl) ?_ ?_ ?_ ?_ ?_),?_⟩
  ·rintro _ _ K ⟨hc0,v0,rfl,hv0,h⟩
   exact cast (lvc245_0 _ _ _ _ _ _ _ _).symm (cC h (fun m1 hm0 h=>(oC h (fun _ h=>⟨(Int.natCast_nonneg 1),(oG h fun _ h=>(oG h fun _ h=>(oG h fun _ h=>(oG h fun _ h=>⟨(aO h_data (M.mid v0.1 v0.2)),⟨(aO h_data a),(oC h (fun _ h=>(aW (fun _ hm=>⟨hc0,hm⟩) hm0 _ rfl trivial h)) fun _ h=>(aW (fun _ hm=>⟨hc0,hm⟩) hm0 _ rfl trivial h))⟩⟩))))⟩) fun _ h=>((cB h :) trivial))))
  ·rintro _ _ K ⟨c2_0,hc2,i2,v2,rfl,hl2,rfl,hv2,h⟩
   exact cast (lvc245_1 _ _ _ _ _ _ _ _ _ _).symm (ct h (fun ht2 h=>(oG h fun g1 h=>(oG h fun g2 h=>⟨hl2,(oG h fun g3 h=>⟨hl2,⟨g3,⟨g1,⟨g2,(have h:=cI h _ rfl;(aV (fun _ hm=>⟨c2_0,hc2,hm⟩) _ rfl hl2 iR ht2 hc2.1 trivial h))⟩⟩⟩⟩)⟩))) fun h=>(h trivial))
  ·rintro _ _ K ⟨hc4,v4,rfl,hv4,h⟩
   exact cast (lvc245_2 _ _ _ _ _ _ _ _).symm (cC h (fun m1 hm4 h=>(oC h (fun _ h=>⟨(Int.natCast_nonneg 1),(oG h fun _ h=>(oG h fun _ h=>(oG h fun _ h=>(oG h fun _ h=>⟨(aO h_data mi),⟨(aO h_data (M.mid v4.1 v4.2)),(oC h (fun _ h=>(aW (fun _ hm=>⟨hc4,hm⟩) hm4 _ rfl trivial h)) fun _ h=>(aW (fun _ hm=>⟨hc4,hm⟩) hm4 _ rfl trivial h))⟩⟩))))⟩) fun _ h=>((cB h :) trivial))))
  ·rintro _ _ K ⟨c6_0,hc6,v6,rfl,hv6,h⟩
   exact cast (lvc245_3 _ _ _ _ _ _ _ _ _).symm (cC h (fun m1 hm6 h=>(oC h (fun _ h=>(oG h fun g4 h=>(oG h fun g5 h=>(oG h fun g6 h=>(oG h fun g7 h=>⟨g6,⟨g7,⟨g4,⟨g5,(have h:=cI h _ rfl;(aW (fun _ hm=>⟨c6_0,hc6,hm⟩) hm6 _ rfl trivial h))⟩⟩⟩⟩))))) fun _ h=>((cB h :) trivial))))
  ·rintro _ _ K ⟨hc8,v8,rfl,hv8,h⟩
   exact cast (lvc245_4 _ _ _ _ _ _ _ _).symm (cC h (fun m1 hm8 h=>(oC h (fun _ h=>⟨(Int.natCast_nonneg 1),(oG h fun _ h=>(oG h fun _ h=>(oG h fun _ h=>(oG h fun _ h=>⟨(aO h_data (wrap64 (wrap64 (wrap64 ((M.mid a b)+mi)-Z1)-(M.mid v8.1 v8.2)))),⟨(aO h_data (M.mid v8.1 v8.2)),(oC h (fun _ h=>(aW (fun _ hm=>⟨hc8,hm⟩) hm8 _ rfl trivial h)) fun _ h=>(aW (fun _ hm=>⟨hc8,hm⟩) hm8 _ rfl trivial h))⟩⟩))))⟩) fun _ h=>((cB h :) trivial))))
  ·rw[vc245]
   exact(oC h (fun _ h=>(bJ (fun m hm=>⟨trivial,hm⟩) _ rfl trivial (eR h (fun e0 h hv0=>(have hi_0:=(aC h).1;have h:=(aC h).2;(bT (fun m hm=>⟨e0,⟨hi_0,trivial⟩,hm⟩) a _ rfl p0 trivial (bn h (fun v2 h hv2=>h) (fun _ h=>h.elim)))))))) fun _ h=>(oC h (fun _ h=>(bJ (fun m hm=>⟨trivial,hm⟩) _ rfl trivial (eR h (fun e4 h hv4=>(bJ (fun m hm=>⟨e4,trivial,hm⟩) _ rfl trivial (eR h (fun e6 h hv6=>h))))))) fun _ h=>⟨(Int.natCast_nonneg 1),(oC h (fun _ h=>(bJ (fun m hm=>⟨trivial,hm⟩) _ rfl trivial (eR h (fun e8 h hv8=>(oC h (fun _ h=>(oC h (fun _ h=>⟨rfl,⟨rfl,⟨h_data,(oG h fun _ h=>(oG h fun _ h=>(oG h fun _ h=>(oG h fun _ h=>(oL h fun _ _ h=>(oG h fun _ h=>(oC h (fun _ h=>(oC h (fun _ h=>(oG h fun _ h=>⟨rfl,(oG h fun _ h=>⟨p0,(oG h fun _ h=>(oG h fun _ h=>(oG h fun _ h=>(oG h fun _ h=>(oL h fun _ _ h=>(oG h fun _ h=>(oC h (fun _ h=>(oC h (fun _ h=>(oG h fun _ h=>⟨rfl,(oG h fun _ h=>(oG h fun _ h=>(oG h fun _ h=>(oG h fun _ h=>(oG h fun _ h=>(oG h fun _ h=>(oL h fun _ _ h=>(oG h fun _ h=>h))))))))⟩)) fun _ h=>h)) fun _ h=>h)))))))⟩)⟩)) fun _ h=>(oC h (fun _ h=>(oC h (fun _ h=>(oG h fun _ h=>⟨rfl,(oG h fun _ h=>(oG h fun _ h=>(oG h fun _ h=>(oG h fun _ h=>(oG h fun _ h=>(oG h fun _ h=>(oL h fun _ _ h=>(oG h fun _ h=>h))))))))⟩)) fun _ h=>h)) fun _ h=>h))) fun _ h=>(oC h (fun _ h=>(oC h (fun _ h=>(oG h fun _ h=>⟨rfl,(oG h fun _ h=>(oG h fun _ h=>(oG h fun _ h=>(oG h fun _ h=>(oG h fun _ h=>(oG h fun _ h=>(oL h fun _ _ h=>(oG h fun _ h=>h))))))))⟩)) fun _ h=>h)) fun _ h=>h))))))))⟩⟩⟩) fun _ h=>(oC h (fun _ h=>(oC h (fun _ h=>⟨rfl,⟨rfl,⟨h_data,⟨p0,(oG h fun _ h=>(oG h fun _ h=>(oG h fun _ h=>(oG h fun _ h=>(oL h fun _ _ h=>(oG h fun _ h=>(oC h (fun _ h=>(oC h (fun _ h=>(oG h fun _ h=>⟨rfl,(oG h fun _ h=>(oG h fun _ h=>(oG h fun _ h=>(oG h fun _ h=>(oG h fun _ h=>(oG h fun _ h=>(oL h fun _ _ h=>(oG h fun _ h=>h))))))))⟩)) fun _ h=>h)) fun _ h=>h)))))))⟩⟩⟩⟩) fun _ h=>(oC h (fun _ h=>(oC h (fun _ h=>⟨rfl,⟨rfl,⟨h_data,(oG h fun _ h=>(oG h fun _ h=>(oG h fun _ h=>⟨p3,(oG h fun _ h=>(oL h fun _ _ h=>(oG h fun _ h=>h)))⟩)))⟩⟩⟩) fun _ h=>h)) fun _ h=>h))) fun _ h=>(oC h (fun _ h=>(oC h (fun _ h=>⟨rfl,⟨rfl,⟨h_data,(oG h fun _ h=>(oG h fun _ h=>(oG h fun _ h=>⟨p3,(oG h fun _ h=>(oL h fun _ _ h=>(oG h fun _ h=>h)))⟩)))⟩⟩⟩) fun _ h=>h)) fun _ h=>h)))) fun _ h=>(oC h (fun _ h=>(oC h (fun _ h=>⟨rfl,⟨rfl,⟨h_data,⟨p0,(oG h fun _ h=>(oG h fun _ h=>(oG h fun _ h=>(oG h fun _ h=>(oL h fun _ _ h=>(oG h fun _ h=>(oC h (fun _ h=>(oC h (fun _ h=>(oG h fun _ h=>⟨rfl,(oG h fun _ h=>(oG h fun _ h=>(oG h fun _ h=>(oG h fun _ h=>(oG h fun _ h=>(oG h fun _ h=>(oL h fun _ _ h=>(oG h fun _ h=>h))))))))⟩)) fun _ h=>h)) fun _ h=>h)))))))⟩⟩⟩⟩) fun _ h=>(oC h (fun _ h=>(oC h (fun _ h=>⟨rfl,⟨rfl,⟨h_data,(oG h fun _ h=>(oG h fun _ h=>(oG h fun _ h=>⟨p3,(oG h fun _ h=>(oL h fun _ _ h=>(oG h fun _ h=>h)))⟩)))⟩⟩⟩) fun _ h=>h)) fun _ h=>h))) fun _ h=>(oC h (fun _ h=>(oC h (fun _ h=>⟨rfl,⟨rfl,⟨h_data,(oG h fun _ h=>(oG h fun _ h=>(oG h fun _ h=>⟨p3,(oG h fun _ h=>(oL h fun _ _ h=>(oG h fun _ h=>h)))⟩)))⟩⟩⟩) fun _ h=>h)) fun _ h=>h))))))) fun _ h=>(bJ (fun m hm=>⟨trivial,hm⟩) _ rfl trivial (eR h (fun e8 h hv8=>(oC h (fun _ h=>(oC h (fun _ h=>⟨rfl,⟨rfl,⟨h_data,(oG h fun _ h=>(oG h fun _ h=>(oG h fun _ h=>(oG h fun _ h=>(oL h fun _ _ h=>(oG h fun _ h=>(oC h (fun _ h=>(oC h (fun _ h=>(oG h fun _ h=>⟨rfl,(oG h fun _ h=>⟨p0,(oG h fun _ h=>(oG h fun _ h=>(oG h fun _ h=>(oG h fun _ h=>(oL h fun _ _ h=>(oG h fun _ h=>(oC h (fun _ h=>(oC h (fun _ h=>(oG h fun _ h=>⟨rfl,(oG h fun _ h=>(oG h fun _ h=>(oG h fun _ h=>(oG h fun _ h=>(oG h fun _ h=>(oG h fun _ h=>(oL h fun _ _ h=>(oG h fun _ h=>h))))))))⟩)) fun _ h=>h)) fun _ h=>h)))))))⟩)⟩)) fun _ h=>(oC h (fun _ h=>(oC h (fun _ h=>(oG h fun _ h=>⟨rfl,(oG h fun _ h=>(oG h fun _ h=>(oG h fun _ h=>(oG h fun _ h=>(oG h fun _ h=>(oG h fun _ h=>(oL h fun _ _ h=>(oG h fun _ h=>h))))))))⟩)) fun _ h=>h)) fun _ h=>h))) fun _ h=>(oC h (fun _ h=>(oC h (fun _ h=>(oG h fun _ h=>⟨rfl,(oG h fun _ h=>(oG h fun _ h=>(oG h fun _ h=>(oG h fun _ h=>(oG h fun _ h=>(oG h fun _ h=>(oL h fun _ _ h=>(oG h fun _ h=>h))))))))⟩)) fun _ h=>h)) fun _ h=>h))))))))⟩⟩⟩) fun _ h=>(oC h (fun _ h=>(oC h (fun _ h=>⟨rfl,⟨rfl,⟨h_data,⟨p0,(oG h fun _ h=>(oG h fun _ h=>(oG h fun _ h=>(oG h fun _ h=>(oL h fun _ _ h=>(oG h fun _ h=>(oC h (fun _ h=>(oC h (fun _ h=>(oG h fun _ h=>⟨rfl,(oG h fun _ h=>(oG h fun _ h=>(oG h fun _ h=>(oG h fun _ h=>(oG h fun _ h=>(oG h fun _ h=>(oL h fun _ _ h=>(oG h fun _ h=>h))))))))⟩)) fun _ h=>h)) fun _ h=>h)))))))⟩⟩⟩⟩) fun _ h=>(oC h (fun _ h=>(oC h (fun _ h=>⟨rfl,⟨rfl,⟨h_data,(oG h fun _ h=>(oG h fun _ h=>(oG h fun _ h=>⟨p3,(oG h fun _ h=>(oL h fun _ _ h=>(oG h fun _ h=>h)))⟩)))⟩⟩⟩) fun _ h=>h)) fun _ h=>h))) fun _ h=>(oC h (fun _ h=>(oC h (fun _ h=>⟨rfl,⟨rfl,⟨h_data,(oG h fun _ h=>(oG h fun _ h=>(oG h fun _ h=>⟨p3,(oG h fun _ h=>(oL h fun _ _ h=>(oG h fun _ h=>h)))⟩)))⟩⟩⟩) fun _ h=>h)) fun _ h=>h)))) fun _ h=>(oC h (fun _ h=>(oC h (fun _ h=>⟨rfl,⟨rfl,⟨h_data,⟨p0,(oG h fun _ h=>(oG h fun _ h=>(oG h fun _ h=>(oG h fun _ h=>(oL h fun _ _ h=>(oG h fun _ h=>(oC h (fun _ h=>(oC h (fun _ h=>(oG h fun _ h=>⟨rfl,(oG h fun _ h=>(oG h fun _ h=>(oG h fun _ h=>(oG h fun _ h=>(oG h fun _ h=>(oG h fun _ h=>(oL h fun _ _ h=>(oG h fun _ h=>h))))))))⟩)) fun _ h=>h)) fun _ h=>h)))))))⟩⟩⟩⟩) fun _ h=>(oC h (fun _ h=>(oC h (fun _ h=>⟨rfl,⟨rfl,⟨h_data,(oG h fun _ h=>(oG h fun _ h=>(oG h fun _ h=>⟨p3,(oG h fun _ h=>(oL h fun _ _ h=>(oG h fun _ h=>h)))⟩)))⟩⟩⟩) fun _ h=>h)) fun _ h=>h))) fun _ h=>(oC h (fun _ h=>(oC h (fun _ h=>⟨rfl,⟨rfl,⟨h_data,(oG h fun _ h=>(oG h fun _ h=>(oG h fun _ h=>⟨p3,(oG h fun _ h=>(oL h fun _ _ h=>(oG h fun _ h=>h)))⟩)))⟩⟩⟩) fun _ h=>h)) fun _ h=>h)))))))⟩))) (con245r_ok n_)
def c245:Con:=c245r 64
theorem con245_ok:bt P 245 c245:=con245r_ok 64
def c215:Con:=⟨[.dat aE,.any],fun args hp K=>hpN 1000000 .sh TVS (fun data=>rK (fun a0 a1 a2=>xz 1000000 (data.length:Int) a0 (dA aE a1 fun n=>jC 174 a2 (nj ((Sm (Ty.sl TVS) data)/\(n=(data.length:Int))/\(LD (M.eC data n) fun r=>K (.tup []) [(1000000,.arr .sh TVS r)]))))) args []) hp,.io,false⟩
abbrev C215:Ctx:=cx [(174,c174),(244,c244),(245,c245)] 63 [] 0 false
def ann215:=an [[kp 71],[kp 455],[kp 8647],[kp 327],[kp 455],[kp 455],[kp 71],[kp 1073741895],[kp 455],[kp 34359738823],[kp 327],[kp 455],[kp 455],[kp 711],[kp 18014398509482695],[kp 71],[kp 71]] [[kp 199],[],[kp 0],[],[kp 199]]
abbrev s215_0 (data:(List LV)) (n:Int) (v0:Int×Int×(List LV)):St:=⟨[(0,.clp 1000000 (data.length:Int)),(1,dI n),(2,.fn 174 []),(6,dI (20:Int)),(7,dI v0.1),(8,dI v0.2.1)],[(1000000,.arr .sh TVS v0.2.2)]⟩
abbrev LP215_0 (data:(List LV)) (n:Int) (m:Nat) (st_:St) (K:KX):Prop:=True/\de (s215_0 data n) (F.kT data n) (fun v0:Int×Int×(List LV)=>True) (fun e0:Int×(List LV)=>True->K (.exit 0) (⟨[(0,.clp 1000000 (data.length:Int)),(1,dI n),(2,.fn 174 []),(6,dI (20:Int)),(7,dI e0.1)],[(1000000,.arr .sh TVS e0.2)]⟩:St)) m st_
abbrev s215_2 (data:(List LV)) (n:Int) (v2:Int×(List LV)):St:=⟨[(0,.clp 1000000 (data.length:Int)),(1,dI n),(2,.fn 174 []),(6,dI v2.1)],[(1000000,.arr .sh TVS v2.2)]⟩
abbrev LP215_2 (data:(List LV)) (n:Int) (m:Nat) (st_:St) (K:KX):Prop:=True/\de (s215_2 data n) (F.kP data n) (fun v2:Int×(List LV)=>True) (fun e2:(List LV)=>True->K (.exit 2) (⟨[],[(1000000,.arr .sh TVS e2)]⟩:St)) m st_
abbrev s215_4 (data:(List LV)) (n:Int) (c4_0:Int) (v4:Int×Int×(List LV)):St:=⟨[(0,.clp 1000000 (data.length:Int)),(1,dI n),(2,.fn 174 []),(6,dI c4_0),(7,dI v4.1),(8,dI v4.2.1)],[(1000000,.arr .sh TVS v4.2.2)]⟩
abbrev LP215_4 (data:(List LV)) (n:Int) (m:Nat) (st_:St) (K:KX):Prop:=∃c4_0:Int,True/\de (s215_4 data n c4_0) (F.kV data n c4_0) (fun v4:Int×Int×(List LV)=>True) (fun e4:Int×(List LV)=>True->K (.exit 4) (⟨[(0,.clp 1000000 (data.length:Int)),(1,dI n),(2,.fn 174 []),(6,dI c4_0),(7,dI e4.1)],[(1000000,.arr .sh TVS e4.2)]⟩:St)) m st_
def L215 (data:(List LV)) (n:Int):bK:=fun id m st_ K=>match id with
 | 0=>LP215_0 data n m st_ K
 | 2=>LP215_2 data n m st_ K
 | 4=>LP215_4 data n m st_ K
 | _=>False
theorem vc215 (data:(List LV)) (n:Int) (K:KA):vcT C215 (L215 data n) ann215 f215 [.clp 1000000 (data.length:Int),dI n,.fn 174 []] [(1000000,.arr .sh TVS data)] .raw K =
 (∃m_,True/\de (s215_0 data n) (F.kT data n) (fun v0:Int×Int×(List LV)=>True) (fun e0:Int×(List LV)=>True->((data.length:Int)=(e0.2.length:Int))/\((e0.2.length:Int)=(e0.2.length:Int))/\(Sm (Ty.sl TVS) e0.2)/\(0<=e0.1)/\(e0.1<=n)/\(n<=(e0.2.length:Int))/\(LD (M.cr e0.2 e0.1 n) fun r1=>(r1.length=e0.2.length)/\(∃m_,True/\de (s215_2 data n) (F.kP data n) (fun v2:Int×(List LV)=>True) (fun e2:(List LV)=>True->K (.tup []) [(1000000,.arr .sh TVS e2)]) m_ (s215_2 data n ((20:Int),r1))))) m_ (s215_0 data n (Z0,(20:Int),data))):=by kernel_rfl
theorem lvc215_0 (data:(List LV)) (n:Int)  (v0:Int×Int×(List LV)) (m:Nat) (K:KX):lvT C215 (L215 data n) ann215 f215 0 0 (s215_0 data n v0) m K =
 (cond (decide (v0.2.1<=n)) (((data.length:Int)=(v0.2.2.length:Int))/\((v0.2.2.length:Int)=(v0.2.2.length:Int))/\(Sm (Ty.sl TVS) v0.2.2)/\(0<=v0.1)/\(v0.1<=v0.2.1)/\(v0.2.1<=(v0.2.2.length:Int))/\(LD (M.cr v0.2.2 v0.1 v0.2.1) fun r2=>(r2.length=v0.2.2.length)/\(nxT (LP215_0 data n) m K (s215_0 data n (v0.2.1,wrap64 (v0.2.1+(20:Int)),r2))))) (K (.exit 0) (⟨[(0,.clp 1000000 (data.length:Int)),(1,dI n),(2,.fn 174 []),(6,dI (20:Int)),(7,dI v0.1)],[(1000000,.arr .sh TVS v0.2.2)]⟩:St))):=by kernel_rfl
theorem lvc215_1 (data:(List LV)) (n:Int)  (v2:Int×(List LV)) (m:Nat) (K:KX):lvT C215 (L215 data n) ann215 f215 1 2 (s215_2 data n v2) m K =
 (cond (decide (v2.1<n)) (∃m_,∃c4_0:Int,True/\de (s215_4 data n c4_0) (F.kV data n c4_0) (fun v4:Int×Int×(List LV)=>True) (fun e4:Int×(List LV)=>True->cond (decide (wrap64 (e4.1+c4_0)<n)) (((data.length:Int)=(e4.2.length:Int))/\((e4.2.length:Int)=(e4.2.length:Int))/\(Sm (Ty.sl TVS) e4.2)/\(0<=e4.1)/\(e4.1<(wrap64 (e4.1+c4_0)))/\((wrap64 (e4.1+c4_0))<n)/\(n<=(e4.2.length:Int))/\((n-e4.1).toNat<=2 ^ 64)/\(LD (M.aX 64 e4.2 e4.1 (wrap64 (e4.1+c4_0)) n) fun r3=>(r3.length=e4.2.length)/\(nxT (LP215_2 data n) m K (s215_2 data n (wrap64 (c4_0 * Z2),r3))))) (nxT (LP215_2 data n) m K (s215_2 data n (wrap64 (c4_0 * Z2),e4.2)))) m_ (s215_4 data n v2.1 (Z0,wrap64 (Z2 * v2.1),v2.2))) (K (.exit 2) (⟨[],[(1000000,.arr .sh TVS v2.2)]⟩:St))):=by kernel_rfl
theorem lvc215_2 (data:(List LV)) (n:Int) (c4_0:Int) (v4:Int×Int×(List LV)) (m:Nat) (K:KX):lvT C215 (L215 data n) ann215 f215 2 4 (s215_4 data n c4_0 v4) m K =
 (cond (decide (v4.2.1<=n)) (((data.length:Int)=(v4.2.2.length:Int))/\((v4.2.2.length:Int)=(v4.2.2.length:Int))/\(Sm (Ty.sl TVS) v4.2.2)/\(0<=v4.1)/\(v4.1<(wrap64 (v4.1+c4_0)))/\((wrap64 (v4.1+c4_0))<v4.2.1)/\(v4.2.1<=(v4.2.2.length:Int))/\((v4.2.1-v4.1).toNat<=2 ^ 64)/\(LD (M.aX 64 v4.2.2 v4.1 (wrap64 (v4.1+c4_0)) v4.2.1) fun r4=>(r4.length=v4.2.2.length)/\(nxT (LP215_4 data n) m K (s215_4 data n c4_0 (v4.2.1,wrap64 (v4.2.1+wrap64 (Z2 * c4_0)),r4))))) (K (.exit 4) (⟨[(0,.clp 1000000 (data.length:Int)),(1,dI n),(2,.fn 174 []),(6,dI c4_0),(7,dI v4.1)],[(1000000,.arr .sh TVS v4.2.2)]⟩:St))):=by kernel_rfl
theorem con215_ok:bt P 215 c215:=bA C215 func215 (kC con174_ok (kC con244_ok (kC con245_ok kN))) fun args hp K h0=>by
 unfold c215 at h0
 dsimp only at h0
 obtain⟨data,rfl,h00⟩:=lJ (n:=1000000) (d:=.sh) (t:=TVS) h0
 obtain⟨a0,a1,a2,rfl,_,h1⟩:=gq h00
 obtain⟨rfl,h2⟩:=ju h1
 obtain⟨n,rfl,h3⟩:=aP h2
 obtain⟨cs2,rfl,h4⟩:=cH h3
 obtain⟨rfl,h5⟩:=dJ h4
 obtain⟨h_data,p0,hK⟩:=h5
 have h:ok (F.eC data n) (fun r=>K (.tup []) [(1000000,.arr .sh TVS r)]):=aA (F.AP data n h_data p0) (hK _ rfl)
 refine⟨rfl,ann215,(L215 data n),.raw,(Jh (i0:=0) (i1:=2) (i2:=4) (by kernel_rfl) ?_ ?_ ?_),?_⟩
 ·rintro _ _ K ⟨hc0,v0,rfl,hv0,h⟩
  exact cast (lvc215_0 _ _ _ _ _).symm (cC h (fun m1 hm0 h=>(oC h (fun _ h=>(oG h fun _ h=>⟨rfl,(oG h fun _ h=>(oG h fun _ h=>(oG h fun _ h=>(oG h fun _ h=>(oL h fun _ _ h=>(oG h fun _ h=>(aW (fun _ hm=>⟨hc0,hm⟩) hm0 _ rfl trivial h)))))))⟩)) fun _ h=>((cB h :) trivial))))
 ·rintro _ _ K ⟨hc2,v2,rfl,hv2,h⟩
  exact cast (lvc215_1 _ _ _ _ _).symm (cC h (fun m1 hm2 h=>(oC h (fun _ h=>(bJ (fun m hm=>⟨v2.1,trivial,hm⟩) _ rfl trivial (eR h (fun e4 h hv4=>(oC h (fun _ h=>(oG h fun _ h=>⟨rfl,(oG h fun _ h=>(oG h fun _ h=>(oG h fun _ h=>(oG h fun _ h=>(oG h fun _ h=>(oG h fun _ h=>(oL h fun _ _ h=>(oG h fun _ h=>(aW (fun _ hm=>⟨hc2,hm⟩) hm2 _ rfl trivial h)))))))))⟩)) fun _ h=>(aW (fun _ hm=>⟨hc2,hm⟩) hm2 _ rfl trivial h)))))) fun _ h=>((cB h :) trivial))))
 ·rintro _ _ K ⟨c4_0,hc4,v4,rfl,hv4,h⟩
  exact cast (lvc215_2 _ _ _ _ _ _).symm (cC h (fun m1 hm4 h=>(oC h (fun _ h=>(oG h fun _ h=>⟨rfl,(oG h fun _ h=>(oG h fun _ h=>(oG h fun _ h=>(oG h fun _ h=>(oG h fun _ h=>(oG h fun _ h=>(oL h fun _ _ h=>(oG h fun _ h=>(aW (fun _ hm=>⟨c4_0,hc4,hm⟩) hm4 _ rfl trivial h)))))))))⟩)) fun _ h=>((cB h :) trivial))))
 ·rw[vc215]
  exact(bJ (fun m hm=>⟨trivial,hm⟩) _ rfl trivial (eR h (fun e0 h hv0=>(oG h fun _ h=>⟨rfl,(oG h fun _ h=>(oG h fun _ h=>(oG h fun _ h=>(oG h fun _ h=>(oL h fun _ _ h=>(oG h fun _ h=>(bJ (fun m hm=>⟨trivial,hm⟩) _ rfl trivial (eR h (fun e2 h hv2=>h)))))))))⟩))))
def c173:Con:=⟨[.any],fun args hp K=>hpN 1000000 .sh TVS (fun data=>args2 (fun a0 a1=>xz 1000000 (data.length:Int) a0 (jC 174 a1 (nj ((Sm (Ty.sl TVS) data)/\(LD (M.ez data) fun r=>K (.tup []) [(1000000,.arr .sh TVS r)]))))) args []) hp,.io,false⟩
abbrev C173:Ctx:=cx [(174,c174),(215,c215)] 9 [] 0 false
def ann173:=an [[kp 0]] []
theorem vc173 (data:(List LV)) (K:KA):vcT C173 aB ann173 f173 [.clp 1000000 (data.length:Int),.fn 174 []] [(1000000,.arr .sh TVS data)] .raw K =
 (((data.length:Int)=(data.length:Int))/\((data.length:Int)=(data.length:Int))/\(Sm (Ty.sl TVS) data)/\((data.length:Int)=(data.length:Int))/\(LD (M.eC data (data.length:Int)) fun r1=>(r1.length=data.length)/\K (.tup []) [(1000000,.arr .sh TVS r1)])):=by kernel_rfl
theorem con173_ok:bt P 173 c173:=bA C173 func173 (kC con174_ok (kC con215_ok kN)) fun args hp K h0=>by
 unfold c173 at h0
 dsimp only at h0
 obtain⟨data,rfl,h00⟩:=lJ (n:=1000000) (d:=.sh) (t:=TVS) h0
 obtain⟨a0,a1,rfl,_,h1⟩:=bZ h00
 obtain⟨rfl,h2⟩:=ju h1
 obtain⟨cs1,rfl,h3⟩:=cH h2
 obtain⟨rfl,h4⟩:=dJ h3
 obtain⟨h_data,hK⟩:=h4
 have h:ok (F.ez data) (fun r=>K (.tup []) [(1000000,.arr .sh TVS r)]):=aA (F.Bh data h_data) (hK _ rfl)
 refine⟨rfl,ann173,aB,.raw,(aL (by kernel_rfl)),?_⟩
 ·rw[vc173]
  exact⟨rfl,⟨rfl,⟨h_data,(oG h fun _ h=>(oL h fun _ _ h=>(oG h fun _ h=>h)))⟩⟩⟩
abbrev C175:Ctx:=cx [] 9 [] 400000 true
def T175:Inl:=rR C175 (fun _=>[]) (dO f175) f175.results.toList
theorem inlOk175:sw P 175 T175:=wA C175 func175 kN
def c102:Con:=⟨[.dat (Ty.sl TVS),.dat (Ty.sl TVS)],fun args hp K=>g2 (pD (Ty.sl TVS)) (pD (Ty.sl TVS)) (fun a b=>(Sm (Ty.sl TVS) a)/\(Sm (Ty.sl TVS) b)/\(a.length<=300)/\(b.length<=300)/\(LD (M.gp a b) fun r=>K (.data (Ty.sl cO) r) [])) args hp,.plain,false⟩
abbrev C102:Ctx:=cx [(90,c90),(171,c171),(172,c172),(173,c173)] 41 [(175,T175)] 0 false
def ann102:=an [[kp 3],[kp 35],[.weak 14,kp 99],[kp 99],[kp 917539],[kp 1966115],[kp 917795],[kp 918307],[kp 2148401955],[kp 917539],[kp 917539],[.freeze 5,kp 16]] [[kp 32]]
abbrev s102_0 (a:(List LV)) (b:(List LV)) (c0_0:Int) (c0_1:Int) (c0_2:(List LV)) (i0:Int) (v0:(List cO.D)):St:=⟨[(0,.data (Ty.sl TVS) a),(1,.data (Ty.sl TVS) b),(5,.own 5 none),(17,.clp 14 c0_0),(18,dI c0_1),(19,dI i0)],[(5,.arr .sh cO v0),(14,.arr .sh TVS c0_2)]⟩
abbrev LP102_0 (a:(List LV)) (b:(List LV)) (m:Nat) (st_:St) (K:KX):Prop:=∃c0_0:Int,∃c0_1:Int,∃c0_2:(List LV),(c0_1<=eS/\True)/\dc (s102_0 a b c0_0 c0_1 c0_2) Z0 c0_1 (F.qb a b c0_0 c0_1 c0_2) (fun v0:(List cO.D)=>True) (bz (fun v0:(List cO.D)=>True->K (.exit 0) (⟨[(5,.own 5 none)],[(5,.arr .sh cO v0)]⟩:St)) (fun _=>False)) m st_
def L102 (a:(List LV)) (b:(List LV)):bK:=lp1 0 (LP102_0 a b)
theorem vc102 (a:(List LV)) (b:(List LV)) (K:KA):vcT C102 (L102 a b) ann102 f102 [.data (Ty.sl TVS) a,.data (Ty.sl TVS) b] [] (.dat (Ty.sl cO)) K =
 ((Sm (Ty.sl (Ty.sl TVS)) [a,b])/\(LD (List.flatten [a,b]) fun r1=>(Sm (Ty.sl TVS) r1)/\(LD (M.gC r1) fun r2=>((r2.length:Int)=(r2.length:Int))/\((r2.length:Int)=(r2.length:Int))/\(Sm (Ty.sl TVS) r2)/\(LD (M.ez r2) fun r3=>(r3.length=r2.length)/\(∃m_,∃c0_0:Int,∃c0_1:Int,∃c0_2:(List LV),(c0_1<=eS/\True)/\dc (s102_0 a b c0_0 c0_1 c0_2) Z0 c0_1 (F.qb a b c0_0 c0_1 c0_2) (fun v0:(List cO.D)=>True) (bz (fun v0:(List cO.D)=>True->(0<=Z0)/\(Z0<=(v0.length:Int))/\((v0.length:Int)<=(v0.length:Int))/\((v0.length:Int)=(v0.length:Int))/\(Z0=0)/\K (.data (Ty.sl cO) (aj v0 (some (Z0,(v0.length:Int))))) []) (fun _=>False)) m_ (s102_0 a b (r2.length:Int) (r2.length:Int) r3 Z0 [])))))):=by kernel_rfl
theorem lvc102_0 (a:(List LV)) (b:(List LV)) (c0_0:Int) (c0_1:Int) (c0_2:(List LV)) (i0:Int) (v0:(List cO.D)) (m:Nat) (K:KX):lvT C102 (L102 a b) ann102 f102 0 0 (s102_0 a b c0_0 c0_1 c0_2 i0 v0) m K =
 (cond (decide (i0<c0_1)) ((0<=i0)/\(i0<c0_0)/\(Sm (Ty.sl TVS) b)/\(Sm TVS (@nth TVS c0_2 i0))/\(Sm (Ty.sl TVS) a)/\(Sm TVS (@nth TVS c0_2 i0))/\cond (!decide (wrap64 ((M.cV b (@nth TVS c0_2 i0):Int)-(M.cV a (@nth TVS c0_2 i0):Int))=Z0)) (((v0.length+[((@nth TVS c0_2 i0),(wrap64 ((M.cV b (@nth TVS c0_2 i0):Int)-(M.cV a (@nth TVS c0_2 i0):Int)),()))].length) * 32<=lim)/\(nxT (LP102_0 a b) m K (s102_0 a b c0_0 c0_1 c0_2 (wrap64 (i0+Z1)) (v0++[((@nth TVS c0_2 i0),(wrap64 ((M.cV b (@nth TVS c0_2 i0):Int)-(M.cV a (@nth TVS c0_2 i0):Int)),()))])))) (nxT (LP102_0 a b) m K (s102_0 a b c0_0 c0_1 c0_2 (wrap64 (i0+Z1)) v0))) (K (.exit 0) (⟨[(5,.own 5 none)],[(5,.arr .sh cO v0)]⟩:St))):=by kernel_rfl
theorem con102_ok:bt P 102 c102:=bA C102 func102 (kC con90_ok (kC con171_ok (kC con172_ok (kC con173_ok (kI inlOk175 kN))))) fun args hp K h0=>by
 obtain⟨a,b,rfl,rfl,h_a,h_b,p0,p1,hK⟩:=g2e h0
 have h:ok (F.gp a b) (fun r=>K (.data (Ty.sl cO) r) []):=aA (F.Ft a b h_a h_b p0 p1) (hK _ rfl)
 refine⟨rfl,ann102,(L102 a b),(.dat (Ty.sl cO)),(bW (i0:=0) (by kernel_rfl) ?_),?_⟩
 ·rintro _ _ K ⟨c0_0,c0_1,c0_2,hc0,i0,v0,rfl,hl0,rfl,hv0,h⟩
  exact cast (lvc102_0 _ _ _ _ _ _ _ _ _).symm (ct h (fun ht0 h=>⟨hl0,(oG h fun _ h=>⟨h_b,(oG h fun g1 h=>⟨h_a,⟨g1,(oC h (fun _ h=>(oG h fun _ h=>(aV (fun _ hm=>⟨c0_0,c0_1,c0_2,hc0,hm⟩) _ rfl hl0 iR ht0 hc0.1 trivial h))) fun _ h=>(aV (fun _ hm=>⟨c0_0,c0_1,c0_2,hc0,hm⟩) _ rfl hl0 iR ht0 hc0.1 trivial h))⟩⟩)⟩)⟩) fun h=>(h trivial))
 ·rw[vc102]
  exact(oG h fun _ h=>(oL h fun _ _ h=>(oG h fun _ h=>(oL h fun r2 _ h=>⟨rfl,⟨rfl,(oG h fun _ h=>(oL h fun r3 _ h=>(oG h fun _ h=>(have hi_0:=(aC h).1;have h:=(aC h).2;(bT (fun m hm=>⟨(r2.length:Int),(r2.length:Int),r3,⟨hi_0,trivial⟩,hm⟩) Z0 _ rfl (Int.natCast_nonneg 0) trivial (bn h (fun v0 h hv0=>⟨(Int.natCast_nonneg 0),⟨(Int.natCast_nonneg _),⟨(Int.le_refl _),⟨rfl,⟨rfl,h⟩⟩⟩⟩⟩) (fun _ h=>h.elim)))))))⟩⟩))))
def c198:Con:=⟨[.dat TVS,.dat (Ty.sl aE)],fun args hp K=>g2 (pD TVS) (pD (Ty.sl aE)) (fun row list=>(Sm TVS row)/\(Sm (Ty.sl aE) list)/\(M.BJ row list)/\(LD (M.taken row list) fun r=>K (.data TVS r) [])) args hp,.plain,false⟩
abbrev C198:Ctx:=cx [(134,c134)] 24 [] 0 false
def ann198:=an [[kp 3],[kp 35],[kp 1825],[kp 3873],[kp 1953],[kp 1825],[kp 1825],[.freeze 23,kp 16]] [[kp 32]]
abbrev s198_0 (row:LV) (list:LI) (i0:Int) (v0:LV):St:=⟨[(0,.data TVS row),(5,.own 5 none),(8,.data (Ty.sl aE) list),(9,dI (list.length:Int)),(10,dI i0)],[(5,.arr .sh af v0)]⟩
abbrev LP198_0 (row:LV) (list:LI) (m:Nat) (st_:St) (K:KX):Prop:=True/\cw (t:=aE) (s198_0 row list) list (F.kW row list) (fun v0:LV=>True) (bz (fun v0:LV=>True->K (.exit 0) (⟨[(5,.own 5 none)],[(5,.arr .sh af v0)]⟩:St)) (fun _=>False)) m st_
def L198 (row:LV) (list:LI):bK:=lp1 0 (LP198_0 row list)
theorem vc198 (row:LV) (list:LI) (K:KA):vcT C198 (L198 row list) ann198 f198 [.data TVS row,.data (Ty.sl aE) list] [] (.dat TVS) K =
 (∃m_,True/\cw (t:=aE) (s198_0 row list) list (F.kW row list) (fun v0:LV=>True) (bz (fun v0:LV=>True->(Sm TVS v0)/\(LD v0 fun r1=>K (.data TVS (aj r1 (some (Z0,(r1.length:Int))))) [])) (fun _=>False)) m_ (s198_0 row list Z0 [])):=by kernel_rfl
theorem lvc198_0 (row:LV) (list:LI)  (i0:Int) (v0:LV) (m:Nat) (K:KX):lvT C198 (L198 row list) ann198 f198 0 0 (s198_0 row list i0 v0) m K =
 (cond (decide (i0<(list.length:Int))) ((0<=i0)/\(i0<(list.length:Int))/\(0<=(nI list i0))/\((nI list i0)<(row.length:Int))/\((v0.length+[(nV row (nI list i0))].length) * 32<=lim)/\(nxT (LP198_0 row list) m K (s198_0 row list (wrap64 (i0+Z1)) (v0++[(nV row (nI list i0))])))) (K (.exit 0) (⟨[(5,.own 5 none)],[(5,.arr .sh af v0)]⟩:St))):=by kernel_rfl
theorem con198_ok:bt P 198 c198:=bA C198 func198 (kC con134_ok kN) fun args hp K h0=>by
 obtain⟨row,list,rfl,rfl,h_row,h_list,p0,hK⟩:=g2e h0
 have h:ok (F.tJ row list) (fun r=>K (.data TVS r) []):=aA (F.Bi row list h_row h_list p0) (hK _ rfl)
 refine⟨rfl,ann198,(L198 row list),(.dat TVS),(bW (i0:=0) (by kernel_rfl) ?_),?_⟩
 ·rintro _ _ K ⟨hc0,i0,v0,rfl,hl0,rfl,hv0,h⟩
  exact cast (lvc198_0 _ _ _ _ _ _).symm (bD (t:=aE) hl0 h (fun ht0 h=>⟨hl0,⟨ht0,(oG h fun _ h=>(oG h fun _ h=>(oG h fun _ h=>(br (t:=aE) (fun _ hm=>⟨hc0,hm⟩) _ rfl hl0 ht0 (bC h_list) trivial h))))⟩⟩) fun h=>(h trivial))
 ·rw[vc198]
  exact(bu (t:=aE) (fun m hm=>⟨trivial,hm⟩) _ rfl trivial (bn h (fun v0 h hv0=>(oG h fun _ h=>(oL h fun _ _ h=>h))) (fun _ h=>h.elim)))
def c257:Con:=⟨[.any,.dat aE],fun args hp K=>args2 (fun a0 a1=>DZ a0 (dA aE a1 fun n=>(0<=n)/\(n<=1099511627776)/\(LD ([]:List af.D) fun r=>K (.own 0 none) [(0,.arr .sh af r)]))) args hp,.plain,false⟩
abbrev C257:Ctx:=cx [] 27 [] 0 false
def ann257:=an [[kp 3],[kp 67],[kp 3],[kp 3],[kp 65539],[kp 1],[kp 16]] []
theorem vc257 (n:Int) (K:KA):vcT C257 aB ann257 f257 [.cst (.slice none 0 0),dI n] [] .raw K =
 (cond (decide (n<Z0)) False (cond (decide (Z0<wrap64 (n-(wrap64 (Z0-Z0))))) ((0<=Z0)/\(Z0<=Z0)/\(Z0<=Z0)/\(Z0=Z0)/\(0<=wrap64 (n-(wrap64 (Z0-Z0))))/\((wrap64 (n-(wrap64 (Z0-Z0)))) * 32<=(lim:Int))/\(0<=Z0)/\(Z0<=Z0)/\(Z0<=((List.replicate (wrap64 (n-(wrap64 (Z0-Z0)))).toNat (Z0,(Z0,((⟨#[]⟩:ByteArray),())))).length:Int))/\(Z0=Z0)/\(Z0=0)/\K (.own 0 none) [(0,.arr .sh af ((List.replicate (wrap64 (n-(wrap64 (Z0-Z0)))).toNat (Z0,(Z0,((⟨#[]⟩:ByteArray),())))).take Z0.toNat))]) (K (.own 0 none) [(0,.arr .sh af [])]))):=by kernel_rfl
theorem con257_ok:bt P 257 c257:=bA C257 func257 kN fun args hp K h0=>by
 obtain⟨a0,a1,rfl,rfl,h1⟩:=bZ h0
 obtain⟨rfl,h2⟩:=tG h1
 obtain⟨n,rfl,h3⟩:=aP h2
 obtain⟨p0,p1,hK⟩:=h3
 have h:ok (F.rD n) (fun r=>K (.own 0 none) [(0,.arr .sh af r)]):=aA (F.Ag n p0 p1) (hK _ rfl)
 refine⟨rfl,ann257,aB,.raw,(aL (by kernel_rfl)),?_⟩
 ·rw[vc257]
  exact(oC h (fun _ h=>h) fun _ h=>(oC h (fun _ h=>⟨(Int.natCast_nonneg 0),⟨(Int.le_refl _),⟨(Int.le_refl _),⟨rfl,(oG h fun _ h=>(oG h fun _ h=>⟨(Int.natCast_nonneg 0),⟨(Int.le_refl _),⟨(Int.natCast_nonneg _),⟨rfl,⟨rfl,h⟩⟩⟩⟩⟩))⟩⟩⟩⟩) fun _ h=>h))
def c248:Con:=⟨[.dat (Ty.sl TVS)],fun args hp K=>g1 (pD (Ty.sl TVS)) (fun xss=>(Sm (Ty.sl TVS) xss)/\(LD (List.flatten xss) fun r=>K (.own 0 none) [(0,.arr .sh af r)])) args hp,.plain,false⟩
abbrev C248:Ctx:=cx [(257,c257)] 36 [] 0 false
def ann248:=an [[kp 1],[kp 9],[kp 3593],[kp 7689],[kp 3625],[kp 3593],[kp 1052169],[kp 3593],[kp 3593],[kp 65],[kp 234881088],[kp 503316544],[kp 234881344],[kp 234881088],[kp 234881088],[kp 4]] [[kp 9],[],[kp 64]]
abbrev s248_0 (xss:(List LV)) (i0:Int) (v0:Int):St:=⟨[(0,.data (Ty.sl TVS) xss),(3,dI v0),(9,.data (Ty.sl TVS) xss),(10,dI (xss.length:Int)),(11,dI i0)],[]⟩
abbrev LP248_0 (xss:(List LV)) (m:Nat) (st_:St) (K:KX):Prop:=True/\cw (t:=TVS) (s248_0 xss) xss (F.iV xss) (fun v0:Int=>True) (bz (fun v0:Int=>True->K (.exit 0) (⟨[(0,.data (Ty.sl TVS) xss),(3,dI v0)],[]⟩:St)) (fun _=>False)) m st_
abbrev s248_2 (xss:(List LV)) (i2:Int) (v2:LV):St:=⟨[(6,.own 24 none),(25,.data (Ty.sl TVS) xss),(26,dI (xss.length:Int)),(27,dI i2)],[(24,.arr .sh af v2)]⟩
abbrev LP248_2 (xss:(List LV)) (m:Nat) (st_:St) (K:KX):Prop:=True/\cw (t:=TVS) (s248_2 xss) xss (F.iJ xss) (fun v2:LV=>True) (bz (fun v2:LV=>True->K (.exit 2) (⟨[(6,.own 24 none)],[(24,.arr .sh af v2)]⟩:St)) (fun _=>False)) m st_
def L248 (xss:(List LV)):bK:=lp2 0 (LP248_0 xss) 2 (LP248_2 xss)
theorem vc248 (xss:(List LV)) (K:KA):vcT C248 (L248 xss) ann248 f248 [.data (Ty.sl TVS) xss] [] .raw K =
 (∃m_,True/\cw (t:=TVS) (s248_0 xss) xss (F.iV xss) (fun v0:Int=>True) (bz (fun v0:Int=>True->(0<=v0)/\(v0<=1099511627776)/\(LD ([]:List af.D) fun r1=>(∃m_,True/\cw (t:=TVS) (s248_2 xss) xss (F.iJ xss) (fun v2:LV=>True) (bz (fun v2:LV=>True->K (.own 0 none) [(0,.arr .sh af v2)]) (fun _=>False)) m_ (s248_2 xss Z0 r1)))) (fun _=>False)) m_ (s248_0 xss Z0 Z0)):=by kernel_rfl
theorem lvc248_0 (xss:(List LV))  (i0:Int) (v0:Int) (m:Nat) (K:KX):lvT C248 (L248 xss) ann248 f248 0 0 (s248_0 xss i0 v0) m K =
 (cond (decide (i0<(xss.length:Int))) ((0<=i0)/\(i0<(xss.length:Int))/\cond (decide (wrap64 (v0+((@nth TVS xss i0).length:Int))<Z0)) False (nxT (LP248_0 xss) m K (s248_0 xss (wrap64 (i0+Z1)) (wrap64 (v0+((@nth TVS xss i0).length:Int)))))) (K (.exit 0) (⟨[(0,.data (Ty.sl TVS) xss),(3,dI v0)],[]⟩:St))):=by kernel_rfl
theorem lvc248_1 (xss:(List LV))  (i2:Int) (v2:LV) (m:Nat) (K:KX):lvT C248 (L248 xss) ann248 f248 1 2 (s248_2 xss i2 v2) m K =
 (cond (decide (i2<(xss.length:Int))) ((0<=i2)/\(i2<(xss.length:Int))/\((v2.length+(@nth TVS xss i2).length) * 32<=lim)/\(nxT (LP248_2 xss) m K (s248_2 xss (wrap64 (i2+Z1)) (v2++(@nth TVS xss i2))))) (K (.exit 2) (⟨[(6,.own 24 none)],[(24,.arr .sh af v2)]⟩:St))):=by kernel_rfl
theorem con248_ok:bt P 248 c248:=bA C248 func248 (kC con257_ok kN) fun args hp K h0=>by
 obtain⟨xss,rfl,rfl,h_xss,hK⟩:=g1e h0
 have h:ok (F.pn xss) (fun r=>K (.own 0 none) [(0,.arr .sh af r)]):=aA (F.wL xss h_xss) (hK _ rfl)
 refine⟨rfl,ann248,(L248 xss),.raw,(qa (i0:=0) (i1:=2) (by kernel_rfl) ?_ ?_),?_⟩
 ·rintro _ _ K ⟨hc0,i0,v0,rfl,hl0,rfl,hv0,h⟩
  exact cast (lvc248_0 _ _ _ _ _).symm (bD (t:=TVS) hl0 h (fun ht0 h=>⟨hl0,⟨ht0,(oC h (fun _ h=>h) fun _ h=>(br (t:=TVS) (fun _ hm=>⟨hc0,hm⟩) _ rfl hl0 ht0 (bC h_xss) trivial h))⟩⟩) fun h=>(h trivial))
 ·rintro _ _ K ⟨hc2,i2,v2,rfl,hl2,rfl,hv2,h⟩
  exact cast (lvc248_1 _ _ _ _ _).symm (bD (t:=TVS) hl2 h (fun ht2 h=>⟨hl2,⟨ht2,(oG h fun _ h=>(br (t:=TVS) (fun _ hm=>⟨hc2,hm⟩) _ rfl hl2 ht2 (bC h_xss) trivial h))⟩⟩) fun h=>(h trivial))
 ·rw[vc248]
  exact(bu (t:=TVS) (fun m hm=>⟨trivial,hm⟩) _ rfl trivial (bn h (fun v0 h hv0=>(oG h fun _ h=>(oG h fun _ h=>(oL h fun _ _ h=>(bu (t:=TVS) (fun m hm=>⟨trivial,hm⟩) _ rfl trivial (bn h (fun v2 h hv2=>h) (fun _ h=>h.elim))))))) (fun _ h=>h.elim)))
def c220:Con:=⟨[.dat TVS,.dat TVS],fun args hp K=>g2 (pD TVS) (pD TVS) (fun a b=>(Sm TVS a)/\(Sm TVS b)/\(a.length+b.length<=1048576)/\(LD (a++b) fun r=>K (.clp 0 (r.length:Int)) [(0,.arr .sh af r)])) args hp,.bor,false⟩
abbrev C220:Ctx:=cx [(134,c134),(248,c248)] 10 [] 0 false
def ann220:=an [[kp 3],[kp 16]] []
theorem vc220 (a:LV) (b:LV) (K:KA):vcT C220 aB ann220 f220 [.data TVS a,.data TVS b] [] .raw K =
 ((Sm (Ty.sl TVS) [a,b])/\(LD (List.flatten [a,b]) fun r1=>(Sm TVS r1)/\(LD r1 fun r2=>K (.clp 0 ((r2.take (r2.length:Int).toNat).length:Int)) [(0,.arr .sh af (r2.take (r2.length:Int).toNat))]))):=by kernel_rfl
theorem con220_ok:bt P 220 c220:=bA C220 func220 (kC con134_ok (kC con248_ok kN)) fun args hp K h0=>by
 obtain⟨a,b,rfl,rfl,h_a,h_b,p0,hK⟩:=g2e h0
 have h:ok (F.rO a b) (fun r=>K (.clp 0 (r.length:Int)) [(0,.arr .sh af r)]):=aA (F.Av a b h_a h_b p0) (hK _ rfl)
 refine⟨rfl,ann220,aB,.raw,(aL (by kernel_rfl)),?_⟩
 ·rw[vc220]
  exact(oG h fun _ h=>(oL h fun _ _ h=>(oG h fun _ h=>(oL h fun _ _ h=>h))))
def c176:Con:=⟨[.dat ah,.dat TTb,.lent (Ty.sl TVS)],fun args hp K=>g3 (pD ah) (pD TTb) (pB (Ty.sl TVS)) (fun s LK LN=>(Sm ah s)/\(Sm TTb LK)/\(Sm (Ty.sl (Ty.sl TVS)) LN)/\(M.sI LK LN s)/\(LD (M.cu LK LN s) fun r=>K (.data (Ty.sl TVS) r) [])) args hp,.plain,false⟩
abbrev C176:Ctx:=cx [(101,c101),(171,c171),(172,c172),(198,c198),(220,c220)] 126 [] 0 false
def ann176:=an [[.fixRow 3 ah,kp 14],[kp 142],[kp 262286],[kp 786574],[kp 64],[kp 134480012],[kp 60129542280],[kp 128849019016],[kp 60129542792],[kp 4458176053896],[kp 60129542280],[kp 60129542280],[kp 281474976972940],[kp 126100789566374024],[kp 270215977642229896],[kp 126100789566376072],[kp 126100789566374024],[kp 126100789566374024],[.keep [2,3,7,18,68]],[kp 132226261520350065983628],[kp 283341988972178712821900],[kp 132226261520350065991820],[kp 135531918058358817633083532],[kp 290274422969031351995474060],[kp 135531918058358817633116300],[kp 135531918058358817633149068],[kp 79363694432322696411177099404],[kp 135531918058358817633083532],[kp 135531918058358817633083532],[kp 132226261520350065983628],[.keep [2,3,7,18,103]],[kp 64],[.keep [2,3,7,117]],[.weak 124,.freeze 124,kp 64],[kp 64]] [[],[kp 128],[],[kp 128],[],[kp 128],[],[kp 132226261520350065983628]]
abbrev s176_1 (s:ah.D) (LK:LTb) (LN:(List (List LV))) (i1:Int) (v1:(List LV)):St:=⟨[(3,.adr ah s),(7,.own 7 none),(33,.data (Ty.sl TVS) (@nth (Ty.sl TVS) LN s.2.1)),(34,dI ((@nth (Ty.sl TVS) LN s.2.1).length:Int)),(35,dI i1)],[(7,.arr .sh TVS v1)]⟩
abbrev LP176_1 (s:ah.D) (LK:LTb) (LN:(List (List LV))) (m:Nat) (st_:St) (K:KX):Prop:=True/\cw (t:=TVS) (s176_1 s LK LN) (@nth (Ty.sl TVS) LN s.2.1) (F.gZ s LK LN) (fun v1:(List LV)=>True) (bz (fun v1:(List LV)=>True->K (.exit 1) (⟨[(7,.own 7 none)],[(7,.arr .sh TVS v1)]⟩:St)) (fun _=>False)) m st_
abbrev s176_3 (s:ah.D) (LK:LTb) (LN:(List (List LV))) (i3:Int) (v3:(List LV)):St:=⟨[(3,.adr ah s),(7,.own 7 none),(54,.data (Ty.sl TVS) (@nth (Ty.sl TVS) LN s.2.1)),(55,dI ((@nth (Ty.sl TVS) LN s.2.1).length:Int)),(56,dI i3)],[(7,.arr .sh TVS v3)]⟩
abbrev LP176_3 (s:ah.D) (LK:LTb) (LN:(List (List LV))) (m:Nat) (st_:St) (K:KX):Prop:=True/\cw (t:=TVS) (s176_3 s LK LN) (@nth (Ty.sl TVS) LN s.2.1) (F.gR s LK LN) (fun v3:(List LV)=>True) (bz (fun v3:(List LV)=>True->K (.exit 3) (⟨[(7,.own 7 none)],[(7,.arr .sh TVS v3)]⟩:St)) (fun _=>False)) m st_
abbrev s176_5 (s:ah.D) (LK:LTb) (LN:(List (List LV))) (i5:Int) (v5:(List LV)):St:=⟨[(2,.brw (Ty.sl TVS) LN),(3,.adr ah s),(7,.own 7 none),(74,.data (Ty.sl TVS) (@nth (Ty.sl TVS) LN s.2.1)),(75,dI ((@nth (Ty.sl TVS) LN s.2.1).length:Int)),(76,dI i5)],[(7,.arr .sh TVS v5)]⟩
abbrev LP176_5 (s:ah.D) (LK:LTb) (LN:(List (List LV))) (m:Nat) (st_:St) (K:KX):Prop:=True/\dc (s176_5 s LK LN) Z0 ((@nth (Ty.sl TVS) LN s.2.1).length:Int) (F.hD s LK LN) (fun v5:(List LV)=>True) (bz (fun v5:(List LV)=>True->K (.exit 5) (⟨[(7,.own 7 none)],[(7,.arr .sh TVS v5)]⟩:St)) (fun _=>False)) m st_
abbrev s176_7 (s:ah.D) (LK:LTb) (LN:(List (List LV))) (c7_0:LV) (c7_1:Int) (i7:Int) (v7:(List LV)):St:=⟨[(2,.brw (Ty.sl TVS) LN),(3,.adr ah s),(7,.own 7 none),(13,.data TVS c7_0),(74,.data (Ty.sl TVS) (@nth (Ty.sl TVS) LN s.2.1)),(75,dI ((@nth (Ty.sl TVS) LN s.2.1).length:Int)),(76,dI c7_1),(84,.data (Ty.sl TVS) (@nth (Ty.sl TVS) LN s.2.2.1)),(85,dI ((@nth (Ty.sl TVS) LN s.2.2.1).length:Int)),(86,dI i7)],[(7,.arr .sh TVS v7)]⟩
abbrev LP176_7 (s:ah.D) (LK:LTb) (LN:(List (List LV))) (m:Nat) (st_:St) (K:KX):Prop:=∃c7_0:LV,∃c7_1:Int,(Sm TVS c7_0/\True)/\cw (t:=TVS) (s176_7 s LK LN c7_0 c7_1) (@nth (Ty.sl TVS) LN s.2.2.1) (F.gU s LK LN c7_0 c7_1) (fun v7:(List LV)=>True) (bz (fun v7:(List LV)=>True->K (.exit 7) (⟨[(2,.brw (Ty.sl TVS) LN),(3,.adr ah s),(7,.own 7 none),(74,.data (Ty.sl TVS) (@nth (Ty.sl TVS) LN s.2.1)),(75,dI ((@nth (Ty.sl TVS) LN s.2.1).length:Int)),(76,dI c7_1)],[(7,.arr .sh TVS v7)]⟩:St)) (fun _=>False)) m st_
def L176 (s:ah.D) (LK:LTb) (LN:(List (List LV))):bK:=fun id m st_ K=>match id with
 | 1=>LP176_1 s LK LN m st_ K
 | 3=>LP176_3 s LK LN m st_ K
 | 5=>LP176_5 s LK LN m st_ K
 | 7=>LP176_7 s LK LN m st_ K
 | _=>False
theorem vc176 (s:ah.D) (LK:LTb) (LN:(List (List LV))) (K:KA):vcT C176 (L176 s LK LN) ann176 f176 [.data ah s,.data TTb LK,.brw (Ty.sl TVS) LN] [] (.dat (Ty.sl TVS)) K =
 (cond (decide (s.1=Z1)) ((0<=s.2.2.2.1)/\(s.2.2.2.1<(LK.length:Int))/\K (.data (Ty.sl TVS) (nT LK s.2.2.2.1).2.1) []) (cond (decide (s.1=Z2)) ((0<=s.2.1)/\(s.2.1<(LN.length:Int))/\(∃m_,True/\cw (t:=TVS) (s176_1 s LK LN) (@nth (Ty.sl TVS) LN s.2.1) (F.gZ s LK LN) (fun v1:(List LV)=>True) (bz (fun v1:(List LV)=>True->K (.data (Ty.sl TVS) v1) []) (fun _=>False)) m_ (s176_1 s LK LN Z0 []))) (cond (decide (s.1=Z3)) ((0<=s.2.1)/\(s.2.1<(LN.length:Int))/\(∃m_,True/\cw (t:=TVS) (s176_3 s LK LN) (@nth (Ty.sl TVS) LN s.2.1) (F.gR s LK LN) (fun v3:(List LV)=>True) (bz (fun v3:(List LV)=>True->K (.data (Ty.sl TVS) v3) []) (fun _=>False)) m_ (s176_3 s LK LN Z0 []))) (cond (decide (s.1=Z4)) ((0<=s.2.1)/\(s.2.1<(LN.length:Int))/\(∃m_,True/\dc (s176_5 s LK LN) Z0 ((@nth (Ty.sl TVS) LN s.2.1).length:Int) (F.hD s LK LN) (fun v5:(List LV)=>True) (bz (fun v5:(List LV)=>True->K (.data (Ty.sl TVS) v5) []) (fun _=>False)) m_ (s176_5 s LK LN Z0 []))) (cond (decide (s.1=Z5)) ((0<=s.2.1)/\(s.2.1<(LN.length:Int))/\(0<=s.2.2.1)/\(s.2.2.1<(LN.length:Int))/\(Sm (Ty.sl (Ty.sl TVS)) [(@nth (Ty.sl TVS) LN s.2.1),(@nth (Ty.sl TVS) LN s.2.2.1)])/\(LD (List.flatten [(@nth (Ty.sl TVS) LN s.2.1),(@nth (Ty.sl TVS) LN s.2.2.1)]) fun r1=>K (.data (Ty.sl TVS) r1) [])) (cond (decide (s.1=Z6)) ((0<=s.2.1)/\(s.2.1<(LN.length:Int))/\(Sm (Ty.sl TVS) (@nth (Ty.sl TVS) LN s.2.1))/\(LD (M.gC (@nth (Ty.sl TVS) LN s.2.1)) fun r2=>K (.data (Ty.sl TVS) (aj r2 (some (Z0,(r2.length:Int))))) [])) (K (.data (Ty.sl TVS) []) []))))))):=by kernel_rfl
theorem lvc176_0 (s:ah.D) (LK:LTb) (LN:(List (List LV)))  (i1:Int) (v1:(List LV)) (m:Nat) (K:KX):lvT C176 (L176 s LK LN) ann176 f176 0 1 (s176_1 s LK LN i1 v1) m K =
 (cond (decide (i1<((@nth (Ty.sl TVS) LN s.2.1).length:Int))) ((0<=i1)/\(i1<((@nth (Ty.sl TVS) LN s.2.1).length:Int))/\(Sm TVS (@nth TVS (@nth (Ty.sl TVS) LN s.2.1) i1))/\(Sm TPS s.2.2.2.2.1)/\(M.fG (@nth TVS (@nth (Ty.sl TVS) LN s.2.1) i1).length s.2.2.2.2.1)/\cond (M.holds (@nth TVS (@nth (Ty.sl TVS) LN s.2.1) i1) s.2.2.2.2.1) (((v1.length+[(@nth TVS (@nth (Ty.sl TVS) LN s.2.1) i1)].length) * 24<=lim)/\(nxT (LP176_1 s LK LN) m K (s176_1 s LK LN (wrap64 (i1+Z1)) (v1++[(@nth TVS (@nth (Ty.sl TVS) LN s.2.1) i1)])))) (nxT (LP176_1 s LK LN) m K (s176_1 s LK LN (wrap64 (i1+Z1)) v1))) (K (.exit 1) (⟨[(7,.own 7 none)],[(7,.arr .sh TVS v1)]⟩:St))):=by kernel_rfl
theorem lvc176_1 (s:ah.D) (LK:LTb) (LN:(List (List LV)))  (i3:Int) (v3:(List LV)) (m:Nat) (K:KX):lvT C176 (L176 s LK LN) ann176 f176 1 3 (s176_3 s LK LN i3 v3) m K =
 (cond (decide (i3<((@nth (Ty.sl TVS) LN s.2.1).length:Int))) ((0<=i3)/\(i3<((@nth (Ty.sl TVS) LN s.2.1).length:Int))/\(Sm TVS (@nth TVS (@nth (Ty.sl TVS) LN s.2.1) i3))/\(Sm (Ty.sl aE) s.2.2.2.2.2.1)/\(M.BJ (@nth TVS (@nth (Ty.sl TVS) LN s.2.1) i3) s.2.2.2.2.2.1)/\(LD (M.taken (@nth TVS (@nth (Ty.sl TVS) LN s.2.1) i3) s.2.2.2.2.2.1) fun r3=>((v3.length+[r3].length) * 24<=lim)/\(nxT (LP176_3 s LK LN) m K (s176_3 s LK LN (wrap64 (i3+Z1)) (v3++[r3]))))) (K (.exit 3) (⟨[(7,.own 7 none)],[(7,.arr .sh TVS v3)]⟩:St))):=by kernel_rfl
theorem lvc176_2 (s:ah.D) (LK:LTb) (LN:(List (List LV)))  (i5:Int) (v5:(List LV)) (m:Nat) (K:KX):lvT C176 (L176 s LK LN) ann176 f176 2 5 (s176_5 s LK LN i5 v5) m K =
 (cond (decide (i5<((@nth (Ty.sl TVS) LN s.2.1).length:Int))) ((0<=i5)/\(i5<((@nth (Ty.sl TVS) LN s.2.1).length:Int))/\(0<=s.2.2.1)/\(s.2.2.1<(LN.length:Int))/\(∃m_,∃c7_0:LV,∃c7_1:Int,(Sm TVS c7_0/\True)/\cw (t:=TVS) (s176_7 s LK LN c7_0 c7_1) (@nth (Ty.sl TVS) LN s.2.2.1) (F.gU s LK LN c7_0 c7_1) (fun v7:(List LV)=>True) (bz (fun v7:(List LV)=>True->(nxT (LP176_5 s LK LN) m K (s176_5 s LK LN (wrap64 (c7_1+Z1)) v7))) (fun _=>False)) m_ (s176_7 s LK LN (@nth TVS (@nth (Ty.sl TVS) LN s.2.1) i5) i5 Z0 v5))) (K (.exit 5) (⟨[(7,.own 7 none)],[(7,.arr .sh TVS v5)]⟩:St))):=by kernel_rfl
theorem lvc176_3 (s:ah.D) (LK:LTb) (LN:(List (List LV))) (c7_0:LV) (c7_1:Int) (i7:Int) (v7:(List LV)) (m:Nat) (K:KX):lvT C176 (L176 s LK LN) ann176 f176 3 7 (s176_7 s LK LN c7_0 c7_1 i7 v7) m K =
 (cond (decide (i7<((@nth (Ty.sl TVS) LN s.2.2.1).length:Int))) ((0<=i7)/\(i7<((@nth (Ty.sl TVS) LN s.2.2.1).length:Int))/\(Sm TVS c7_0)/\(Sm TVS (@nth TVS (@nth (Ty.sl TVS) LN s.2.2.1) i7))/\(c7_0.length+(@nth TVS (@nth (Ty.sl TVS) LN s.2.2.1) i7).length<=1048576)/\(LD (c7_0++(@nth TVS (@nth (Ty.sl TVS) LN s.2.2.1) i7)) fun r4=>(Sm TVS (aj r4 (some (Z0,(r4.length:Int)))))/\(Sm TPS s.2.2.2.2.1)/\(M.fG (aj r4 (some (Z0,(r4.length:Int)))).length s.2.2.2.2.1)/\cond (M.holds (aj r4 (some (Z0,(r4.length:Int)))) s.2.2.2.2.1) (((v7.length+[(aj r4 (some (Z0,(r4.length:Int))))].length) * 24<=lim)/\(nxT (LP176_7 s LK LN) m K (s176_7 s LK LN c7_0 c7_1 (wrap64 (i7+Z1)) (v7++[(aj r4 (some (Z0,(r4.length:Int))))])))) (nxT (LP176_7 s LK LN) m K (s176_7 s LK LN c7_0 c7_1 (wrap64 (i7+Z1)) v7)))) (K (.exit 7) (⟨[(2,.brw (Ty.sl TVS) LN),(3,.adr ah s),(7,.own 7 none),(74,.data (Ty.sl TVS) (@nth (Ty.sl TVS) LN s.2.1)),(75,dI ((@nth (Ty.sl TVS) LN s.2.1).length:Int)),(76,dI c7_1)],[(7,.arr .sh TVS v7)]⟩:St))):=by kernel_rfl
theorem con176_ok:bt P 176 c176:=bA C176 func176 (kC con101_ok (kC con171_ok (kC con172_ok (kC con198_ok (kC con220_ok kN))))) fun args hp K h0=>by
 obtain⟨s,LK,LN,rfl,rfl,h_s,LO,h_ahead,p0,hK⟩:=g3e h0
 have h:ok (F.ng s LK LN) (fun r=>K (.data (Ty.sl TVS) r) []):=aA (F.vI s LK LN h_s LO h_ahead p0) (hK _ rfl)
 refine⟨rfl,ann176,(L176 s LK LN),(.dat (Ty.sl TVS)),(FY (i0:=1) (i1:=3) (i2:=5) (i3:=7) (by kernel_rfl) ?_ ?_ ?_ ?_),?_⟩
 ·rintro _ _ K ⟨hc1,i1,v1,rfl,hl1,rfl,hv1,h⟩
  exact cast (lvc176_0 _ _ _ _ _ _ _).symm (bD (t:=TVS) hl1 h (fun ht1 h=>⟨hl1,⟨ht1,⟨(aO (aO h_ahead s.2.1) i1),⟨h_s.2.2.2.2.1,(oG h fun _ h=>(oC h (fun _ h=>(oG h fun _ h=>(br (t:=TVS) (fun _ hm=>⟨hc1,hm⟩) _ rfl hl1 ht1 (bC (aO h_ahead s.2.1)) trivial h))) fun _ h=>(br (t:=TVS) (fun _ hm=>⟨hc1,hm⟩) _ rfl hl1 ht1 (bC (aO h_ahead s.2.1)) trivial h)))⟩⟩⟩⟩) fun h=>(h trivial))
 ·rintro _ _ K ⟨hc3,i3,v3,rfl,hl3,rfl,hv3,h⟩
  exact cast (lvc176_1 _ _ _ _ _ _ _).symm (bD (t:=TVS) hl3 h (fun ht3 h=>⟨hl3,⟨ht3,⟨(aO (aO h_ahead s.2.1) i3),⟨h_s.2.2.2.2.2.1,(oG h fun _ h=>(oL h fun _ _ h=>(oG h fun _ h=>(br (t:=TVS) (fun _ hm=>⟨hc3,hm⟩) _ rfl hl3 ht3 (bC (aO h_ahead s.2.1)) trivial h))))⟩⟩⟩⟩) fun h=>(h trivial))
 ·rintro _ _ K ⟨hc5,i5,v5,rfl,hl5,rfl,hv5,h⟩
  exact cast (lvc176_2 _ _ _ _ _ _ _).symm (ct h (fun ht5 h=>⟨hl5,⟨ht5,(oG h fun _ h=>(oG h fun _ h=>(bu (t:=TVS) (fun m hm=>⟨(@nth TVS (@nth (Ty.sl TVS) LN s.2.1) i5),i5,⟨(aO (aO h_ahead s.2.1) i5),trivial⟩,hm⟩) _ rfl trivial (bn h (fun v7 h hv7=>(aV (fun _ hm=>⟨hc5,hm⟩) _ rfl hl5 iR ht5 (bC (aO h_ahead s.2.1)) trivial h)) (fun _ h=>h.elim)))))⟩⟩) fun h=>(h trivial))
 ·rintro _ _ K ⟨c7_0,c7_1,hc7,i7,v7,rfl,hl7,rfl,hv7,h⟩
  exact cast (lvc176_3 _ _ _ _ _ _ _ _ _).symm (bD (t:=TVS) hl7 h (fun ht7 h=>⟨hl7,⟨ht7,⟨hc7.1,⟨(aO (aO h_ahead s.2.2.1) i7),(oG h fun _ h=>(oL h fun _ _ h=>(oG h fun _ h=>⟨h_s.2.2.2.2.1,(oG h fun _ h=>(oC h (fun _ h=>(oG h fun _ h=>(br (t:=TVS) (fun _ hm=>⟨c7_0,c7_1,hc7,hm⟩) _ rfl hl7 ht7 (bC (aO h_ahead s.2.2.1)) trivial h))) fun _ h=>(br (t:=TVS) (fun _ hm=>⟨c7_0,c7_1,hc7,hm⟩) _ rfl hl7 ht7 (bC (aO h_ahead s.2.2.1)) trivial h)))⟩)))⟩⟩⟩⟩) fun h=>(h trivial))
 ·rw[vc176]
  exact(oC h (fun _ h=>(oG h fun _ h=>(oG h fun _ h=>h))) fun _ h=>(oC h (fun _ h=>(oG h fun _ h=>(oG h fun _ h=>(bu (t:=TVS) (fun m hm=>⟨trivial,hm⟩) _ rfl trivial (bn h (fun v1 h hv1=>h) (fun _ h=>h.elim)))))) fun _ h=>(oC h (fun _ h=>(oG h fun _ h=>(oG h fun _ h=>(bu (t:=TVS) (fun m hm=>⟨trivial,hm⟩) _ rfl trivial (bn h (fun v3 h hv3=>h) (fun _ h=>h.elim)))))) fun _ h=>(oC h (fun _ h=>(oG h fun _ h=>(oG h fun _ h=>(bT (fun m hm=>⟨trivial,hm⟩) Z0 _ rfl (Int.natCast_nonneg 0) trivial (bn h (fun v5 h hv5=>h) (fun _ h=>h.elim)))))) fun _ h=>(oC h (fun _ h=>(oG h fun _ h=>(oG h fun _ h=>(oG h fun _ h=>(oG h fun _ h=>(oG h fun _ h=>(oL h fun _ _ h=>h))))))) fun _ h=>(oC h (fun _ h=>(oG h fun _ h=>(oG h fun _ h=>⟨(aO h_ahead s.2.1),(oL h fun _ _ h=>h)⟩))) fun _ h=>h))))))
def c103:Con:=⟨[.dat TTb,.dat TSS],fun args hp K=>g2 (pD TTb) (pD TSS) (fun LK plan=>(Sm TTb LK)/\(Sm TSS plan)/\(M.bU LK plan=true)/\(LD (M.dZ LK plan) fun r=>K (.clp 0 (r.length:Int)) [(0,.arr .dp TVS r)])) args hp,.bor,false⟩
abbrev C103:Ctx:=cx [(87,c87),(176,c176)] 29 [] 0 true
def ann103:=an [[kp 3],[.weak 5,kp 35],[kp 1825],[kp 3873],[.fixRow 7 ah,kp 1953],[kp 1825],[kp 1825],[kp 16]] [[kp 32]]
abbrev s103_0 (LK:LTb) (plan:LS) (i0:Int) (v0:(List (List LV))):St:=⟨[(0,.data TTb LK),(5,.own 5 none),(8,.data TSS plan),(9,dI (plan.length:Int)),(10,dI i0)],[(5,.arr .sh (Ty.sl TVS) v0)]⟩
abbrev LP103_0 (LK:LTb) (plan:LS) (m:Nat) (st_:St) (K:KX):Prop:=True/\cw (t:=ah) (s103_0 LK plan) plan (F.fW LK plan) (fun v0:(List (List LV))=>True) (bz (fun v0:(List (List LV))=>True->K (.exit 0) (⟨[(5,.own 5 none)],[(5,.arr .sh (Ty.sl TVS) v0)]⟩:St)) (fun _=>False)) m st_
def L103 (LK:LTb) (plan:LS):bK:=lp1 0 (LP103_0 LK plan)
theorem vc103 (LK:LTb) (plan:LS) (K:KA):vcT C103 (L103 LK plan) ann103 f103 [.data TTb LK,.data TSS plan] [] .raw K =
 (∃m_,True/\cw (t:=ah) (s103_0 LK plan) plan (F.fW LK plan) (fun v0:(List (List LV))=>True) (bz (fun v0:(List (List LV))=>True->(0<=wrap64 ((v0.length:Int)-Z1))/\(wrap64 ((v0.length:Int)-Z1)<(v0.length:Int))/\(Sm (Ty.sl TVS) (@nth (Ty.sl TVS) v0 (wrap64 ((v0.length:Int)-Z1))))/\(LD (@nth (Ty.sl TVS) v0 (wrap64 ((v0.length:Int)-Z1))) fun r1=>K (.clp 0 ((r1.take (r1.length:Int).toNat).length:Int)) [(0,.arr .dp TVS (r1.take (r1.length:Int).toNat))])) (fun _=>False)) m_ (s103_0 LK plan Z0 [])):=by kernel_rfl
theorem lvc103_0 (LK:LTb) (plan:LS)  (i0:Int) (v0:(List (List LV))) (m:Nat) (K:KX):lvT C103 (L103 LK plan) ann103 f103 0 0 (s103_0 LK plan i0 v0) m K =
 (cond (decide (i0<(plan.length:Int))) ((0<=i0)/\(i0<(plan.length:Int))/\(Sm ah (nS plan i0))/\(Sm TTb LK)/\(Sm (Ty.sl (Ty.sl TVS)) v0)/\(M.sI LK v0 (nS plan i0))/\(LD (M.cu LK v0 (nS plan i0)) fun r2=>((v0.length+[r2].length) * 24<=lim)/\(nxT (LP103_0 LK plan) m K (s103_0 LK plan (wrap64 (i0+Z1)) (v0++[r2]))))) (K (.exit 0) (⟨[(5,.own 5 none)],[(5,.arr .sh (Ty.sl TVS) v0)]⟩:St))):=by kernel_rfl
theorem con103_ok:bt P 103 c103:=bA C103 func103 (kC con87_ok (kC con176_ok kN)) fun args hp K h0=>by
 obtain⟨LK,plan,rfl,rfl,LO,LQ,p0,hK⟩:=g2e h0
 have h:ok (F.oZ LK plan) (fun r=>K (.clp 0 (r.length:Int)) [(0,.arr .dp TVS r)]):=aA (F.xb LK plan LO LQ p0) (hK _ rfl)
 refine⟨rfl,ann103,(L103 LK plan),.raw,(bW (i0:=0) (by kernel_rfl) ?_),?_⟩
 ·rintro _ _ K ⟨hc0,i0,v0,rfl,hl0,rfl,hv0,h⟩
  exact cast (lvc103_0 _ _ _ _ _ _).symm (bD (t:=ah) hl0 h (fun ht0 h=>⟨hl0,⟨ht0,⟨(aO LQ i0),⟨LO,(oG h fun _ h=>(oG h fun _ h=>(oL h fun _ _ h=>(oG h fun _ h=>(br (t:=ah) (fun _ hm=>⟨hc0,hm⟩) _ rfl hl0 ht0 (bC LQ) trivial h)))))⟩⟩⟩⟩) fun h=>(h trivial))
 ·rw[vc103]
  exact(bu (t:=ah) (fun m hm=>⟨trivial,hm⟩) _ rfl trivial (bn h (fun v0 h hv0=>(oG h fun _ h=>(oG h fun _ h=>(oG h fun _ h=>(oL h fun _ _ h=>h))))) (fun _ h=>h.elim)))
def c45:Con:=⟨[.dat TTb,.dat TSS,.dat aK],fun args hp K=>g3 (pD TTb) (pD TSS) (pD aK) (fun LK plan c=>(Sm TTb LK)/\(Sm TSS plan)/\(Sm aK c)/\(LD (M.iN LK plan c) fun r=>K (.tup [.data (Ty.sl cO) r.1,dB r.2]) [])) args hp,.plain,false⟩
abbrev C45:Ctx:=cx [(71,c71),(72,c72),(94,c94),(102,c102),(103,c103)] 27 [] 0 false
def ann45:=an [[.fixRow 5 aK,kp 35],[kp 131107],[kp 192],[.weak 20,.weak 23,.weak 25,kp 192]] []
theorem vc45 (LK:LTb) (plan:LS) (c:aK.D) (K:KA):vcT C45 aB ann45 f45 [.data TTb LK,.data TSS plan,.data aK c] [] (.tup [(Ty.sl cO),Ty.bool]) K =
 ((Sm TTb LK)/\(Sm TSS plan)/\cond ((!(M.bU LK plan))==false) ((Sm TTb LK)/\(Sm aK c)/\cond (!(M.cJ LK c)) (K (.tup [.data (Ty.sl cO) [],dB false]) []) ((Sm TTb LK)/\(Sm TSS plan)/\(M.bU LK plan=true)/\(LD (M.dZ LK plan) fun r1=>(Sm TTb LK)/\(Sm aK c)/\(M.cJ LK c)/\(LD (M.bP LK c) fun r2=>(Sm TTb r2)/\(Sm TSS plan)/\(M.bU r2 plan=true)/\(LD (M.dZ r2 plan) fun r3=>(Sm (Ty.sl TVS) (aj r1 (some (Z0,(r1.length:Int)))))/\(Sm (Ty.sl TVS) (aj r3 (some (Z0,(r3.length:Int)))))/\((aj r1 (some (Z0,(r1.length:Int)))).length<=300)/\((aj r3 (some (Z0,(r3.length:Int)))).length<=300)/\(LD (M.gp (aj r1 (some (Z0,(r1.length:Int)))) (aj r3 (some (Z0,(r3.length:Int))))) fun r4=>K (.tup [.data (Ty.sl cO) r4,dB true]) [])))))) (K (.tup [.data (Ty.sl cO) [],dB false]) [])):=by kernel_rfl
theorem con45_ok:bt P 45 c45:=bA C45 func45 (kC con71_ok (kC con72_ok (kC con94_ok (kC con102_ok (kC con103_ok kN))))) fun args hp K h0=>by
 obtain⟨LK,plan,c,rfl,rfl,LO,LQ,h_c,hK⟩:=g3e h0
 have h:ok (F.nu LK plan c) (fun r=>K (.tup [.data (Ty.sl cO) r.1,dB r.2]) []):=aA (F.vE LK plan c LO LQ h_c) (hK _ rfl)
 refine⟨rfl,ann45,aB,(.tup [(Ty.sl cO),Ty.bool]),(aL (by kernel_rfl)),?_⟩
 ·rw[vc45]
  exact⟨LO,⟨LQ,(oC h (fun b_1 h=>⟨LO,⟨h_c,(oC h (fun _ h=>h) fun _ h=>⟨LO,⟨LQ,⟨(bnf (bgt b_1)),(oL h fun _ _ h=>⟨LO,⟨h_c,(oG h fun _ h=>(oL h fun _ _ h=>(oG h fun _ h=>⟨LQ,(oG h fun _ h=>(oL h fun _ _ h=>(oG h fun _ h=>(oG h fun _ h=>(oG h fun _ h=>(oG h fun _ h=>(oL h fun _ _ h=>h)))))))⟩)))⟩⟩)⟩⟩⟩)⟩⟩) fun _ h=>h)⟩⟩
def c8:Con:=⟨[.dat TBy],fun args hp K=>g1 (pD TBy) (fun code=>(Ln TBy code)/\(M.ay code)/\K (dB true) []) args hp,.plain,false⟩
abbrev C8:Ctx:=cx [(26,c26),(42,c42),(43,c43),(44,c44),(45,c45)] 81 [] 0 false
def ann8:=an [[kp 1],[kp 16385],[kp 4],[.fixRow 6 aK,kp 120],[.weak 26,kp 472],[kp 1073742040],[kp 4],[kp 728],[kp 34359739096],[kp 728],[kp 4611686018427388632],[kp 3072],[kp 4],[kp 4]] [[kp 0]]
abbrev s8_0 (code:LI) (c0_0:LTb) (c0_1:LG) (c0_2:aK.D) (c0_3:Int) (c0_4:LS) (i0:Int) (v0:Unit):St:=⟨[(3,.data TTb c0_0),(4,.data TGS c0_1),(6,.adr aK c0_2),(7,.clp 26 c0_3),(9,dI i0)],[(26,.arr .sh ah c0_4)]⟩
abbrev LP8_0 (code:LI) (m:Nat) (st_:St) (K:KX):Prop:=∃c0_0:LTb,∃c0_1:LG,∃c0_2:aK.D,∃c0_3:Int,∃c0_4:LS,((c0_1.length:Int)<=eS/\True)/\cw (t:=aI) (s8_0 code c0_0 c0_1 c0_2 c0_3 c0_4) c0_1 (F.dW code c0_0 c0_1 c0_2 c0_3 c0_4) (fun v0:Unit=>True) (bz (fun v0:Unit=>True->K (.exit 0) (⟨[],[]⟩:St)) (fun q0:Bool=>K .ret (⟨[(2,dB q0)],[]⟩:St))) m st_
def L8 (code:LI):bK:=lp1 0 (LP8_0 code)
theorem vc8 (code:LI) (K:KA):vcT C8 (L8 code) ann8 f8 [.data TBy code] [] (.dat Ty.bool) K =
 (cond (decide ((1048576:Int)<(code.length:Int))) (K (dB true) []) ((Sm TBy code)/\(M.ay code)/\(LD (M.cz code) fun r1=>(Sm TTb r1.1)/\(Sm TGS r1.2.1)/\(Sm TSS r1.2.2.1)/\(LD (M.bB r1.1 r1.2.1 r1.2.2.1) fun r2=>cond (!r2.2) (K (dB true) []) (∃m_,∃c0_0:LTb,∃c0_1:LG,∃c0_2:aK.D,∃c0_3:Int,∃c0_4:LS,((c0_1.length:Int)<=eS/\True)/\cw (t:=aI) (s8_0 code c0_0 c0_1 c0_2 c0_3 c0_4) c0_1 (F.dW code c0_0 c0_1 c0_2 c0_3 c0_4) (fun v0:Unit=>True) (bz (fun v0:Unit=>True->K (dB true) []) (fun q0:Bool=>K (dB q0) [])) m_ (s8_0 code r1.1 r1.2.1 r1.2.2.2 (r2.1.length:Int) r2.1 Z0 ())))))):=by kernel_rfl
theorem lvc8_0 (code:LI) (c0_0:LTb) (c0_1:LG) (c0_2:aK.D) (c0_3:Int) (c0_4:LS) (i0:Int) (v0:Unit) (m:Nat) (K:KX):lvT C8 (L8 code) ann8 f8 0 0 (s8_0 code c0_0 c0_1 c0_2 c0_3 c0_4 i0 v0) m K =
 (cond (decide (i0<(c0_1.length:Int))) ((0<=i0)/\(i0<(c0_1.length:Int))/\cond ((decide ((nG c0_1 i0).1=c0_2.1))==true) ((0<=c0_2.1)/\(c0_2.1<(c0_0.length:Int))/\(0<=i0)/\(i0<(c0_1.length:Int))/\(Sm TCS (nT c0_0 c0_2.1).1)/\(Sm TVS c0_2.2.1)/\(Sm TPS (nG c0_1 i0).2.1)/\cond (!(M.ld (nT c0_0 c0_2.1).1 c0_2.2.1 (nG c0_1 i0).2.1)) ((Sm TTb c0_0)/\(Sm TSS (aj c0_4 (some (Z0,c0_3))))/\(Sm aK c0_2)/\(LD (M.iN c0_0 (aj c0_4 (some (Z0,c0_3))) c0_2) fun r3=>cond ((!r3.2)==false) (cond ((decide ((r3.1.length:Int)=Z0))==true) (K .ret (⟨[(2,dB true)],[]⟩:St)) (K .ret (⟨[(2,dB false)],[]⟩:St))) (K .ret (⟨[(2,dB true)],[]⟩:St)))) (nxT (LP8_0 code) m K (s8_0 code c0_0 c0_1 c0_2 c0_3 c0_4 (wrap64 (i0+Z1)) ()))) (nxT (LP8_0 code) m K (s8_0 code c0_0 c0_1 c0_2 c0_3 c0_4 (wrap64 (i0+Z1)) ()))) (K (.exit 0) (⟨[],[]⟩:St))):=by kernel_rfl
theorem con8_ok:bt P 8 c8:=bA C8 func8 (kC con26_ok (kC con42_ok (kC con43_ok (kC con44_ok (kC con45_ok kN))))) fun args hp K h0=>by
 obtain⟨code,rfl,rfl,h_code,p0,hK⟩:=g1e h0
 have h:ok (F.gm code) (fun r=>K (dB r) []):=aA (F.nF code h_code p0) hK
 refine⟨rfl,ann8,(L8 code),(.dat Ty.bool),(bW (i0:=0) (by kernel_rfl) ?_),?_⟩
 ·rintro _ _ K ⟨c0_0,c0_1,c0_2,c0_3,c0_4,hc0,i0,v0,rfl,hl0,rfl,hv0,h⟩
  exact cast (lvc8_0 _ _ _ _ _ _ _ _ _ _).symm (bD (t:=aI) hl0 h (fun ht0 h=>⟨hl0,⟨ht0,(oC h (fun _ h=>(oG h fun _ h=>(oG h fun _ h=>⟨hl0,⟨ht0,(oG h fun _ h=>(oG h fun _ h=>(oG h fun _ h=>(oC h (fun _ h=>(oG h fun _ h=>(oG h fun _ h=>(oG h fun _ h=>(oL h fun _ _ h=>(oC h (fun _ h=>(oC h (fun _ h=>h) fun _ h=>h)) fun _ h=>h)))))) fun _ h=>(br (t:=aI) (fun _ hm=>⟨c0_0,c0_1,c0_2,c0_3,c0_4,hc0,hm⟩) _ rfl hl0 ht0 hc0.1 trivial h)))))⟩⟩))) fun _ h=>(br (t:=aI) (fun _ hm=>⟨c0_0,c0_1,c0_2,c0_3,c0_4,hc0,hm⟩) _ rfl hl0 ht0 hc0.1 trivial h))⟩⟩) fun h=>(h trivial))
 ·rw[vc8]
  exact(oC h (fun _ h=>h) fun _ h=>(oG h fun _ h=>⟨p0,(oL h fun r1 _ h=>(oG h fun _ h=>(oG h fun _ h=>(oG h fun _ h=>(oL h fun r2 _ h=>(oC h (fun _ h=>h) fun _ h=>(have hi_0:=(aC h).1;have h:=(aC h).2;(bu (t:=aI) (fun m hm=>⟨r1.1,r1.2.1,r1.2.2.2,(r2.1.length:Int),r2.1,⟨hi_0,trivial⟩,hm⟩) _ rfl trivial (bn h (fun v0 h hv0=>h) (fun q0 h=>h))))))))))⟩))
end Go.AE
