/- Contracts. -/
import Derived.Test.YtjakcjmjlfdeoaaGreatAeInl
import Derived.Test.YtjakcjmjlfdeoaaGreatAeEq
import Derived.Test.YtjakcjmjlfdeoaaGreatAeC0
namespace Go.AE
open Go Go.RowKit Go.Proofs.Tryz
set_option maxRecDepth 100000
set_option maxHeartbeats 2000000
set_option linter.unusedVariables false
def c82:Con:=⟨[.dat TCS,.dat (Ty.sl TVS)],fun args hp K=>g2 (pD TCS) (pD (Ty.sl TVS)) (fun columns rows=>(Sm TCS columns)/\(Sm (Ty.sl TVS) rows)/\K (dB (M.gG columns rows)) []) args hp,.plain,false⟩
abbrev C82:Ctx:=cx [(133,c133),(134,c134)] 21 [] 0 false
def ann82:=an [[kp 3],[kp 35],[kp 547],[kp 35],[kp 262179],[kp 16],[kp 16]] [[kp 1]]
abbrev s82_0 (columns:LC) (rows:(List LV)) (i0:Int) (v0:Unit):St:=⟨[(0,.data TCS columns),(1,.data (Ty.sl TVS) rows),(5,dI i0)],[]⟩
abbrev LP82_0 (columns:LC) (rows:(List LV)) (m:Nat) (st_:St) (K:KX):Prop:=True/\bJ (t:=TVS) (s82_0 columns rows) rows (F.iZ columns rows) (fun v0:Unit=>True) (bq (fun v0:Unit=>True->K (.exit 0) (⟨[(0,.data TCS columns)],[]⟩:St)) (fun q0:Unit=>K .ret (⟨[(4,dB false)],[]⟩:St))) m st_
def L82 (columns:LC) (rows:(List LV)):bD:=lp1 0 (LP82_0 columns rows)
theorem vc82 (columns:LC) (rows:(List LV)) (K:KA):vcT C82 (L82 columns rows) ann82 f82 [.data TCS columns,.data (Ty.sl TVS) rows] [] (.dat Ty.bool) K =
 (∃m_,True/\bJ (t:=TVS) (s82_0 columns rows) rows (F.iZ columns rows) (fun v0:Unit=>True) (bq (fun v0:Unit=>True->(Sm TCS columns)/\K (dB (M.bA columns)) []) (fun q0:Unit=>K (dB false) [])) m_ (s82_0 columns rows Z0 ())):=by kernel_rfl
theorem lvc82_0 (columns:LC) (rows:(List LV))  (i0:Int) (v0:Unit) (m:Nat) (K:KX):lvT C82 (L82 columns rows) ann82 f82 0 0 (s82_0 columns rows i0 v0) m K =
 (cond (decide (i0<(rows.length:Int))) ((0<=i0)/\(i0<(rows.length:Int))/\(Sm TCS columns)/\(Sm TVS (nth (t:=TVS) rows i0))/\cond (!(M.cr columns (nth (t:=TVS) rows i0))) (K .ret (⟨[(4,dB false)],[]⟩:St)) (nxT (LP82_0 columns rows) m K (s82_0 columns rows (wrap64 (i0+Z1)) ()))) (K (.exit 0) (⟨[(0,.data TCS columns)],[]⟩:St))):=by kernel_rfl
theorem con82_ok:aT P 82 c82:=aZ C82 func82 (kC con133_ok (kC con134_ok kN)) fun args hp K h0=>by
 obtain⟨columns,rows,rfl,rfl,h_columns,h_rows,hK⟩:=g2e h0
 have h:ok (F.qL columns rows) (fun r=>K (dB r) []):=az (F.yV columns rows h_columns h_rows) hK
 refine⟨rfl,ann82,(L82 columns rows),(.dat Ty.bool),(bH (i0:=0) (by kernel_rfl) ?_),?_⟩
 ·rintro _ _ K ⟨hc0,i0,v0,rfl,hl0,rfl,hv0,h⟩
  exact cast (lvc82_0 _ _ _ _ _ _).symm (aW (t:=TVS) hl0 h (fun ht0 h=>⟨hl0,⟨ht0,⟨h_columns,⟨(aJ h_rows i0),(oC h (fun _ h=>h) fun _ h=>(aP (t:=TVS) (fun _ hm=>⟨hc0,hm⟩) _ rfl hl0 ht0 (bu h_rows) trivial h))⟩⟩⟩⟩) fun h=>(h trivial))
 ·rw[vc82]
  exact(aQ (t:=TVS) (fun m hm=>⟨trivial,hm⟩) _ rfl trivial (aU h (fun v0 h hv0=>⟨h_columns,h⟩) (fun q0 h=>h)))
def c38:Con:=⟨[.dat TTb],fun args hp K=>g1 (pD TTb) (fun tables=>(Sm TTb tables)/\K (dB (M.cA tables)) []) args hp,.plain,false⟩
abbrev C38:Ctx:=cx [(82,c82)] 34 [] 0 false
def ann38:=an [[kp 1],[kp 9],[kp 137],[kp 9],[kp 1073741833],[kp 4],[kp 4]] [[kp 1]]
abbrev s38_0 (tables:LTb) (i0:Int) (v0:Unit):St:=⟨[(0,.data TTb tables),(3,dI i0)],[]⟩
abbrev LP38_0 (tables:LTb) (m:Nat) (st_:St) (K:KX):Prop:=True/\bJ (t:=ax) (s38_0 tables) tables (F.gS tables) (fun v0:Unit=>True) (bq (fun v0:Unit=>True->K (.exit 0) (⟨[(0,.data TTb tables)],[]⟩:St)) (fun q0:Unit=>K .ret (⟨[(2,dB false)],[]⟩:St))) m st_
def L38 (tables:LTb):bD:=lp1 0 (LP38_0 tables)
theorem vc38 (tables:LTb) (K:KA):vcT C38 (L38 tables) ann38 f38 [.data TTb tables] [] (.dat Ty.bool) K =
 (∃m_,True/\bJ (t:=ax) (s38_0 tables) tables (F.gS tables) (fun v0:Unit=>True) (bq (fun v0:Unit=>True->K (dB (decide ((tables.length:Int)<=Z3))) []) (fun q0:Unit=>K (dB false) [])) m_ (s38_0 tables Z0 ())):=by kernel_rfl
theorem lvc38_0 (tables:LTb)  (i0:Int) (v0:Unit) (m:Nat) (K:KX):lvT C38 (L38 tables) ann38 f38 0 0 (s38_0 tables i0 v0) m K =
 (cond (decide (i0<(tables.length:Int))) ((0<=i0)/\(i0<(tables.length:Int))/\cond ((decide (Z6<((nT tables i0).2.1.length:Int)))==false) ((0<=i0)/\(i0<(tables.length:Int))/\(0<=i0)/\(i0<(tables.length:Int))/\(Sm TCS (nT tables i0).1)/\(Sm (Ty.sl TVS) (nT tables i0).2.1)/\cond (!(M.gG (nT tables i0).1 (nT tables i0).2.1)) (K .ret (⟨[(2,dB false)],[]⟩:St)) (nxT (LP38_0 tables) m K (s38_0 tables (wrap64 (i0+Z1)) ()))) (K .ret (⟨[(2,dB false)],[]⟩:St))) (K (.exit 0) (⟨[(0,.data TTb tables)],[]⟩:St))):=by kernel_rfl
theorem con38_ok:aT P 38 c38:=aZ C38 func38 (kC con82_ok kN) fun args hp K h0=>by
 obtain⟨tables,rfl,rfl,h_tables,hK⟩:=g1e h0
 have h:ok (F.nc tables) (fun r=>K (dB r) []):=az (F.uR tables h_tables) hK
 refine⟨rfl,ann38,(L38 tables),(.dat Ty.bool),(bH (i0:=0) (by kernel_rfl) ?_),?_⟩
 ·rintro _ _ K ⟨hc0,i0,v0,rfl,hl0,rfl,hv0,h⟩
  exact cast (lvc38_0 _ _ _ _ _).symm (aW (t:=ax) hl0 h (fun ht0 h=>⟨hl0,⟨ht0,(oC h (fun _ h=>⟨hl0,⟨ht0,⟨hl0,⟨ht0,⟨(aJ h_tables i0).1,⟨(aJ h_tables i0).2.1,(oC h (fun _ h=>h) fun _ h=>(aP (t:=ax) (fun _ hm=>⟨hc0,hm⟩) _ rfl hl0 ht0 (bu h_tables) trivial h))⟩⟩⟩⟩⟩⟩) fun _ h=>h)⟩⟩) fun h=>(h trivial))
 ·rw[vc38]
  exact(aQ (t:=ax) (fun m hm=>⟨trivial,hm⟩) _ rfl trivial (aU h (fun v0 h hv0=>h) (fun q0 h=>h)))
def c11:Con:=⟨[.dat TTb,.dat TSS],fun args hp K=>g2 (pD TTb) (pD TSS) (fun tables plan=>(Sm TTb tables)/\(Sm TSS plan)/\K (dB (M.bL tables plan)) []) args hp,.plain,false⟩
abbrev C11:Ctx:=cx [(37,c37),(38,c38),(39,c39)] 23 [] 0 false
def ann11:=an [[kp 3],[kp 67],[kp 16]] []
theorem vc11 (tables:LTb) (plan:LS) (K:KA):vcT C11 ay ann11 f11 [.data TTb tables,.data TSS plan] [] (.dat Ty.bool) K =
 ((Sm TTb tables)/\(Sm TSS plan)/\(LD (M.dg tables plan) fun r1=>cond (r1.2==true) ((Sm TTb tables)/\cond ((M.cA tables)==true) (K (dB (M.inR (plan.length:Int) Z1 Z6)) []) (K (dB false) [])) (K (dB false) []))):=by kernel_rfl
theorem con11_ok:aT P 11 c11:=aZ C11 func11 (kC con37_ok (kC con38_ok (kC con39_ok kN))) fun args hp K h0=>by
 obtain⟨tables,plan,rfl,rfl,h_tables,h_plan,hK⟩:=g2e h0
 have h:ok (F.qs tables plan) (fun r=>K (dB r) []):=az (F.yb tables plan h_tables h_plan) hK
 refine⟨rfl,ann11,ay,(.dat Ty.bool),(aG (by kernel_rfl)),?_⟩
 ·rw[vc11]
  exact⟨h_tables,⟨h_plan,(oL h fun _ _ h=>(oC h (fun _ h=>⟨h_tables,(oC h (fun _ h=>h) fun _ h=>h)⟩) fun _ h=>h))⟩⟩
def c186:Con:=⟨[.dat aE],fun args hp K=>g1 (pD aE) (fun truth=>(LD (M.valueOf truth) fun r=>K (.data aa r) [])) args hp,.plain,false⟩
abbrev C186:Ctx:=cx [] 12 [] 0 false
def ann186:=an [[kp 5],[kp 261],[kp 4],[kp 4]] []
theorem vc186 (truth:Int) (K:KA):vcT C186 ay ann186 f186 [dI truth] [] (.dat aa) K =
 (cond ((decide (truth=Z0))==false) (cond (decide (truth=Z1)) (K (.data aa (Z3,(truth,((⟨#[]⟩:ByteArray),())))) []) (K (.data aa (Z0,(Z0,((⟨#[]⟩:ByteArray),())))) [])) (K (.data aa (Z3,(truth,((⟨#[]⟩:ByteArray),())))) [])):=by kernel_rfl
theorem con186_ok:aT P 186 c186:=aZ C186 func186 kN fun args hp K h0=>by
 obtain⟨truth,rfl,rfl,hK⟩:=g1e h0
 have h:ok (F.nZ truth) (fun r=>K (.data aa r) []):=az (F.wY truth) (hK _ rfl)
 refine⟨rfl,ann186,ay,(.dat aa),(aG (by kernel_rfl)),?_⟩
 ·rw[vc186]
  exact(oC h (fun _ h=>(oC h (fun _ h=>h) fun _ h=>h)) fun _ h=>h)
def c212:Con:=⟨[.dat aa,.dat aa],fun args hp K=>g2 (pD aa) (pD aa) (fun a b=>(Sm aa a)/\(Sm aa b)/\(LD (M.sum a b) fun r=>K (.data aa r) [])) args hp,.plain,false⟩
abbrev C212:Ctx:=cx [(39,c39)] 27 [] 0 false
def ann212:=an [[.fixRow 2 aa,.fixRow 3 aa,kp 28],[kp 60],[kp 8388656],[kp 16],[kp 16]] []
theorem vc212 (a:aa.D) (b:aa.D) (K:KA):vcT C212 ay ann212 f212 [.data aa a,.data aa b] [] (.dat aa) K =
 (cond ((decide (a.1=Z0))==false) (cond ((decide (b.1=Z0))==false) (cond (!(M.inR (wrap64 (a.2.1+b.2.1)) (-9999:Int) (9999:Int))) (K (.data aa (Z0,(Z0,((⟨#[]⟩:ByteArray),())))) []) (K (.data aa (Z1,(wrap64 (a.2.1+b.2.1),((⟨#[]⟩:ByteArray),())))) [])) (K (.data aa (Z0,(Z0,((⟨#[]⟩:ByteArray),())))) [])) (K (.data aa (Z0,(Z0,((⟨#[]⟩:ByteArray),())))) [])):=by kernel_rfl
theorem con212_ok:aT P 212 c212:=aZ C212 func212 (kC con39_ok kN) fun args hp K h0=>by
 obtain⟨a,b,rfl,rfl,h_a,h_b,hK⟩:=g2e h0
 have h:ok (F.rP a b) (fun r=>K (.data aa r) []):=az (F.zp a b h_a h_b) (hK _ rfl)
 refine⟨rfl,ann212,ay,(.dat aa),(aG (by kernel_rfl)),?_⟩
 ·rw[vc212]
  exact(oC h (fun _ h=>(oC h (fun _ h=>(oC h (fun _ h=>h) fun _ h=>h)) fun _ h=>h)) fun _ h=>h)
def c218:Con:=⟨[.dat Ty.bool],fun args hp K=>g1 (pD Ty.bool) (fun b=>K (dI (M.bool b)) []) args hp,.plain,false⟩
abbrev C218:Ctx:=cx [] 4 [] 0 false
def ann218:=an [[kp 1],[kp 8],[kp 4],[kp 4]] []
theorem vc218 (b:Bool) (K:KA):vcT C218 ay ann218 f218 [dB b] [] (.dat aE) K =
 (cond b (K (dI Z1) []) (K (dI Z0) [])):=by kernel_rfl
theorem con218_ok:aT P 218 c218:=aZ C218 func218 kN fun args hp K h0=>by
 obtain⟨b,rfl,rfl,hK⟩:=g1e h0
 have h:ok (F.pS b) (fun r=>K (dI r) []):=az (F.yu b) hK
 refine⟨rfl,ann218,ay,(.dat aE),(aG (by kernel_rfl)),?_⟩
 ·rw[vc218]
  exact(oC h (fun _ h=>h) fun _ h=>h)
def c224:Con:=⟨[.dat aE,.dat aE],fun args hp K=>g2 (pD aE) (pD aE) (fun a b=>K (dI (M.less a b)) []) args hp,.plain,false⟩
abbrev C224:Ctx:=cx [] 8 [] 0 false
def ann224:=an [[kp 3],[kp 128],[kp 16],[kp 16]] []
theorem vc224 (a:Int) (b:Int) (K:KA):vcT C224 ay ann224 f224 [dI a,dI b] [] (.dat aE) K =
 (cond (decide (a<b)) (K (dI Z1) []) (K (dI Z0) [])):=by kernel_rfl
theorem con224_ok:aT P 224 c224:=aZ C224 func224 kN fun args hp K h0=>by
 obtain⟨a,b,rfl,rfl,hK⟩:=g2e h0
 have h:ok (F.qj a b) (fun r=>K (dI r) []):=az (F.yd a b) hK
 refine⟨rfl,ann224,ay,(.dat aE),(aG (by kernel_rfl)),?_⟩
 ·rw[vc224]
  exact(oC h (fun _ h=>h) fun _ h=>h)
def c225:Con:=⟨[.dat Ty.str,.dat Ty.str],fun args hp K=>g2 (pD Ty.str) (pD Ty.str) (fun a b=>(Sm Ty.str a)/\(Sm Ty.str b)/\K (dI (M.sX a b)) []) args hp,.plain,false⟩
abbrev C225:Ctx:=cx [] 11 [] 0 false
def ann225:=an [[kp 3],[kp 131],[kp 16],[kp 1024],[kp 16],[kp 16]] []
theorem vc225 (a:ByteArray) (b:ByteArray) (K:KA):vcT C225 ay ann225 f225 [.data Ty.str a,.data Ty.str b] [] (.dat aE) K =
 (cond (Op.bytesLess a.toList b.toList) (K (dI (-1:Int)) []) (cond (!(Op.bytesLess a.toList b.toList||decide (a=b))) (K (dI Z1) []) (K (dI Z0) []))):=by kernel_rfl
theorem con225_ok:aT P 225 c225:=aZ C225 func225 kN fun args hp K h0=>by
 obtain⟨a,b,rfl,rfl,h_a,h_b,hK⟩:=g2e h0
 have h:ok (F.rZ a b) (fun r=>K (dI r) []):=az (F.zm a b h_a h_b) hK
 refine⟨rfl,ann225,ay,(.dat aE),(aG (by kernel_rfl)),?_⟩
 ·rw[vc225]
  exact(oC h (fun _ h=>h) fun _ h=>(oC h (fun _ h=>h) fun _ h=>h))
def c221:Con:=⟨[.dat aa,.dat aa],fun args hp K=>g2 (pD aa) (pD aa) (fun a b=>(Sm aa a)/\(Sm aa b)/\K (dI (M.dO a b)) []) args hp,.plain,false⟩
abbrev C221:Ctx:=cx [(201,c201),(224,c224),(225,c225)] 44 [] 0 false
def ann221:=an [[.fixRow 2 aa,.fixRow 3 aa,kp 12],[kp 4108],[kp 16],[kp 8204],[kp 16],[kp 67108876],[kp 16],[kp 16]] []
theorem vc221 (a:aa.D) (b:aa.D) (K:KA):vcT C221 ay ann221 f221 [.data aa a,.data aa b] [] (.dat aE) K =
 ((Sm aa a)/\cond ((!(M.aL a))==false) ((Sm aa b)/\cond (!(M.aL b)) (K (dI Z0) []) (cond (!decide (a.1=b.1)) (K (dI (wrap64 (wrap64 (Z2 * (M.less b.1 a.1))-Z1))) []) (cond (!decide (a.2.1=b.2.1)) (K (dI (wrap64 (wrap64 (Z2 * (M.less b.2.1 a.2.1))-Z1))) []) ((Sm Ty.str a.2.2.1)/\(Sm Ty.str b.2.2.1)/\K (dI (M.sX a.2.2.1 b.2.2.1)) [])))) (K (dI Z0) [])):=by kernel_rfl
theorem con221_ok:aT P 221 c221:=aZ C221 func221 (kC con201_ok (kC con224_ok (kC con225_ok kN))) fun args hp K h0=>by
 obtain⟨a,b,rfl,rfl,h_a,h_b,hK⟩:=g2e h0
 have h:ok (F.kB a b) (fun r=>K (dI r) []):=az (F.sj a b h_a h_b) hK
 refine⟨rfl,ann221,ay,(.dat aE),(aG (by kernel_rfl)),?_⟩
 ·rw[vc221]
  exact⟨h_a,(oC h (fun _ h=>⟨h_b,(oC h (fun _ h=>h) fun _ h=>(oC h (fun _ h=>h) fun _ h=>(oC h (fun _ h=>h) fun _ h=>⟨h_a.2.2.1,⟨h_b.2.2.1,h⟩⟩)))⟩) fun _ h=>h)⟩
def c213:Con:=⟨[.dat aE,.dat aa,.dat aa],fun args hp K=>g3 (pD aE) (pD aa) (pD aa) (fun kind a b=>(Sm aa a)/\(Sm aa b)/\K (dI (M.compare kind a b)) []) args hp,.plain,false⟩
abbrev C213:Ctx:=cx [(39,c39),(201,c201),(218,c218),(221,c221)] 65 [] 0 false
def ann213:=an [[.fixRow 4 aa,.fixRow 5 aa,kp 49],[kp 177],[kp 64],[kp 2097201],[kp 64],[kp 1073741873],[kp 64],[kp 68719476785],[kp 64],[kp 17592186044465],[kp 64],[.keep [4,5,52]],[kp 64],[kp 64]] []
theorem vc213 (kind:Int) (a:aa.D) (b:aa.D) (K:KA):vcT C213 ay ann213 f213 [dI kind,.data aa a,.data aa b] [] (.dat aE) K =
 (cond ((!(M.inR kind Z1 Z4))==false) ((Sm aa a)/\cond ((!(M.aL a))==false) ((Sm aa b)/\cond (!(M.aL b)) (K (dI (-1:Int)) []) (cond ((decide (a.1=Z0))==false) (cond (decide (b.1=Z0)) (K (dI Z2) []) (cond (!decide (a.1=b.1)) (K (dI (-1:Int)) []) (cond (decide (kind=Z1)) ((Sm aa a)/\(Sm aa b)/\K (dI (M.bool (decide ((M.dO a b)=Z0)))) []) (cond (decide (kind=Z2)) ((Sm aa a)/\(Sm aa b)/\K (dI (M.bool (!decide ((M.dO a b)=Z0)))) []) (cond (decide (kind=Z3)) ((Sm aa a)/\(Sm aa b)/\K (dI (M.bool (decide ((M.dO a b)<Z0)))) []) ((Sm aa a)/\(Sm aa b)/\K (dI (M.bool (decide ((M.dO a b)<=Z0)))) [])))))) (K (dI Z2) []))) (K (dI (-1:Int)) [])) (K (dI (-1:Int)) [])):=by kernel_rfl
theorem con213_ok:aT P 213 c213:=aZ C213 func213 (kC con39_ok (kC con201_ok (kC con218_ok (kC con221_ok kN)))) fun args hp K h0=>by
 obtain⟨kind,a,b,rfl,rfl,h_a,h_b,hK⟩:=g3e h0
 have h:ok (F.nW kind a b) (fun r=>K (dI r) []):=az (F.wk kind a b h_a h_b) hK
 refine⟨rfl,ann213,ay,(.dat aE),(aG (by kernel_rfl)),?_⟩
 ·rw[vc213]
  exact(oC h (fun _ h=>⟨h_a,(oC h (fun _ h=>⟨h_b,(oC h (fun _ h=>h) fun _ h=>(oC h (fun _ h=>(oC h (fun _ h=>h) fun _ h=>(oC h (fun _ h=>h) fun _ h=>(oC h (fun _ h=>⟨h_a,⟨h_b,h⟩⟩) fun _ h=>(oC h (fun _ h=>⟨h_a,⟨h_b,h⟩⟩) fun _ h=>(oC h (fun _ h=>⟨h_a,⟨h_b,h⟩⟩) fun _ h=>⟨h_a,⟨h_b,h⟩⟩)))))) fun _ h=>h))⟩) fun _ h=>h)⟩) fun _ h=>h)
def c222:Con:=⟨[.dat aE],fun args hp K=>g1 (pD aE) (fun n=>K (dB (M.inR n 0 2)) []) args hp,.plain,false⟩
abbrev C222:Ctx:=cx [(39,c39)] 5 [] 0 false
def ann222:=an [[kp 1],[kp 4]] []
theorem vc222 (n:Int) (K:KA):vcT C222 ay ann222 f222 [dI n] [] (.dat Ty.bool) K =
 (K (dB (M.inR n Z0 Z2)) []):=by kernel_rfl
theorem con222_ok:aT P 222 c222:=aZ C222 func222 (kC con39_ok kN) fun args hp K h0=>by
 obtain⟨n,rfl,rfl,hK⟩:=g1e h0
 have h:ok (F.tU n) (fun r=>K (dB r) []):=az (F.xe n) hK
 refine⟨rfl,ann222,ay,(.dat Ty.bool),(aG (by kernel_rfl)),?_⟩
 ·rw[vc222]
  exact h
def c223:Con:=⟨[.dat aE],fun args hp K=>g1 (pD aE) (fun n=>(M.inR n 0 2=true)/\K (dI (M.sure n)) []) args hp,.plain,false⟩
abbrev C223:Ctx:=cx [] 7 [] 0 false
def ann223:=an [[kp 1],[kp 4]] []
theorem vc223 (n:Int) (K:KA):vcT C223 ay ann223 f223 [dI n] [] (.dat aE) K =
 ((0<=n)/\(n<([Z0,Z2,Z1].length:Int))/\K (dI (nI [Z0,Z2,Z1] n)) []):=by kernel_rfl
theorem con223_ok:aT P 223 c223:=aZ C223 func223 kN fun args hp K h0=>by
 obtain⟨n,rfl,rfl,p0,hK⟩:=g1e h0
 have h:ok (F.qn n) (fun r=>K (dI r) []):=az (F.zf n p0) hK
 refine⟨rfl,ann223,ay,(.dat aE),(aG (by kernel_rfl)),?_⟩
 ·rw[vc223]
  exact(oG h fun _ h=>(oG h fun _ h=>h))
def c214:Con:=⟨[.dat aE,.dat aE],fun args hp K=>g2 (pD aE) (pD aE) (fun a b=>K (dI (M.qx a b)) []) args hp,.plain,false⟩
abbrev C214:Ctx:=cx [(222,c222),(223,c223)] 19 [] 0 false
def ann214:=an [[kp 3],[kp 4099],[kp 16],[kp 16]] []
theorem vc214 (a:Int) (b:Int) (K:KA):vcT C214 ay ann214 f214 [dI a,dI b] [] (.dat aE) K =
 (cond ((!(M.inR a 0 2))==false) (cond (!(M.inR b 0 2)) (K (dI (-1:Int)) []) ((M.inR a 0 2=true)/\(M.inR b 0 2=true)/\(M.inR (GH (M.sure a) (M.sure b)) 0 2=true)/\K (dI (M.sure (GH (M.sure a) (M.sure b)))) [])) (K (dI (-1:Int)) [])):=by kernel_rfl
theorem con214_ok:aT P 214 c214:=aZ C214 func214 (kC con222_ok (kC con223_ok kN)) fun args hp K h0=>by
 obtain⟨a,b,rfl,rfl,hK⟩:=g2e h0
 have h:ok (F.sI a b) (fun r=>K (dI r) []):=az (F.zG a b) hK
 refine⟨rfl,ann214,ay,(.dat aE),(aG (by kernel_rfl)),?_⟩
 ·rw[vc214]
  exact(oC h (fun b_1 h=>(oC h (fun _ h=>h) fun b_2 h=>⟨(bnf (bgt b_1)),⟨(bnf b_2),(oG h fun _ h=>h)⟩⟩)) fun _ h=>h)
def c215:Con:=⟨[.dat aa],fun args hp K=>g1 (pD aa) (fun v=>(Sm aa v)/\K (dI (M.bW v)) []) args hp,.plain,false⟩
abbrev C215:Ctx:=cx [(201,c201)] 23 [] 0 false
def ann215:=an [[.fixRow 1 aa,kp 2],[kp 10],[kp 4],[kp 131074],[kp 4],[kp 4]] []
theorem vc215 (v:aa.D) (K:KA):vcT C215 ay ann215 f215 [.data aa v] [] (.dat aE) K =
 ((Sm aa v)/\cond ((!(M.aL v))==false) (cond ((decide (v.1=Z1))==false) (cond (decide (v.1=Z2)) (K (dI (-1:Int)) []) (cond (decide (v.1=Z0)) (K (dI Z2) []) (K (dI v.2.1) []))) (K (dI (-1:Int)) [])) (K (dI (-1:Int)) [])):=by kernel_rfl
theorem con215_ok:aT P 215 c215:=aZ C215 func215 (kC con201_ok kN) fun args hp K h0=>by
 obtain⟨v,rfl,rfl,h_v,hK⟩:=g1e h0
 have h:ok (F.oK v) (fun r=>K (dI r) []):=az (F.wN v h_v) hK
 refine⟨rfl,ann215,ay,(.dat aE),(aG (by kernel_rfl)),?_⟩
 ·rw[vc215]
  exact⟨h_v,(oC h (fun _ h=>(oC h (fun _ h=>(oC h (fun _ h=>h) fun _ h=>(oC h (fun _ h=>h) fun _ h=>h))) fun _ h=>h)) fun _ h=>h)⟩
def c216:Con:=⟨[.dat aE,.dat aE],fun args hp K=>g2 (pD aE) (pD aE) (fun a b=>K (dI (M.xY a b)) []) args hp,.plain,false⟩
abbrev C216:Ctx:=cx [(222,c222),(223,c223)] 19 [] 0 false
def ann216:=an [[kp 3],[kp 4099],[kp 16],[kp 16]] []
theorem vc216 (a:Int) (b:Int) (K:KA):vcT C216 ay ann216 f216 [dI a,dI b] [] (.dat aE) K =
 (cond ((!(M.inR a 0 2))==false) (cond (!(M.inR b 0 2)) (K (dI (-1:Int)) []) ((M.inR a 0 2=true)/\(M.inR b 0 2=true)/\(M.inR (bz (M.sure a) (M.sure b)) 0 2=true)/\K (dI (M.sure (bz (M.sure a) (M.sure b)))) [])) (K (dI (-1:Int)) [])):=by kernel_rfl
theorem con216_ok:aT P 216 c216:=aZ C216 func216 (kC con222_ok (kC con223_ok kN)) fun args hp K h0=>by
 obtain⟨a,b,rfl,rfl,hK⟩:=g2e h0
 have h:ok (F.uU a b) (fun r=>K (dI r) []):=az (F.AX a b) hK
 refine⟨rfl,ann216,ay,(.dat aE),(aG (by kernel_rfl)),?_⟩
 ·rw[vc216]
  exact(oC h (fun b_1 h=>(oC h (fun _ h=>h) fun b_2 h=>⟨(bnf (bgt b_1)),⟨(bnf b_2),(oG h fun _ h=>h)⟩⟩)) fun _ h=>h)
def c217:Con:=⟨[.dat aE],fun args hp K=>g1 (pD aE) (fun a=>K (dI (M.qu a)) []) args hp,.plain,false⟩
abbrev C217:Ctx:=cx [(222,c222),(223,c223)] 10 [] 0 false
def ann217:=an [[kp 1],[kp 33],[kp 4],[kp 4]] []
theorem vc217 (a:Int) (K:KA):vcT C217 ay ann217 f217 [dI a] [] (.dat aE) K =
 (cond (!(M.inR a 0 2)) (K (dI (-1:Int)) []) ((M.inR a 0 2=true)/\(M.inR (wrap64 (Z2-(M.sure a))) 0 2=true)/\K (dI (M.sure (wrap64 (Z2-(M.sure a))))) [])):=by kernel_rfl
theorem con217_ok:aT P 217 c217:=aZ C217 func217 (kC con222_ok (kC con223_ok kN)) fun args hp K h0=>by
 obtain⟨a,rfl,rfl,hK⟩:=g1e h0
 have h:ok (F.rU a) (fun r=>K (dI r) []):=az (F.zK a) hK
 refine⟨rfl,ann217,ay,(.dat aE),(aG (by kernel_rfl)),?_⟩
 ·rw[vc217]
  exact(oC h (fun _ h=>h) fun b_1 h=>⟨(bnf b_1),(oG h fun _ h=>h)⟩)
def c204:Con:=⟨[.dat TVS,.mv,.dat aC],fun args hp K=>hpN 0 .sh aa (fun values=>vT (fun a0 a1 a2=>fy TVS a0 fun row=>DT 0 a1 (fy aC a2 fun p=>(Sm TVS row)/\(Sm TVS values)/\(Sm aC p)/\(values.length<=1000)/\(M.takes p<=(values.length:Int))/\(1<=p.1/\p.1<=8)/\(M.lZ p row.length)/\(LD (M.eL row values p) fun r=>K (.own 0 none) [(0,.arr .sh aa r)]))) args []) hp,.mv,false⟩
abbrev C204:Ctx:=cx [(186,c186),(212,c212),(213,c213),(214,c214),(215,c215),(216,c216),(217,c217),(218,c218)] 145 [] 0 true
def ann204:=an [[.fixRow 5 aC,kp 35],[kp 163],[kp 2211],[kp 6307],[kp 64],[kp 526499],[kp 64],[kp 536873122],[kp 64],[kp 281474976712866],[kp 64],[.keep [1,7,11,70]],[kp 64],[.keep [1,7,11,92]],[kp 64],[.keep [1,7,114]],[kp 64],[kp 64]] []
theorem vc204 (row:LV) (values:LV) (p:aC.D) (K:KA):vcT C204 ay ann204 f204 [.data TVS row,.own 0 none,.data aC p] [(0,.arr .sh aa values)] .raw K =
 (cond (decide (p.1=Z1)) (((values.length+[p.2.2.1].length) * 32<=lim)/\K (.own 0 none) [(0,.arr .sh aa (values++[p.2.2.1]))]) (cond (decide (p.1=Z2)) ((0<=p.2.1)/\(p.2.1<(row.length:Int))/\((values.length+[(nV row p.2.1)].length) * 32<=lim)/\K (.own 0 none) [(0,.arr .sh aa (values++[(nV row p.2.1)]))]) (cond (decide (p.1=Z3)) ((0<=Z0)/\(Z0<=wrap64 ((values.length:Int)-Z2))/\(wrap64 ((values.length:Int)-Z2)<=(values.length:Int))/\(wrap64 ((values.length:Int)-Z2)=wrap64 ((values.length:Int)-Z2))/\(0<=wrap64 ((values.length:Int)-Z2))/\(wrap64 ((values.length:Int)-Z2)<(values.length:Int))/\(0<=wrap64 ((values.length:Int)-Z1))/\(wrap64 ((values.length:Int)-Z1)<(values.length:Int))/\(Sm aa (nV values (wrap64 ((values.length:Int)-Z2))))/\(Sm aa (nV values (wrap64 ((values.length:Int)-Z1))))/\(LD (M.sum (nV values (wrap64 ((values.length:Int)-Z2))) (nV values (wrap64 ((values.length:Int)-Z1)))) fun r1=>(Z0=0)/\(((wrap64 ((values.length:Int)-Z2)).toNat+[r1].length) * 32<=lim)/\K (.own 0 none) [(0,.arr .sh aa (values.take (wrap64 ((values.length:Int)-Z2)).toNat++[r1]))])) (cond (decide (p.1=Z4)) ((0<=Z0)/\(Z0<=wrap64 ((values.length:Int)-Z2))/\(wrap64 ((values.length:Int)-Z2)<=(values.length:Int))/\(wrap64 ((values.length:Int)-Z2)=wrap64 ((values.length:Int)-Z2))/\(0<=wrap64 ((values.length:Int)-Z2))/\(wrap64 ((values.length:Int)-Z2)<(values.length:Int))/\(0<=wrap64 ((values.length:Int)-Z1))/\(wrap64 ((values.length:Int)-Z1)<(values.length:Int))/\(Sm aa (nV values (wrap64 ((values.length:Int)-Z2))))/\(Sm aa (nV values (wrap64 ((values.length:Int)-Z1))))/\(LD (M.valueOf (M.compare p.2.1 (nV values (wrap64 ((values.length:Int)-Z2))) (nV values (wrap64 ((values.length:Int)-Z1))))) fun r2=>(Z0=0)/\(((wrap64 ((values.length:Int)-Z2)).toNat+[r2].length) * 32<=lim)/\K (.own 0 none) [(0,.arr .sh aa (values.take (wrap64 ((values.length:Int)-Z2)).toNat++[r2]))])) (cond (decide (p.1=Z5)) ((0<=Z0)/\(Z0<=wrap64 ((values.length:Int)-Z2))/\(wrap64 ((values.length:Int)-Z2)<=(values.length:Int))/\(wrap64 ((values.length:Int)-Z2)=wrap64 ((values.length:Int)-Z2))/\(0<=wrap64 ((values.length:Int)-Z2))/\(wrap64 ((values.length:Int)-Z2)<(values.length:Int))/\(0<=wrap64 ((values.length:Int)-Z1))/\(wrap64 ((values.length:Int)-Z1)<(values.length:Int))/\(Sm aa (nV values (wrap64 ((values.length:Int)-Z2))))/\(Sm aa (nV values (wrap64 ((values.length:Int)-Z1))))/\(LD (M.valueOf (M.qx (M.bW (nV values (wrap64 ((values.length:Int)-Z2)))) (M.bW (nV values (wrap64 ((values.length:Int)-Z1)))))) fun r3=>(Z0=0)/\(((wrap64 ((values.length:Int)-Z2)).toNat+[r3].length) * 32<=lim)/\K (.own 0 none) [(0,.arr .sh aa (values.take (wrap64 ((values.length:Int)-Z2)).toNat++[r3]))])) (cond (decide (p.1=Z6)) ((0<=Z0)/\(Z0<=wrap64 ((values.length:Int)-Z2))/\(wrap64 ((values.length:Int)-Z2)<=(values.length:Int))/\(wrap64 ((values.length:Int)-Z2)=wrap64 ((values.length:Int)-Z2))/\(0<=wrap64 ((values.length:Int)-Z2))/\(wrap64 ((values.length:Int)-Z2)<(values.length:Int))/\(0<=wrap64 ((values.length:Int)-Z1))/\(wrap64 ((values.length:Int)-Z1)<(values.length:Int))/\(Sm aa (nV values (wrap64 ((values.length:Int)-Z2))))/\(Sm aa (nV values (wrap64 ((values.length:Int)-Z1))))/\(LD (M.valueOf (M.xY (M.bW (nV values (wrap64 ((values.length:Int)-Z2)))) (M.bW (nV values (wrap64 ((values.length:Int)-Z1)))))) fun r4=>(Z0=0)/\(((wrap64 ((values.length:Int)-Z2)).toNat+[r4].length) * 32<=lim)/\K (.own 0 none) [(0,.arr .sh aa (values.take (wrap64 ((values.length:Int)-Z2)).toNat++[r4]))])) (cond (decide (p.1=(7:Int))) ((0<=Z0)/\(Z0<=wrap64 ((values.length:Int)-Z1))/\(wrap64 ((values.length:Int)-Z1)<=(values.length:Int))/\(wrap64 ((values.length:Int)-Z1)=wrap64 ((values.length:Int)-Z1))/\(0<=wrap64 ((values.length:Int)-Z1))/\(wrap64 ((values.length:Int)-Z1)<(values.length:Int))/\(Sm aa (nV values (wrap64 ((values.length:Int)-Z1))))/\(LD (M.valueOf (M.qu (M.bW (nV values (wrap64 ((values.length:Int)-Z1)))))) fun r5=>(Z0=0)/\(((wrap64 ((values.length:Int)-Z1)).toNat+[r5].length) * 32<=lim)/\K (.own 0 none) [(0,.arr .sh aa (values.take (wrap64 ((values.length:Int)-Z1)).toNat++[r5]))])) ((0<=Z0)/\(Z0<=wrap64 ((values.length:Int)-Z1))/\(wrap64 ((values.length:Int)-Z1)<=(values.length:Int))/\(wrap64 ((values.length:Int)-Z1)=wrap64 ((values.length:Int)-Z1))/\(0<=wrap64 ((values.length:Int)-Z1))/\(wrap64 ((values.length:Int)-Z1)<(values.length:Int))/\(LD (M.valueOf (M.bool (decide ((nV values (wrap64 ((values.length:Int)-Z1))).1=Z0)))) fun r6=>(Z0=0)/\(((wrap64 ((values.length:Int)-Z1)).toNat+[r6].length) * 32<=lim)/\K (.own 0 none) [(0,.arr .sh aa (values.take (wrap64 ((values.length:Int)-Z1)).toNat++[r6]))]))))))))):=by kernel_rfl
theorem con204_ok:aT P 204 c204:=aZ C204 func204 (kC con186_ok (kC con212_ok (kC con213_ok (kC con214_ok (kC con215_ok (kC con216_ok (kC con217_ok (kC con218_ok kN)))))))) fun args hp K h0=>by
 unfold c204 at h0
 dsimp only at h0
 obtain⟨values,rfl,h00⟩:=BE (n:=0) (d:=.sh) (t:=aa) h0
 obtain⟨a0,a1,a2,rfl,_,h1⟩:=jr h00
 obtain⟨row,rfl,h2⟩:=bt h1
 obtain⟨rfl,h3⟩:=yD h2
 obtain⟨p,rfl,h4⟩:=bt h3
 obtain⟨h_row,h_values,h_p,p0,p1,p2,p3,hK⟩:=h4
 have h:ok (F.qT row values p) (fun r=>K (.own 0 none) [(0,.arr .sh aa r)]):=az (F.Bw row values p h_row h_values h_p p0 p1 p2 p3) (hK _ rfl)
 refine⟨rfl,ann204,ay,.raw,(aG (by kernel_rfl)),?_⟩
 ·rw[vc204]
  exact(oC h (fun _ h=>⟨(mg h_values (AF h_p.2.2.1) rfl),h⟩) fun _ h=>(oC h (fun _ h=>(oG h fun _ h=>(oG h fun _ h=>⟨(mg h_values (AF (aJ h_row p.2.1)) rfl),h⟩))) fun _ h=>(oC h (fun _ h=>⟨(Int.natCast_nonneg 0),(oG h fun _ h=>(oG h fun _ h=>⟨rfl,(oG h fun _ h=>(oG h fun _ h=>(oG h fun _ h=>(oG h fun _ h=>⟨(aJ h_values (wrap64 ((values.length:Int)-Z2))),⟨(aJ h_values (wrap64 ((values.length:Int)-Z1))),(oL h fun _ _ h=>⟨rfl,(oG h fun _ h=>h)⟩)⟩⟩))))⟩))⟩) fun _ h=>(oC h (fun _ h=>⟨(Int.natCast_nonneg 0),(oG h fun _ h=>(oG h fun _ h=>⟨rfl,(oG h fun _ h=>(oG h fun _ h=>(oG h fun _ h=>(oG h fun _ h=>⟨(aJ h_values (wrap64 ((values.length:Int)-Z2))),⟨(aJ h_values (wrap64 ((values.length:Int)-Z1))),(oL h fun _ _ h=>⟨rfl,(oG h fun _ h=>h)⟩)⟩⟩))))⟩))⟩) fun _ h=>(oC h (fun _ h=>⟨(Int.natCast_nonneg 0),(oG h fun _ h=>(oG h fun _ h=>⟨rfl,(oG h fun _ h=>(oG h fun _ h=>(oG h fun _ h=>(oG h fun _ h=>⟨(aJ h_values (wrap64 ((values.length:Int)-Z2))),⟨(aJ h_values (wrap64 ((values.length:Int)-Z1))),(oL h fun _ _ h=>⟨rfl,(oG h fun _ h=>h)⟩)⟩⟩))))⟩))⟩) fun _ h=>(oC h (fun _ h=>⟨(Int.natCast_nonneg 0),(oG h fun _ h=>(oG h fun _ h=>⟨rfl,(oG h fun _ h=>(oG h fun _ h=>(oG h fun _ h=>(oG h fun _ h=>⟨(aJ h_values (wrap64 ((values.length:Int)-Z2))),⟨(aJ h_values (wrap64 ((values.length:Int)-Z1))),(oL h fun _ _ h=>⟨rfl,(oG h fun _ h=>h)⟩)⟩⟩))))⟩))⟩) fun _ h=>(oC h (fun _ h=>⟨(Int.natCast_nonneg 0),(oG h fun _ h=>(oG h fun _ h=>⟨rfl,(oG h fun _ h=>(oG h fun _ h=>⟨(aJ h_values (wrap64 ((values.length:Int)-Z1))),(oL h fun _ _ h=>⟨rfl,(oG h fun _ h=>h)⟩)⟩))⟩))⟩) fun _ h=>⟨(Int.natCast_nonneg 0),(oG h fun _ h=>(oG h fun _ h=>⟨rfl,(oG h fun _ h=>(oG h fun _ h=>(oL h fun _ _ h=>⟨rfl,(oG h fun _ h=>h)⟩)))⟩))⟩)))))))
def c185:Con:=⟨[.dat TVS,.dat TPS],fun args hp K=>g2 (pD TVS) (pD TPS) (fun row e=>(Sm TVS row)/\(Sm TPS e)/\(M.cG row.length e)/\(LD (M.fo row e) fun r=>K (.data aa r) [])) args hp,.plain,false⟩
abbrev C185:Ctx:=cx [(204,c204)] 24 [] 0 false
def ann185:=an [[kp 19],[kp 51],[kp 115],[kp 2163],[kp 115],[kp 115],[kp 16]] [[kp 48]]
abbrev s185_0 (row:LV) (e:LPt) (i0:Int) (v0:LV):St:=⟨[(0,.data TVS row),(1,.data TPS e),(4,.ptr 4 0),(5,.own 7 none),(6,dI i0)],[(4,.box [dI Z0,dI Z0,.data Ty.str (⟨#[]⟩:ByteArray)]),(7,.arr .sh aa v0)]⟩
abbrev LP185_0 (row:LV) (e:LPt) (m:Nat) (st_:St) (K:KX):Prop:=True/\bJ (t:=aC) (s185_0 row e) e (F.ez row e) (fun v0:LV=>True) (bq (fun v0:LV=>True->K (.exit 0) (⟨[(4,.ptr 4 0),(5,.own 7 none)],[(4,.box [dI Z0,dI Z0,.data Ty.str (⟨#[]⟩:ByteArray)]),(7,.arr .sh aa v0)]⟩:St)) (fun _=>False)) m st_
def L185 (row:LV) (e:LPt):bD:=lp1 0 (LP185_0 row e)
theorem vc185 (row:LV) (e:LPt) (K:KA):vcT C185 (L185 row e) ann185 f185 [.data TVS row,.data TPS e] [] (.dat aa) K =
 (∃m_,True/\bJ (t:=aC) (s185_0 row e) e (F.ez row e) (fun v0:LV=>True) (bq (fun v0:LV=>True->(0<=Z0)/\(Z0<(v0.length:Int))/\K (.data aa (nV v0 Z0)) []) (fun _=>False)) m_ (s185_0 row e Z0 [])):=by kernel_rfl
theorem lvc185_0 (row:LV) (e:LPt)  (i0:Int) (v0:LV) (m:Nat) (K:KX):lvT C185 (L185 row e) ann185 f185 0 0 (s185_0 row e i0 v0) m K =
 (cond (decide (i0<(e.length:Int))) ((0<=i0)/\(i0<(e.length:Int))/\(Sm TVS row)/\(Sm TVS v0)/\(Sm aC (nP e i0))/\(v0.length<=1000)/\(M.takes (nP e i0)<=(v0.length:Int))/\(1<=(nP e i0).1/\(nP e i0).1<=8)/\(M.lZ (nP e i0) row.length)/\(LD (M.eL row v0 (nP e i0)) fun r1=>(nxT (LP185_0 row e) m K (s185_0 row e (wrap64 (i0+Z1)) r1)))) (K (.exit 0) (⟨[(4,.ptr 4 0),(5,.own 7 none)],[(4,.box [dI Z0,dI Z0,.data Ty.str (⟨#[]⟩:ByteArray)]),(7,.arr .sh aa v0)]⟩:St))):=by kernel_rfl
theorem con185_ok:aT P 185 c185:=aZ C185 func185 (kC con204_ok kN) fun args hp K h0=>by
 obtain⟨row,e,rfl,rfl,h_row,h_e,p0,hK⟩:=g2e h0
 have h:ok (F.oT row e) (fun r=>K (.data aa r) []):=az (F.wo row e h_row h_e p0) (hK _ rfl)
 refine⟨rfl,ann185,(L185 row e),(.dat aa),(bH (i0:=0) (by kernel_rfl) ?_),?_⟩
 ·rintro _ _ K ⟨hc0,i0,v0,rfl,hl0,rfl,hv0,h⟩
  exact cast (lvc185_0 _ _ _ _ _ _).symm (aW (t:=aC) hl0 h (fun ht0 h=>⟨hl0,⟨ht0,⟨h_row,(oG h fun _ h=>⟨(aJ h_e i0),(oG h fun _ h=>(oG h fun _ h=>(oG h fun _ h=>(oG h fun _ h=>(oL h fun _ _ h=>(aP (t:=aC) (fun _ hm=>⟨hc0,hm⟩) _ rfl hl0 ht0 (bu h_e) trivial h))))))⟩)⟩⟩⟩) fun h=>(h trivial))
 ·rw[vc185]
  exact(aQ (t:=aC) (fun m hm=>⟨trivial,hm⟩) _ rfl trivial (aU h (fun v0 h hv0=>⟨(Int.natCast_nonneg 0),(oG h fun _ h=>h)⟩) (fun _ h=>h.elim)))
def c149:Con:=⟨[.dat TVS,.dat TPS],fun args hp K=>g2 (pD TVS) (pD TPS) (fun row e=>(Sm TVS row)/\(Sm TPS e)/\(M.cG row.length e)/\K (dB (M.holds row e)) []) args hp,.plain,false⟩
abbrev C149:Ctx:=cx [(185,c185),(186,c186)] 10 [] 0 false
def ann149:=an [[kp 3],[kp 16]] []
theorem vc149 (row:LV) (e:LPt) (K:KA):vcT C149 ay ann149 f149 [.data TVS row,.data TPS e] [] (.dat Ty.bool) K =
 ((Sm TVS row)/\(Sm TPS e)/\(M.cG row.length e)/\(LD (M.fo row e) fun r1=>(LD (M.valueOf Z1) fun r2=>K (dB (Ty.beq aa r1 r2)) []))):=by kernel_rfl
theorem con149_ok:aT P 149 c149:=aZ C149 func149 (kC con185_ok (kC con186_ok kN)) fun args hp K h0=>by
 obtain⟨row,e,rfl,rfl,h_row,h_e,p0,hK⟩:=g2e h0
 have h:ok (F.tJ row e) (fun r=>K (dB r) []):=az (F.wu row e h_row h_e p0) hK
 refine⟨rfl,ann149,ay,(.dat Ty.bool),(aG (by kernel_rfl)),?_⟩
 ·rw[vc149]
  exact⟨h_row,⟨h_e,⟨p0,(oL h fun _ _ h=>(oL h fun _ _ h=>h))⟩⟩⟩
def c150:Con:=⟨[.dat TVS,.dat (Ty.sl aE)],fun args hp K=>g2 (pD TVS) (pD (Ty.sl aE)) (fun row list=>(Sm TVS row)/\(Sm (Ty.sl aE) list)/\(M.rH row list)/\(LD (M.taken row list) fun r=>K (.own 0 none) [(0,.arr .sh aa r)])) args hp,.plain,false⟩
abbrev C150:Ctx:=cx [] 25 [] 0 false
def ann150:=an [[kp 3],[kp 35],[kp 99],[kp 2147],[kp 99],[kp 99],[kp 16]] [[kp 32]]
abbrev s150_0 (row:LV) (list:LI) (i0:Int) (v0:LV):St:=⟨[(0,.data TVS row),(1,.data (Ty.sl aE) list),(5,.own 7 none),(6,dI i0)],[(7,.arr .sh aa v0)]⟩
abbrev LP150_0 (row:LV) (list:LI) (m:Nat) (st_:St) (K:KX):Prop:=True/\bJ (t:=aE) (s150_0 row list) list (F.iu row list) (fun v0:LV=>True) (bq (fun v0:LV=>True->K (.exit 0) (⟨[(5,.own 7 none)],[(7,.arr .sh aa v0)]⟩:St)) (fun _=>False)) m st_
def L150 (row:LV) (list:LI):bD:=lp1 0 (LP150_0 row list)
theorem vc150 (row:LV) (list:LI) (K:KA):vcT C150 (L150 row list) ann150 f150 [.data TVS row,.data (Ty.sl aE) list] [] .raw K =
 (∃m_,True/\bJ (t:=aE) (s150_0 row list) list (F.iu row list) (fun v0:LV=>True) (bq (fun v0:LV=>True->K (.own 0 none) [(0,.arr .sh aa v0)]) (fun _=>False)) m_ (s150_0 row list Z0 [])):=by kernel_rfl
theorem lvc150_0 (row:LV) (list:LI)  (i0:Int) (v0:LV) (m:Nat) (K:KX):lvT C150 (L150 row list) ann150 f150 0 0 (s150_0 row list i0 v0) m K =
 (cond (decide (i0<(list.length:Int))) ((0<=i0)/\(i0<(list.length:Int))/\(0<=(nI list i0))/\((nI list i0)<(row.length:Int))/\((v0.length+[(nV row (nI list i0))].length) * 32<=lim)/\(nxT (LP150_0 row list) m K (s150_0 row list (wrap64 (i0+Z1)) (v0++[(nV row (nI list i0))])))) (K (.exit 0) (⟨[(5,.own 7 none)],[(7,.arr .sh aa v0)]⟩:St))):=by kernel_rfl
theorem con150_ok:aT P 150 c150:=aZ C150 func150 kN fun args hp K h0=>by
 obtain⟨row,list,rfl,rfl,h_row,h_list,p0,hK⟩:=g2e h0
 have h:ok (F.oB row list) (fun r=>K (.own 0 none) [(0,.arr .sh aa r)]):=az (F.wS row list h_row h_list p0) (hK _ rfl)
 refine⟨rfl,ann150,(L150 row list),.raw,(bH (i0:=0) (by kernel_rfl) ?_),?_⟩
 ·rintro _ _ K ⟨hc0,i0,v0,rfl,hl0,rfl,hv0,h⟩
  exact cast (lvc150_0 _ _ _ _ _ _).symm (aW (t:=aE) hl0 h (fun ht0 h=>⟨hl0,⟨ht0,(oG h fun _ h=>(oG h fun _ h=>(oG h fun _ h=>(aP (t:=aE) (fun _ hm=>⟨hc0,hm⟩) _ rfl hl0 ht0 (bu h_list) trivial h))))⟩⟩) fun h=>(h trivial))
 ·rw[vc150]
  exact(aQ (t:=aE) (fun m hm=>⟨trivial,hm⟩) _ rfl trivial (aU h (fun v0 h hv0=>h) (fun _ h=>h.elim)))
def c151:Con:=⟨[.dat TVS,.dat TVS],fun args hp K=>g2 (pD TVS) (pD TVS) (fun a b=>(Sm TVS a)/\(Sm TVS b)/\(LD (a++b) fun r=>K (.own 0 none) [(0,.arr .sh aa r)])) args hp,.plain,false⟩
abbrev C151:Ctx:=cx [(94,c94)] 9 [] 0 false
def ann151:=an [[kp 3],[kp 16]] []
theorem vc151 (a:LV) (b:LV) (K:KA):vcT C151 ay ann151 f151 [.data TVS a,.data TVS b] [] .raw K =
 ((Sm TVS a)/\(LD a fun r1=>((r1.length+b.length) * 32<=lim)/\K (.own 0 none) [(0,.arr .sh aa (r1++b))])):=by kernel_rfl
theorem con151_ok:aT P 151 c151:=aZ C151 func151 (kC con94_ok kN) fun args hp K h0=>by
 obtain⟨a,b,rfl,rfl,h_a,h_b,hK⟩:=g2e h0
 have h:ok (F.mO a b) (fun r=>K (.own 0 none) [(0,.arr .sh aa r)]):=az (F.uP a b h_a h_b) (hK _ rfl)
 refine⟨rfl,ann151,ay,.raw,(aG (by kernel_rfl)),?_⟩
 ·rw[vc151]
  exact⟨h_a,(oL h fun _ _ h=>(oG h fun _ h=>h))⟩
def c205:Con:=⟨[.dat TVS,.dat TVS],fun args hp K=>g2 (pD TVS) (pD TVS) (fun a b=>(Sm TVS a)/\(Sm TVS b)/\K (dB (decide (a=b))) []) args hp,.plain,false⟩
abbrev C205:Ctx:=cx [] 26 [] 0 false
def ann205:=an [[kp 3],[kp 1027],[kp 16],[kp 35],[kp 16419],[kp 35],[kp 33554467],[kp 16],[kp 16]] [[kp 0]]
abbrev s205_0 (a:LV) (b:LV) (i0:Int) (v0:Unit):St:=⟨[(0,.data TVS a),(1,.data TVS b),(5,dI i0)],[]⟩
abbrev LP205_0 (a:LV) (b:LV) (m:Nat) (st_:St) (K:KX):Prop:=True/\dJ (s205_0 a b) Z0 (a.length:Int) (F.iW a b) (fun v0:Unit=>True) (bq (fun v0:Unit=>True->K (.exit 0) (⟨[],[]⟩:St)) (fun q0:Unit=>K .ret (⟨[(4,dB false)],[]⟩:St))) m st_
def L205 (a:LV) (b:LV):bD:=lp1 0 (LP205_0 a b)
theorem vc205 (a:LV) (b:LV) (K:KA):vcT C205 (L205 a b) ann205 f205 [.data TVS a,.data TVS b] [] (.dat Ty.bool) K =
 (cond (!decide ((a.length:Int)=(b.length:Int))) (K (dB false) []) (∃m_,True/\dJ (s205_0 a b) Z0 (a.length:Int) (F.iW a b) (fun v0:Unit=>True) (bq (fun v0:Unit=>True->K (dB true) []) (fun q0:Unit=>K (dB false) [])) m_ (s205_0 a b Z0 ()))):=by kernel_rfl
theorem lvc205_0 (a:LV) (b:LV)  (i0:Int) (v0:Unit) (m:Nat) (K:KX):lvT C205 (L205 a b) ann205 f205 0 0 (s205_0 a b i0 v0) m K =
 (cond (decide (i0<(a.length:Int))) ((0<=i0)/\(i0<(a.length:Int))/\(0<=i0)/\(i0<(b.length:Int))/\cond (!(Ty.beq aa (nV a i0) (nV b i0))) (K .ret (⟨[(4,dB false)],[]⟩:St)) (nxT (LP205_0 a b) m K (s205_0 a b (wrap64 (i0+Z1)) ()))) (K (.exit 0) (⟨[],[]⟩:St))):=by kernel_rfl
theorem con205_ok:aT P 205 c205:=aZ C205 func205 kN fun args hp K h0=>by
 obtain⟨a,b,rfl,rfl,h_a,h_b,hK⟩:=g2e h0
 have h:ok (F.vD a b) (fun r=>K (dB r) []):=az (F.yg a b h_a h_b) hK
 refine⟨rfl,ann205,(L205 a b),(.dat Ty.bool),(bH (i0:=0) (by kernel_rfl) ?_),?_⟩
 ·rintro _ _ K ⟨hc0,i0,v0,rfl,hl0,rfl,hv0,h⟩
  exact cast (lvc205_0 _ _ _ _ _ _).symm (cC h (fun ht0 h=>⟨hl0,⟨ht0,⟨hl0,(oG h fun _ h=>(oC h (fun _ h=>h) fun _ h=>(bT (fun _ hm=>⟨hc0,hm⟩) _ rfl hl0 nu ht0 (bu h_a) trivial h)))⟩⟩⟩) fun h=>(h trivial))
 ·rw[vc205]
  exact(oC h (fun _ h=>h) fun _ h=>(bZ (fun m hm=>⟨trivial,hm⟩) Z0 _ rfl (Int.natCast_nonneg 0) trivial (aU h (fun v0 h hv0=>h) (fun q0 h=>h))))
def c187:Con:=⟨[.lent TVS,.dat TVS],fun args hp K=>g2 (pB TVS) (pD TVS) (fun rows row=>(Sm (Ty.sl TVS) rows)/\(Sm TVS row)/\K (dI (M.dx rows row:Int)) []) args hp,.plain,false⟩
abbrev C187:Ctx:=cx [(205,c205)] 22 [] 0 false
def ann187:=an [[kp 3],[kp 35],[kp 99],[kp 1123],[kp 99],[kp 262243],[kp 99],[kp 16]] [[kp 32]]
abbrev s187_0 (rows:(List LV)) (row:LV) (i0:Int) (v0:Int):St:=⟨[(0,.brw TVS rows),(1,.data TVS row),(5,dI v0),(6,dI i0)],[]⟩
abbrev LP187_0 (rows:(List LV)) (row:LV) (m:Nat) (st_:St) (K:KX):Prop:=True/\bJ (t:=TVS) (s187_0 rows row) rows (F.fF rows row) (fun v0:Int=>True) (bq (fun v0:Int=>True->K (.exit 0) (⟨[(5,dI v0)],[]⟩:St)) (fun _=>False)) m st_
def L187 (rows:(List LV)) (row:LV):bD:=lp1 0 (LP187_0 rows row)
theorem vc187 (rows:(List LV)) (row:LV) (K:KA):vcT C187 (L187 rows row) ann187 f187 [.brw TVS rows,.data TVS row] [] (.dat aE) K =
 (∃m_,True/\bJ (t:=TVS) (s187_0 rows row) rows (F.fF rows row) (fun v0:Int=>True) (bq (fun v0:Int=>True->K (dI v0) []) (fun _=>False)) m_ (s187_0 rows row Z0 Z0)):=by kernel_rfl
theorem lvc187_0 (rows:(List LV)) (row:LV)  (i0:Int) (v0:Int) (m:Nat) (K:KX):lvT C187 (L187 rows row) ann187 f187 0 0 (s187_0 rows row i0 v0) m K =
 (cond (decide (i0<(rows.length:Int))) ((0<=i0)/\(i0<(rows.length:Int))/\(Sm TVS (nth (t:=TVS) rows i0))/\(Sm TVS row)/\cond (decide ((nth (t:=TVS) rows i0)=row)) (nxT (LP187_0 rows row) m K (s187_0 rows row (wrap64 (i0+Z1)) (wrap64 (v0+Z1)))) (nxT (LP187_0 rows row) m K (s187_0 rows row (wrap64 (i0+Z1)) v0))) (K (.exit 0) (⟨[(5,dI v0)],[]⟩:St))):=by kernel_rfl
theorem con187_ok:aT P 187 c187:=aZ C187 func187 (kC con205_ok kN) fun args hp K h0=>by
 obtain⟨rows,row,rfl,rfl,h_rows,h_row,hK⟩:=g2e h0
 have h:ok (F.oc rows row) (fun r=>K (dI r) []):=az (F.wZ rows row h_rows h_row) hK
 refine⟨rfl,ann187,(L187 rows row),(.dat aE),(bH (i0:=0) (by kernel_rfl) ?_),?_⟩
 ·rintro _ _ K ⟨hc0,i0,v0,rfl,hl0,rfl,hv0,h⟩
  exact cast (lvc187_0 _ _ _ _ _ _).symm (aW (t:=TVS) hl0 h (fun ht0 h=>⟨hl0,⟨ht0,⟨(aJ h_rows i0),⟨h_row,(oC h (fun _ h=>(aP (t:=TVS) (fun _ hm=>⟨hc0,hm⟩) _ rfl hl0 ht0 (bu h_rows) trivial h)) fun _ h=>(aP (t:=TVS) (fun _ hm=>⟨hc0,hm⟩) _ rfl hl0 ht0 (bu h_rows) trivial h))⟩⟩⟩⟩) fun h=>(h trivial))
 ·rw[vc187]
  exact(aQ (t:=TVS) (fun m hm=>⟨trivial,hm⟩) _ rfl trivial (aU h (fun v0 h hv0=>h) (fun _ h=>h.elim)))
def c152:Con:=⟨[.dat (Ty.sl TVS)],fun args hp K=>g1 (pD (Ty.sl TVS)) (fun rows=>(Sm (Ty.sl TVS) rows)/\(LD (M.cB rows) fun r=>K (.own 0 none) [(0,.arr .sh TVS r)])) args hp,.plain,false⟩
abbrev C152:Ctx:=cx [(94,c94),(187,c187)] 28 [] 0 false
def ann152:=an [[kp 1],[kp 9],[kp 25],[kp 537],[kp 25],[kp 262169],[kp 25],[kp 4]] [[kp 8]]
abbrev s152_0 (rows:(List LV)) (i0:Int) (v0:(List LV)):St:=⟨[(0,.data (Ty.sl TVS) rows),(3,.own 5 none),(4,dI i0)],[(5,.arr .sh TVS v0)]⟩
abbrev LP152_0 (rows:(List LV)) (m:Nat) (st_:St) (K:KX):Prop:=True/\bJ (t:=TVS) (s152_0 rows) rows (F.eU rows) (fun v0:(List LV)=>True) (bq (fun v0:(List LV)=>True->K (.exit 0) (⟨[(3,.own 5 none)],[(5,.arr .sh TVS v0)]⟩:St)) (fun _=>False)) m st_
def L152 (rows:(List LV)):bD:=lp1 0 (LP152_0 rows)
theorem vc152 (rows:(List LV)) (K:KA):vcT C152 (L152 rows) ann152 f152 [.data (Ty.sl TVS) rows] [] .raw K =
 (∃m_,True/\bJ (t:=TVS) (s152_0 rows) rows (F.eU rows) (fun v0:(List LV)=>True) (bq (fun v0:(List LV)=>True->K (.own 0 none) [(0,.arr .sh TVS v0)]) (fun _=>False)) m_ (s152_0 rows Z0 [])):=by kernel_rfl
theorem lvc152_0 (rows:(List LV))  (i0:Int) (v0:(List LV)) (m:Nat) (K:KX):lvT C152 (L152 rows) ann152 f152 0 0 (s152_0 rows i0 v0) m K =
 (cond (decide (i0<(rows.length:Int))) ((0<=i0)/\(i0<(rows.length:Int))/\(Sm (Ty.sl TVS) v0)/\(Sm TVS (nth (t:=TVS) rows i0))/\cond (decide ((M.dx v0 (nth (t:=TVS) rows i0):Int)=Z0)) ((0<=i0)/\(i0<(rows.length:Int))/\(Sm TVS (nth (t:=TVS) rows i0))/\(LD (nth (t:=TVS) rows i0) fun r1=>((v0.length+[r1].length) * 24<=lim)/\(nxT (LP152_0 rows) m K (s152_0 rows (wrap64 (i0+Z1)) (v0++[r1]))))) (nxT (LP152_0 rows) m K (s152_0 rows (wrap64 (i0+Z1)) v0))) (K (.exit 0) (⟨[(3,.own 5 none)],[(5,.arr .sh TVS v0)]⟩:St))):=by kernel_rfl
theorem con152_ok:aT P 152 c152:=aZ C152 func152 (kC con94_ok (kC con187_ok kN)) fun args hp K h0=>by
 obtain⟨rows,rfl,rfl,h_rows,hK⟩:=g1e h0
 have h:ok (F.ng rows) (fun r=>K (.own 0 none) [(0,.arr .sh TVS r)]):=az (F.uD rows h_rows) (hK _ rfl)
 refine⟨rfl,ann152,(L152 rows),.raw,(bH (i0:=0) (by kernel_rfl) ?_),?_⟩
 ·rintro _ _ K ⟨hc0,i0,v0,rfl,hl0,rfl,hv0,h⟩
  exact cast (lvc152_0 _ _ _ _ _).symm (aW (t:=TVS) hl0 h (fun ht0 h=>⟨hl0,⟨ht0,(oG h fun _ h=>⟨(aJ h_rows i0),(oC h (fun _ h=>⟨hl0,⟨ht0,⟨(aJ h_rows i0),(oL h fun _ _ h=>(oG h fun _ h=>(aP (t:=TVS) (fun _ hm=>⟨hc0,hm⟩) _ rfl hl0 ht0 (bu h_rows) trivial h)))⟩⟩⟩) fun _ h=>(aP (t:=TVS) (fun _ hm=>⟨hc0,hm⟩) _ rfl hl0 ht0 (bu h_rows) trivial h))⟩)⟩⟩) fun h=>(h trivial))
 ·rw[vc152]
  exact(aQ (t:=TVS) (fun m hm=>⟨trivial,hm⟩) _ rfl trivial (aU h (fun v0 h hv0=>h) (fun _ h=>h.elim)))
def c101:Con:=⟨[.dat TTb,.lent (Ty.sl TVS),.dat aj],fun args hp K=>g3 (pD TTb) (pB (Ty.sl TVS)) (pD aj) (fun tables ahead s=>(Sm TTb tables)/\(Sm (Ty.sl (Ty.sl TVS)) ahead)/\(Sm aj s)/\(M.jC tables ahead s)/\(LD (M.ck tables ahead s) fun r=>K (.data (Ty.sl TVS) r) [])) args hp,.plain,false⟩
abbrev C101:Ctx:=cx [(94,c94),(149,c149),(150,c150),(151,c151),(152,c152)] 208 [] 0 false
def ann101:=an [[.fixRow 5 aj,kp 35],[kp 163],[kp 262307],[kp 786595],[kp 417],[kp 536871329],[kp 417],[kp 417],[kp 35184372351138],[kp 674],[kp 18014398509482658],[kp 674],[.keep [1,5,7,9,67]],[kp 674],[.keep [1,5,7,18,80]],[kp 1186],[.keep [1,5,7,10,89]],[kp 1186],[kp 1186],[.keep [1,5,7,18,106]],[kp 2210],[.keep [1,5,7,11,115]],[kp 2210],[kp 6306],[.keep [1,5,7,11,12,125]],[kp 6306],[kp 14498],[.keep [1,5,7,11,12,13,148]],[kp 6306],[.keep [1,5,7,18,153]],[kp 16546],[.keep [1,5,7,14,162]],[kp 16546],[kp 16546],[kp 32930],[.keep [1,5,7,15,184]],[kp 32930],[kp 32930],[.keep [1,5,7,199]],[kp 128],[kp 64]] [[],[kp 128],[],[kp 128],[],[kp 128],[],[kp 128],[],[kp 2210],[],[kp 162],[],[kp 128]]
abbrev s101_1 (tables:LTb) (ahead:(List (List LV))) (s:aj.D) (v1:Int×(List LV)):St:=⟨[(0,.data TTb tables),(5,.adr aj s),(7,.own 16 none),(8,dI v1.1)],[(16,.arr .sh TVS v1.2)]⟩
abbrev LP101_1 (tables:LTb) (ahead:(List (List LV))) (s:aj.D) (m:Nat) (st_:St) (K:KX):Prop:=True/\cY (s101_1 tables ahead s) (F.gu tables ahead s) (fun v1:Int×(List LV)=>True) (fun e1:(List LV)=>True->K (.exit 1) (⟨[(7,.own 16 none)],[(16,.arr .sh TVS e1)]⟩:St)) m st_
abbrev s101_3 (tables:LTb) (ahead:(List (List LV))) (s:aj.D) (v3:Int×(List LV)):St:=⟨[(1,.brw (Ty.sl TVS) ahead),(5,.adr aj s),(7,.own 16 none),(9,dI v3.1)],[(16,.arr .sh TVS v3.2)]⟩
abbrev LP101_3 (tables:LTb) (ahead:(List (List LV))) (s:aj.D) (m:Nat) (st_:St) (K:KX):Prop:=True/\cY (s101_3 tables ahead s) (F.gz tables ahead s) (fun v3:Int×(List LV)=>True) (fun e3:(List LV)=>True->K (.exit 3) (⟨[(7,.own 16 none)],[(16,.arr .sh TVS e3)]⟩:St)) m st_
abbrev s101_5 (tables:LTb) (ahead:(List (List LV))) (s:aj.D) (v5:Int×(List LV)):St:=⟨[(1,.brw (Ty.sl TVS) ahead),(5,.adr aj s),(7,.own 16 none),(10,dI v5.1)],[(16,.arr .sh TVS v5.2)]⟩
abbrev LP101_5 (tables:LTb) (ahead:(List (List LV))) (s:aj.D) (m:Nat) (st_:St) (K:KX):Prop:=True/\cY (s101_5 tables ahead s) (F.gr tables ahead s) (fun v5:Int×(List LV)=>True) (fun e5:(List LV)=>True->K (.exit 5) (⟨[(7,.own 16 none)],[(16,.arr .sh TVS e5)]⟩:St)) m st_
abbrev s101_7 (tables:LTb) (ahead:(List (List LV))) (s:aj.D) (v7:Int×(List LV)):St:=⟨[(1,.brw (Ty.sl TVS) ahead),(5,.adr aj s),(7,.own 16 none),(11,dI v7.1)],[(16,.arr .sh TVS v7.2)]⟩
abbrev LP101_7 (tables:LTb) (ahead:(List (List LV))) (s:aj.D) (m:Nat) (st_:St) (K:KX):Prop:=True/\cY (s101_7 tables ahead s) (F.gp tables ahead s) (fun v7:Int×(List LV)=>True) (fun e7:(List LV)=>True->K (.exit 7) (⟨[(7,.own 16 none)],[(16,.arr .sh TVS e7)]⟩:St)) m st_
abbrev s101_9 (tables:LTb) (ahead:(List (List LV))) (s:aj.D) (c9_0:Int) (v9:Int×(List LV)):St:=⟨[(1,.brw (Ty.sl TVS) ahead),(5,.adr aj s),(7,.own 16 none),(11,dI c9_0),(12,dI v9.1)],[(16,.arr .sh TVS v9.2)]⟩
abbrev LP101_9 (tables:LTb) (ahead:(List (List LV))) (s:aj.D) (m:Nat) (st_:St) (K:KX):Prop:=∃c9_0:Int,True/\cY (s101_9 tables ahead s c9_0) (F.gq tables ahead s c9_0) (fun v9:Int×(List LV)=>True) (fun e9:(List LV)=>True->K (.exit 9) (⟨[(1,.brw (Ty.sl TVS) ahead),(5,.adr aj s),(7,.own 16 none),(11,dI c9_0)],[(16,.arr .sh TVS e9)]⟩:St)) m st_
abbrev s101_11 (tables:LTb) (ahead:(List (List LV))) (s:aj.D) (v11:Int×(List LV)):St:=⟨[(1,.brw (Ty.sl TVS) ahead),(5,.adr aj s),(7,.own 16 none),(14,dI v11.1)],[(16,.arr .sh TVS v11.2)]⟩
abbrev LP101_11 (tables:LTb) (ahead:(List (List LV))) (s:aj.D) (m:Nat) (st_:St) (K:KX):Prop:=True/\cY (s101_11 tables ahead s) (F.fI tables ahead s) (fun v11:Int×(List LV)=>True) (fun e11:(List LV)=>True->K (.exit 11) (⟨[(1,.brw (Ty.sl TVS) ahead),(5,.adr aj s),(7,.own 16 none)],[(16,.arr .sh TVS e11)]⟩:St)) m st_
abbrev s101_13 (tables:LTb) (ahead:(List (List LV))) (s:aj.D) (v13:Int×(List LV)):St:=⟨[(1,.brw (Ty.sl TVS) ahead),(5,.adr aj s),(7,.own 16 none),(15,dI v13.1)],[(16,.arr .sh TVS v13.2)]⟩
abbrev LP101_13 (tables:LTb) (ahead:(List (List LV))) (s:aj.D) (m:Nat) (st_:St) (K:KX):Prop:=True/\cY (s101_13 tables ahead s) (F.fN tables ahead s) (fun v13:Int×(List LV)=>True) (fun e13:(List LV)=>True->K (.exit 13) (⟨[(7,.own 16 none)],[(16,.arr .sh TVS e13)]⟩:St)) m st_
def L101 (tables:LTb) (ahead:(List (List LV))) (s:aj.D):bD:=fun id m st_ K=>match id with
 | 1=>LP101_1 tables ahead s m st_ K
 | 3=>LP101_3 tables ahead s m st_ K
 | 5=>LP101_5 tables ahead s m st_ K
 | 7=>LP101_7 tables ahead s m st_ K
 | 9=>LP101_9 tables ahead s m st_ K
 | 11=>LP101_11 tables ahead s m st_ K
 | 13=>LP101_13 tables ahead s m st_ K
 | _=>False
theorem vc101 (tables:LTb) (ahead:(List (List LV))) (s:aj.D) (K:KA):vcT C101 (L101 tables ahead s) ann101 f101 [.data TTb tables,.brw (Ty.sl TVS) ahead,.data aj s] [] (.dat (Ty.sl TVS)) K =
 (cond (decide (s.1=Z1)) (∃m_,True/\cY (s101_1 tables ahead s) (F.gu tables ahead s) (fun v1:Int×(List LV)=>True) (fun e1:(List LV)=>True->K (.data (Ty.sl TVS) e1) []) m_ (s101_1 tables ahead s (Z0,[]))) (cond (decide (s.1=Z2)) (∃m_,True/\cY (s101_3 tables ahead s) (F.gz tables ahead s) (fun v3:Int×(List LV)=>True) (fun e3:(List LV)=>True->K (.data (Ty.sl TVS) e3) []) m_ (s101_3 tables ahead s (Z0,[]))) (cond (decide (s.1=Z3)) (∃m_,True/\cY (s101_5 tables ahead s) (F.gr tables ahead s) (fun v5:Int×(List LV)=>True) (fun e5:(List LV)=>True->K (.data (Ty.sl TVS) e5) []) m_ (s101_5 tables ahead s (Z0,[]))) (cond (decide (s.1=Z4)) (∃m_,True/\cY (s101_7 tables ahead s) (F.gp tables ahead s) (fun v7:Int×(List LV)=>True) (fun e7:(List LV)=>True->K (.data (Ty.sl TVS) e7) []) m_ (s101_7 tables ahead s (Z0,[]))) (cond (decide (s.1=Z5)) (∃m_,True/\cY (s101_11 tables ahead s) (F.fI tables ahead s) (fun v11:Int×(List LV)=>True) (fun e11:(List LV)=>True->(∃m_,True/\cY (s101_13 tables ahead s) (F.fN tables ahead s) (fun v13:Int×(List LV)=>True) (fun e13:(List LV)=>True->K (.data (Ty.sl TVS) e13) []) m_ (s101_13 tables ahead s (Z0,e11)))) m_ (s101_11 tables ahead s (Z0,[]))) (cond (decide (s.1=Z6)) ((0<=s.2.1)/\(s.2.1<(ahead.length:Int))/\(Sm (Ty.sl TVS) (nth (t:=(Ty.sl TVS)) ahead s.2.1))/\(LD (M.cB (nth (t:=(Ty.sl TVS)) ahead s.2.1)) fun r1=>K (.data (Ty.sl TVS) r1) [])) (K (.data (Ty.sl TVS) []) []))))))):=by kernel_rfl
theorem lvc101_0 (tables:LTb) (ahead:(List (List LV))) (s:aj.D)  (v1:Int×(List LV)) (m:Nat) (K:KX):lvT C101 (L101 tables ahead s) ann101 f101 0 1 (s101_1 tables ahead s v1) m K =
 ((0<=s.2.2.2.1)/\(s.2.2.2.1<(tables.length:Int))/\cond (decide (v1.1<((nT tables s.2.2.2.1).2.1.length:Int))) ((0<=s.2.2.2.1)/\(s.2.2.2.1<(tables.length:Int))/\(0<=v1.1)/\(v1.1<((nT tables s.2.2.2.1).2.1.length:Int))/\(Sm TVS (nth (t:=TVS) (nT tables s.2.2.2.1).2.1 v1.1))/\(LD (nth (t:=TVS) (nT tables s.2.2.2.1).2.1 v1.1) fun r2=>((v1.2.length+[r2].length) * 24<=lim)/\(nxT (LP101_1 tables ahead s) m K (s101_1 tables ahead s (wrap64 (v1.1+Z1),(v1.2++[r2])))))) (K (.exit 1) (⟨[(7,.own 16 none)],[(16,.arr .sh TVS v1.2)]⟩:St))):=by kernel_rfl
theorem lvc101_1 (tables:LTb) (ahead:(List (List LV))) (s:aj.D)  (v3:Int×(List LV)) (m:Nat) (K:KX):lvT C101 (L101 tables ahead s) ann101 f101 1 3 (s101_3 tables ahead s v3) m K =
 ((0<=s.2.1)/\(s.2.1<(ahead.length:Int))/\cond (decide (v3.1<((nth (t:=(Ty.sl TVS)) ahead s.2.1).length:Int))) ((0<=s.2.1)/\(s.2.1<(ahead.length:Int))/\(0<=v3.1)/\(v3.1<((nth (t:=(Ty.sl TVS)) ahead s.2.1).length:Int))/\(Sm TVS (nth (t:=TVS) (nth (t:=(Ty.sl TVS)) ahead s.2.1) v3.1))/\(Sm TPS s.2.2.2.2.1)/\(M.cG (nth (t:=TVS) (nth (t:=(Ty.sl TVS)) ahead s.2.1) v3.1).length s.2.2.2.2.1)/\cond (M.holds (nth (t:=TVS) (nth (t:=(Ty.sl TVS)) ahead s.2.1) v3.1) s.2.2.2.2.1) ((0<=s.2.1)/\(s.2.1<(ahead.length:Int))/\(0<=v3.1)/\(v3.1<((nth (t:=(Ty.sl TVS)) ahead s.2.1).length:Int))/\(Sm TVS (nth (t:=TVS) (nth (t:=(Ty.sl TVS)) ahead s.2.1) v3.1))/\(LD (nth (t:=TVS) (nth (t:=(Ty.sl TVS)) ahead s.2.1) v3.1) fun r3=>((v3.2.length+[r3].length) * 24<=lim)/\(nxT (LP101_3 tables ahead s) m K (s101_3 tables ahead s (wrap64 (v3.1+Z1),(v3.2++[r3])))))) (nxT (LP101_3 tables ahead s) m K (s101_3 tables ahead s (wrap64 (v3.1+Z1),v3.2)))) (K (.exit 3) (⟨[(7,.own 16 none)],[(16,.arr .sh TVS v3.2)]⟩:St))):=by kernel_rfl
theorem lvc101_2 (tables:LTb) (ahead:(List (List LV))) (s:aj.D)  (v5:Int×(List LV)) (m:Nat) (K:KX):lvT C101 (L101 tables ahead s) ann101 f101 2 5 (s101_5 tables ahead s v5) m K =
 ((0<=s.2.1)/\(s.2.1<(ahead.length:Int))/\cond (decide (v5.1<((nth (t:=(Ty.sl TVS)) ahead s.2.1).length:Int))) ((0<=s.2.1)/\(s.2.1<(ahead.length:Int))/\(0<=v5.1)/\(v5.1<((nth (t:=(Ty.sl TVS)) ahead s.2.1).length:Int))/\(Sm TVS (nth (t:=TVS) (nth (t:=(Ty.sl TVS)) ahead s.2.1) v5.1))/\(Sm (Ty.sl aE) s.2.2.2.2.2.1)/\(M.rH (nth (t:=TVS) (nth (t:=(Ty.sl TVS)) ahead s.2.1) v5.1) s.2.2.2.2.2.1)/\(LD (M.taken (nth (t:=TVS) (nth (t:=(Ty.sl TVS)) ahead s.2.1) v5.1) s.2.2.2.2.2.1) fun r4=>((v5.2.length+[r4].length) * 24<=lim)/\(nxT (LP101_5 tables ahead s) m K (s101_5 tables ahead s (wrap64 (v5.1+Z1),(v5.2++[r4])))))) (K (.exit 5) (⟨[(7,.own 16 none)],[(16,.arr .sh TVS v5.2)]⟩:St))):=by kernel_rfl
theorem lvc101_3 (tables:LTb) (ahead:(List (List LV))) (s:aj.D)  (v7:Int×(List LV)) (m:Nat) (K:KX):lvT C101 (L101 tables ahead s) ann101 f101 3 7 (s101_7 tables ahead s v7) m K =
 ((0<=s.2.1)/\(s.2.1<(ahead.length:Int))/\cond (decide (v7.1<((nth (t:=(Ty.sl TVS)) ahead s.2.1).length:Int))) (∃m_,∃c9_0:Int,True/\cY (s101_9 tables ahead s c9_0) (F.gq tables ahead s c9_0) (fun v9:Int×(List LV)=>True) (fun e9:(List LV)=>True->(nxT (LP101_7 tables ahead s) m K (s101_7 tables ahead s (wrap64 (c9_0+Z1),e9)))) m_ (s101_9 tables ahead s v7.1 (Z0,v7.2))) (K (.exit 7) (⟨[(7,.own 16 none)],[(16,.arr .sh TVS v7.2)]⟩:St))):=by kernel_rfl
theorem lvc101_4 (tables:LTb) (ahead:(List (List LV))) (s:aj.D) (c9_0:Int) (v9:Int×(List LV)) (m:Nat) (K:KX):lvT C101 (L101 tables ahead s) ann101 f101 4 9 (s101_9 tables ahead s c9_0 v9) m K =
 ((0<=s.2.2.1)/\(s.2.2.1<(ahead.length:Int))/\cond (decide (v9.1<((nth (t:=(Ty.sl TVS)) ahead s.2.2.1).length:Int))) ((0<=s.2.1)/\(s.2.1<(ahead.length:Int))/\(0<=c9_0)/\(c9_0<((nth (t:=(Ty.sl TVS)) ahead s.2.1).length:Int))/\(0<=s.2.2.1)/\(s.2.2.1<(ahead.length:Int))/\(0<=v9.1)/\(v9.1<((nth (t:=(Ty.sl TVS)) ahead s.2.2.1).length:Int))/\(Sm TVS (nth (t:=TVS) (nth (t:=(Ty.sl TVS)) ahead s.2.1) c9_0))/\(Sm TVS (nth (t:=TVS) (nth (t:=(Ty.sl TVS)) ahead s.2.2.1) v9.1))/\(LD ((nth (t:=TVS) (nth (t:=(Ty.sl TVS)) ahead s.2.1) c9_0)++(nth (t:=TVS) (nth (t:=(Ty.sl TVS)) ahead s.2.2.1) v9.1)) fun r5=>(Sm TVS r5)/\(Sm TPS s.2.2.2.2.1)/\(M.cG r5.length s.2.2.2.2.1)/\cond (M.holds r5 s.2.2.2.2.1) (((v9.2.length+[r5].length) * 24<=lim)/\(nxT (LP101_9 tables ahead s) m K (s101_9 tables ahead s c9_0 (wrap64 (v9.1+Z1),(v9.2++[r5]))))) (nxT (LP101_9 tables ahead s) m K (s101_9 tables ahead s c9_0 (wrap64 (v9.1+Z1),v9.2))))) (K (.exit 9) (⟨[(1,.brw (Ty.sl TVS) ahead),(5,.adr aj s),(7,.own 16 none),(11,dI c9_0)],[(16,.arr .sh TVS v9.2)]⟩:St))):=by kernel_rfl
theorem lvc101_5 (tables:LTb) (ahead:(List (List LV))) (s:aj.D)  (v11:Int×(List LV)) (m:Nat) (K:KX):lvT C101 (L101 tables ahead s) ann101 f101 5 11 (s101_11 tables ahead s v11) m K =
 ((0<=s.2.1)/\(s.2.1<(ahead.length:Int))/\cond (decide (v11.1<((nth (t:=(Ty.sl TVS)) ahead s.2.1).length:Int))) ((0<=s.2.1)/\(s.2.1<(ahead.length:Int))/\(0<=v11.1)/\(v11.1<((nth (t:=(Ty.sl TVS)) ahead s.2.1).length:Int))/\(Sm TVS (nth (t:=TVS) (nth (t:=(Ty.sl TVS)) ahead s.2.1) v11.1))/\(LD (nth (t:=TVS) (nth (t:=(Ty.sl TVS)) ahead s.2.1) v11.1) fun r6=>((v11.2.length+[r6].length) * 24<=lim)/\(nxT (LP101_11 tables ahead s) m K (s101_11 tables ahead s (wrap64 (v11.1+Z1),(v11.2++[r6])))))) (K (.exit 11) (⟨[(1,.brw (Ty.sl TVS) ahead),(5,.adr aj s),(7,.own 16 none)],[(16,.arr .sh TVS v11.2)]⟩:St))):=by kernel_rfl
theorem lvc101_6 (tables:LTb) (ahead:(List (List LV))) (s:aj.D)  (v13:Int×(List LV)) (m:Nat) (K:KX):lvT C101 (L101 tables ahead s) ann101 f101 6 13 (s101_13 tables ahead s v13) m K =
 ((0<=s.2.2.1)/\(s.2.2.1<(ahead.length:Int))/\cond (decide (v13.1<((nth (t:=(Ty.sl TVS)) ahead s.2.2.1).length:Int))) ((0<=s.2.2.1)/\(s.2.2.1<(ahead.length:Int))/\(0<=v13.1)/\(v13.1<((nth (t:=(Ty.sl TVS)) ahead s.2.2.1).length:Int))/\(Sm TVS (nth (t:=TVS) (nth (t:=(Ty.sl TVS)) ahead s.2.2.1) v13.1))/\(LD (nth (t:=TVS) (nth (t:=(Ty.sl TVS)) ahead s.2.2.1) v13.1) fun r7=>((v13.2.length+[r7].length) * 24<=lim)/\(nxT (LP101_13 tables ahead s) m K (s101_13 tables ahead s (wrap64 (v13.1+Z1),(v13.2++[r7])))))) (K (.exit 13) (⟨[(7,.own 16 none)],[(16,.arr .sh TVS v13.2)]⟩:St))):=by kernel_rfl
theorem con101_ok:aT P 101 c101:=aZ C101 func101 (kC con94_ok (kC con149_ok (kC con150_ok (kC con151_ok (kC con152_ok kN))))) fun args hp K h0=>by
 obtain⟨tables,ahead,s,rfl,rfl,h_tables,h_ahead,h_s,p0,hK⟩:=g3e h0
 have h:ok (F.qo tables ahead s) (fun r=>K (.data (Ty.sl TVS) r) []):=az (F.ye tables ahead s h_tables h_ahead h_s p0) (hK _ rfl)
 refine⟨rfl,ann101,(L101 tables ahead s),(.dat (Ty.sl TVS)),(Hi (i0:=1) (i1:=3) (i2:=5) (i3:=7) (i4:=9) (i5:=11) (i6:=13) (by kernel_rfl) ?_ ?_ ?_ ?_ ?_ ?_ ?_),?_⟩
 ·rintro _ _ K ⟨hc1,v1,rfl,hv1,h⟩
  exact cast (lvc101_0 _ _ _ _ _ _).symm (cj h (fun m1 hm1 h=>(oG h fun g1 h=>(oG h fun g2 h=>(oC h (fun _ h=>⟨g1,⟨g2,(oG h fun _ h=>(oG h fun _ h=>⟨(aJ (aJ h_tables s.2.2.2.1).2.1 v1.1),(oL h fun _ _ h=>(oG h fun _ h=>(bn (fun _ hm=>⟨hc1,hm⟩) hm1 _ rfl trivial h)))⟩))⟩⟩) fun _ h=>((bX h :) trivial))))))
 ·rintro _ _ K ⟨hc3,v3,rfl,hv3,h⟩
  exact cast (lvc101_1 _ _ _ _ _ _).symm (cj h (fun m1 hm3 h=>(oG h fun g3 h=>(oG h fun g4 h=>(oC h (fun _ h=>⟨g3,⟨g4,(oG h fun g5 h=>(oG h fun g6 h=>⟨(aJ (aJ h_ahead s.2.1) v3.1),⟨h_s.2.2.2.2.1,(oG h fun _ h=>(oC h (fun _ h=>⟨g3,⟨g4,⟨g5,⟨g6,⟨(aJ (aJ h_ahead s.2.1) v3.1),(oL h fun _ _ h=>(oG h fun _ h=>(bn (fun _ hm=>⟨hc3,hm⟩) hm3 _ rfl trivial h)))⟩⟩⟩⟩⟩) fun _ h=>(bn (fun _ hm=>⟨hc3,hm⟩) hm3 _ rfl trivial h)))⟩⟩))⟩⟩) fun _ h=>((bX h :) trivial))))))
 ·rintro _ _ K ⟨hc5,v5,rfl,hv5,h⟩
  exact cast (lvc101_2 _ _ _ _ _ _).symm (cj h (fun m1 hm5 h=>(oG h fun g7 h=>(oG h fun g8 h=>(oC h (fun _ h=>⟨g7,⟨g8,(oG h fun _ h=>(oG h fun _ h=>⟨(aJ (aJ h_ahead s.2.1) v5.1),⟨h_s.2.2.2.2.2.1,(oG h fun _ h=>(oL h fun _ _ h=>(oG h fun _ h=>(bn (fun _ hm=>⟨hc5,hm⟩) hm5 _ rfl trivial h))))⟩⟩))⟩⟩) fun _ h=>((bX h :) trivial))))))
 ·rintro _ _ K ⟨hc7,v7,rfl,hv7,h⟩
  exact cast (lvc101_3 _ _ _ _ _ _).symm (cj h (fun m1 hm7 h=>(oG h fun _ h=>(oG h fun _ h=>(oC h (fun _ h=>(bK (fun m hm=>⟨v7.1,trivial,hm⟩) _ rfl trivial (eG h (fun e9 h hv9=>(bn (fun _ hm=>⟨hc7,hm⟩) hm7 _ rfl trivial h))))) fun _ h=>((bX h :) trivial))))))
 ·rintro _ _ K ⟨c9_0,hc9,v9,rfl,hv9,h⟩
  exact cast (lvc101_4 _ _ _ _ _ _ _).symm (cj h (fun m1 hm9 h=>(oG h fun g9 h=>(oG h fun g10 h=>(oC h (fun _ h=>(oG h fun _ h=>(oG h fun _ h=>(oG h fun _ h=>(oG h fun _ h=>⟨g9,⟨g10,(oG h fun _ h=>(oG h fun _ h=>⟨(aJ (aJ h_ahead s.2.1) c9_0),⟨(aJ (aJ h_ahead s.2.2.1) v9.1),(oL h fun _ _ h=>(oG h fun _ h=>⟨h_s.2.2.2.2.1,(oG h fun _ h=>(oC h (fun _ h=>(oG h fun _ h=>(bn (fun _ hm=>⟨c9_0,hc9,hm⟩) hm9 _ rfl trivial h))) fun _ h=>(bn (fun _ hm=>⟨c9_0,hc9,hm⟩) hm9 _ rfl trivial h)))⟩))⟩⟩))⟩⟩))))) fun _ h=>((bX h :) trivial))))))
 ·rintro _ _ K ⟨hc11,v11,rfl,hv11,h⟩
  exact cast (lvc101_5 _ _ _ _ _ _).symm (cj h (fun m1 hm11 h=>(oG h fun g11 h=>(oG h fun g12 h=>(oC h (fun _ h=>⟨g11,⟨g12,(oG h fun _ h=>(oG h fun _ h=>⟨(aJ (aJ h_ahead s.2.1) v11.1),(oL h fun _ _ h=>(oG h fun _ h=>(bn (fun _ hm=>⟨hc11,hm⟩) hm11 _ rfl trivial h)))⟩))⟩⟩) fun _ h=>((bX h :) trivial))))))
 ·rintro _ _ K ⟨hc13,v13,rfl,hv13,h⟩
  exact cast (lvc101_6 _ _ _ _ _ _).symm (cj h (fun m1 hm13 h=>(oG h fun g13 h=>(oG h fun g14 h=>(oC h (fun _ h=>⟨g13,⟨g14,(oG h fun _ h=>(oG h fun _ h=>⟨(aJ (aJ h_ahead s.2.2.1) v13.1),(oL h fun _ _ h=>(oG h fun _ h=>(bn (fun _ hm=>⟨hc13,hm⟩) hm13 _ rfl trivial h)))⟩))⟩⟩) fun _ h=>((bX h :) trivial))))))
 ·rw[vc101]
  exact(oC h (fun _ h=>(bK (fun m hm=>⟨trivial,hm⟩) _ rfl trivial (eG h (fun e1 h hv1=>h)))) fun _ h=>(oC h (fun _ h=>(bK (fun m hm=>⟨trivial,hm⟩) _ rfl trivial (eG h (fun e3 h hv3=>h)))) fun _ h=>(oC h (fun _ h=>(bK (fun m hm=>⟨trivial,hm⟩) _ rfl trivial (eG h (fun e5 h hv5=>h)))) fun _ h=>(oC h (fun _ h=>(bK (fun m hm=>⟨trivial,hm⟩) _ rfl trivial (eG h (fun e7 h hv7=>h)))) fun _ h=>(oC h (fun _ h=>(bK (fun m hm=>⟨trivial,hm⟩) _ rfl trivial (eG h (fun e11 h hv11=>(bK (fun m hm=>⟨trivial,hm⟩) _ rfl trivial (eG h (fun e13 h hv13=>h))))))) fun _ h=>(oC h (fun _ h=>(oG h fun _ h=>(oG h fun _ h=>⟨(aJ h_ahead s.2.1),(oL h fun _ _ h=>h)⟩))) fun _ h=>h))))))
def c58:Con:=⟨[.dat TTb,.dat TSS],fun args hp K=>g2 (pD TTb) (pD TSS) (fun tables plan=>(Sm TTb tables)/\(Sm TSS plan)/\(M.bL tables plan=true)/\(LD (M.cT tables plan) fun r=>K (.data (Ty.sl (Ty.sl TVS)) r) [])) args hp,.plain,false⟩
abbrev C58:Ctx:=cx [(101,c101)] 25 [] 0 false
def ann58:=an [[kp 3],[kp 35],[kp 99],[kp 2147],[kp 99],[kp 99],[kp 16]] [[kp 32]]
abbrev s58_0 (tables:LTb) (plan:LS) (i0:Int) (v0:(List (List LV))):St:=⟨[(0,.data TTb tables),(1,.data TSS plan),(5,.own 7 none),(6,dI i0)],[(7,.arr .sh (Ty.sl TVS) v0)]⟩
abbrev LP58_0 (tables:LTb) (plan:LS) (m:Nat) (st_:St) (K:KX):Prop:=True/\bJ (t:=aj) (s58_0 tables plan) plan (F.fK tables plan) (fun v0:(List (List LV))=>True) (bq (fun v0:(List (List LV))=>True->K (.exit 0) (⟨[(5,.own 7 none)],[(7,.arr .sh (Ty.sl TVS) v0)]⟩:St)) (fun _=>False)) m st_
def L58 (tables:LTb) (plan:LS):bD:=lp1 0 (LP58_0 tables plan)
theorem vc58 (tables:LTb) (plan:LS) (K:KA):vcT C58 (L58 tables plan) ann58 f58 [.data TTb tables,.data TSS plan] [] (.dat (Ty.sl (Ty.sl TVS))) K =
 (∃m_,True/\bJ (t:=aj) (s58_0 tables plan) plan (F.fK tables plan) (fun v0:(List (List LV))=>True) (bq (fun v0:(List (List LV))=>True->K (.data (Ty.sl (Ty.sl TVS)) v0) []) (fun _=>False)) m_ (s58_0 tables plan Z0 [])):=by kernel_rfl
theorem lvc58_0 (tables:LTb) (plan:LS)  (i0:Int) (v0:(List (List LV))) (m:Nat) (K:KX):lvT C58 (L58 tables plan) ann58 f58 0 0 (s58_0 tables plan i0 v0) m K =
 (cond (decide (i0<(plan.length:Int))) ((0<=i0)/\(i0<(plan.length:Int))/\(Sm TTb tables)/\(Sm (Ty.sl (Ty.sl TVS)) v0)/\(Sm aj (nS plan i0))/\(M.jC tables v0 (nS plan i0))/\(LD (M.ck tables v0 (nS plan i0)) fun r1=>((v0.length+[r1].length) * 24<=lim)/\(nxT (LP58_0 tables plan) m K (s58_0 tables plan (wrap64 (i0+Z1)) (v0++[r1]))))) (K (.exit 0) (⟨[(5,.own 7 none)],[(7,.arr .sh (Ty.sl TVS) v0)]⟩:St))):=by kernel_rfl
theorem con58_ok:aT P 58 c58:=aZ C58 func58 (kC con101_ok kN) fun args hp K h0=>by
 obtain⟨tables,plan,rfl,rfl,h_tables,h_plan,p0,hK⟩:=g2e h0
 have h:ok (F.oz tables plan) (fun r=>K (.data (Ty.sl (Ty.sl TVS)) r) []):=az (F.wE tables plan h_tables h_plan p0) (hK _ rfl)
 refine⟨rfl,ann58,(L58 tables plan),(.dat (Ty.sl (Ty.sl TVS))),(bH (i0:=0) (by kernel_rfl) ?_),?_⟩
 ·rintro _ _ K ⟨hc0,i0,v0,rfl,hl0,rfl,hv0,h⟩
  exact cast (lvc58_0 _ _ _ _ _ _).symm (aW (t:=aj) hl0 h (fun ht0 h=>⟨hl0,⟨ht0,⟨h_tables,(oG h fun _ h=>⟨(aJ h_plan i0),(oG h fun _ h=>(oL h fun _ _ h=>(oG h fun _ h=>(aP (t:=aj) (fun _ hm=>⟨hc0,hm⟩) _ rfl hl0 ht0 (bu h_plan) trivial h))))⟩)⟩⟩⟩) fun h=>(h trivial))
 ·rw[vc58]
  exact(aQ (t:=aj) (fun m hm=>⟨trivial,hm⟩) _ rfl trivial (aU h (fun v0 h hv0=>h) (fun _ h=>h.elim)))
def c21:Con:=⟨[.dat TTb,.dat TSS],fun args hp K=>g2 (pD TTb) (pD TSS) (fun tables plan=>(Sm TTb tables)/\(Sm TSS plan)/\(LD (M.bE tables plan) fun r=>K (.data (Ty.sl TVS) r) [])) args hp,.plain,false⟩
abbrev C21:Ctx:=cx [(11,c11),(58,c58)] 20 [] 0 false
def ann21:=an [[kp 3],[kp 515],[kp 16],[kp 34],[kp 16]] []
theorem vc21 (tables:LTb) (plan:LS) (K:KA):vcT C21 ay ann21 f21 [.data TTb tables,.data TSS plan] [] (.dat (Ty.sl TVS)) K =
 ((Sm TTb tables)/\(Sm TSS plan)/\cond (!(M.bL tables plan)) (K (.data (Ty.sl TVS) []) []) ((Sm TTb tables)/\(Sm TSS plan)/\(M.bL tables plan=true)/\(LD (M.cT tables plan) fun r1=>(0<=wrap64 ((plan.length:Int)-Z1))/\(wrap64 ((plan.length:Int)-Z1)<(r1.length:Int))/\K (.data (Ty.sl TVS) (nth (t:=(Ty.sl TVS)) r1 (wrap64 ((plan.length:Int)-Z1)))) []))):=by kernel_rfl
theorem con21_ok:aT P 21 c21:=aZ C21 func21 (kC con11_ok (kC con58_ok kN)) fun args hp K h0=>by
 obtain⟨tables,plan,rfl,rfl,h_tables,h_plan,hK⟩:=g2e h0
 have h:ok (F.mE tables plan) (fun r=>K (.data (Ty.sl TVS) r) []):=az (F.vp tables plan h_tables h_plan) (hK _ rfl)
 refine⟨rfl,ann21,ay,(.dat (Ty.sl TVS)),(aG (by kernel_rfl)),?_⟩
 ·rw[vc21]
  exact⟨h_tables,⟨h_plan,(oC h (fun _ h=>h) fun b_1 h=>⟨h_tables,⟨h_plan,⟨(bnf b_1),(oL h fun _ _ h=>(oG h fun _ h=>(oG h fun _ h=>h)))⟩⟩⟩)⟩⟩
def c23:Con:=⟨[.dat (Ty.sl TVS),.dat (Ty.sl TVS)],fun args hp K=>g2 (pD (Ty.sl TVS)) (pD (Ty.sl TVS)) (fun a b=>(Sm (Ty.sl TVS) a)/\(Sm (Ty.sl TVS) b)/\(LD (a++b) fun r=>K (.own 0 none) [(0,.arr .sh TVS r)])) args hp,.plain,false⟩
abbrev C23:Ctx:=cx [] 10 [] 0 false
def ann23:=an [[kp 3],[kp 16]] []
theorem vc23 (a:(List LV)) (b:(List LV)) (K:KA):vcT C23 ay ann23 f23 [.data (Ty.sl TVS) a,.data (Ty.sl TVS) b] [] .raw K =
 (((([]:List TVS.D).length+a.length) * 24<=lim)/\((([]++a).length+b.length) * 24<=lim)/\K (.own 0 none) [(0,.arr .sh TVS (([]++a)++b))]):=by kernel_rfl
theorem con23_ok:aT P 23 c23:=aZ C23 func23 kN fun args hp K h0=>by
 obtain⟨a,b,rfl,rfl,h_a,h_b,hK⟩:=g2e h0
 have h:ok (F.qw a b) (fun r=>K (.own 0 none) [(0,.arr .sh TVS r)]):=az (F.yZ a b h_a h_b) (hK _ rfl)
 refine⟨rfl,ann23,ay,.raw,(aG (by kernel_rfl)),?_⟩
 ·rw[vc23]
  exact⟨(mg (iB TVS) h_a rfl),(oG h fun _ h=>h)⟩
def c5:Con:=⟨[.dat TBy],fun args hp K=>g1 (pD TBy) (fun code=>(Ln TBy code)/\(M.aq code)/\K (dB true) []) args hp,.plain,false⟩
abbrev C5:Ctx:=cx [(10,c10),(14,c14),(15,c15),(18,c18),(20,c20),(21,c21),(22,c22),(23,c23)] 78 [] 0 false
def ann5:=an [[kp 1],[kp 2049],[kp 4],[kp 24],[.weak 19,kp 56],[kp 33554488],[kp 4],[kp 17179869240],[kp 4],[kp 120],[kp 248],[kp 424],[.weak 56,.weak 58,.weak 68,kp 4]] []
theorem vc5 (code:LI) (K:KA):vcT C5 ay ann5 f5 [.data TBy code] [] (.dat Ty.bool) K =
 (cond (decide ((1048576:Int)<(code.length:Int))) (K (dB true) []) ((Sm TBy code)/\(M.aq code)/\(LD (M.cV code) fun r1=>(Sm TTb r1.1)/\(Sm TSS r1.2)/\(LD (M.bE r1.1 r1.2) fun r2=>(Sm TTb r1.1)/\(Sm TSS r1.2)/\(LD (M.bE r1.1 r1.2) fun r3=>(Sm (Ty.sl TVS) (aB r2 (some (Z0,(r2.length:Int)))))/\(Sm (Ty.sl TVS) r3)/\((aB r2 (some (Z0,(r2.length:Int))))=r3)/\cond (!true) (K (dB false) []) ((Sm TTb r1.1)/\(Sm TSS r1.2)/\cond ((!(M.bL r1.1 r1.2))==false) (cond (decide ((r1.2.length:Int)=Z6)) (K (dB true) []) (((([]:List aj.D).length+r1.2.length) * 80<=lim)/\((([]++r1.2).length+([(Z6,(wrap64 ((r1.2.length:Int)-Z1),(Z0,(Z0,([],([],()))))))]:List aj.D).length) * 80<=lim)/\((([]:List aj.D).length+r1.2.length) * 80<=lim)/\((([]++r1.2).length+([(Z5,(wrap64 ((r1.2.length:Int)-Z1),(wrap64 ((r1.2.length:Int)-Z1),(Z0,([],([],()))))))]:List aj.D).length) * 80<=lim)/\(Sm TTb r1.1)/\(Sm TSS (([]++r1.2)++[(Z6,(wrap64 ((r1.2.length:Int)-Z1),(Z0,(Z0,([],([],()))))))]))/\(LD (M.bE r1.1 (([]++r1.2)++[(Z6,(wrap64 ((r1.2.length:Int)-Z1),(Z0,(Z0,([],([],()))))))])) fun r4=>(Sm (Ty.sl TVS) (aB r2 (some (Z0,(r2.length:Int)))))/\(LD (M.cB (aB r2 (some (Z0,(r2.length:Int))))) fun r5=>(Sm (Ty.sl TVS) (aB r4 (some (Z0,(r4.length:Int)))))/\(Sm (Ty.sl TVS) (aB r5 (some (Z0,(r5.length:Int)))))/\((aB r4 (some (Z0,(r4.length:Int))))=(aB r5 (some (Z0,(r5.length:Int)))))/\cond (true==true) ((Sm TTb r1.1)/\(Sm TSS (([]++r1.2)++[(Z5,(wrap64 ((r1.2.length:Int)-Z1),(wrap64 ((r1.2.length:Int)-Z1),(Z0,([],([],()))))))]))/\cond ((!(M.bL r1.1 (([]++r1.2)++[(Z5,(wrap64 ((r1.2.length:Int)-Z1),(wrap64 ((r1.2.length:Int)-Z1),(Z0,([],([],()))))))])))==false) ((Sm TTb r1.1)/\(Sm TSS (([]++r1.2)++[(Z5,(wrap64 ((r1.2.length:Int)-Z1),(wrap64 ((r1.2.length:Int)-Z1),(Z0,([],([],()))))))]))/\(LD (M.bE r1.1 (([]++r1.2)++[(Z5,(wrap64 ((r1.2.length:Int)-Z1),(wrap64 ((r1.2.length:Int)-Z1),(Z0,([],([],()))))))])) fun r6=>(Sm (Ty.sl TVS) (aB r2 (some (Z0,(r2.length:Int)))))/\(Sm (Ty.sl TVS) (aB r2 (some (Z0,(r2.length:Int)))))/\(LD ((aB r2 (some (Z0,(r2.length:Int))))++(aB r2 (some (Z0,(r2.length:Int))))) fun r7=>(Sm (Ty.sl TVS) (aB r6 (some (Z0,(r6.length:Int)))))/\(Sm (Ty.sl TVS) r7)/\((aB r6 (some (Z0,(r6.length:Int))))=r7)/\cond (true==true) (K (dB true) []) (K (dB false) [])))) (K (dB true) [])) (K (dB false) []))))) (K (dB true) []))))))):=by kernel_rfl
theorem con5_ok:aT P 5 c5:=aZ C5 func5 (kC con10_ok (kC con14_ok (kC con15_ok (kC con18_ok (kC con20_ok (kC con21_ok (kC con22_ok (kC con23_ok kN)))))))) fun args hp K h0=>by
 obtain⟨code,rfl,rfl,h_code,p0,hK⟩:=g1e h0
 have h:ok (F.kz code) (fun r=>K (dB r) []):=az (F.sn code h_code p0) hK
 refine⟨rfl,ann5,ay,(.dat Ty.bool),(aG (by kernel_rfl)),?_⟩
 ·rw[vc5]
  exact(oC h (fun _ h=>h) fun _ h=>(oG h fun _ h=>⟨p0,(oL h fun _ _ h=>(oG h fun g1 h=>(oG h fun g2 h=>(oL h fun _ _ h=>⟨g1,⟨g2,(oL h fun _ _ h=>(oG h fun g3 h=>(oG h fun _ h=>(oG h fun _ h=>(oC h (fun _ h=>h) fun b_8 h=>⟨g1,⟨g2,(oC h (fun _ h=>(oC h (fun _ h=>h) fun _ h=>(oG h fun g4 h=>(oG h fun _ h=>⟨g4,(oG h fun _ h=>⟨g1,(oG h fun _ h=>(oL h fun _ _ h=>⟨g3,(oL h fun _ _ h=>(oG h fun _ h=>(oG h fun _ h=>(oG h fun _ h=>(bC (uet (bnf b_8)) ⟨g1,(oG h fun g5 h=>(oC h (fun _ h=>⟨g1,⟨g5,(oL h fun _ _ h=>⟨g3,⟨g3,(oL h fun _ _ h=>(oG h fun _ h=>(oG h fun _ h=>(oG h fun _ h=>(bC (uet (bnf b_8)) h)))))⟩⟩)⟩⟩) fun _ h=>h))⟩)))))⟩))⟩)⟩)))) fun _ h=>h)⟩⟩)))))⟩⟩))))⟩))
end Go.AE
