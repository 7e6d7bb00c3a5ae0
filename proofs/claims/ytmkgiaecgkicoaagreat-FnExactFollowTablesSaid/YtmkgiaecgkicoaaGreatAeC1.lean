/- Contracts. -/
import Derived.Test.YtmkgiaecgkicoaaGreatAeSeat
import Derived.Test.YtmkgiaecgkicoaaGreatAeEq
import Derived.Test.YtmkgiaecgkicoaaGreatAeDel
import Derived.Test.YtmkgiaecgkicoaaGreatAeC0
namespace Go.AE
open Go Go.RowKit Go.Proofs.Tryz
set_option maxRecDepth 100000
set_option maxHeartbeats 2000000
set_option linter.unusedVariables false
def c246:Con:=⟨[.dat Ty.str,.dat Ty.str],fun args hp K=>g2 (pD Ty.str) (pD Ty.str) (fun x y=>(Sm Ty.str x)/\(Sm Ty.str y)/\K (dI (M.uN x y)) []) args hp,.plain,false⟩
abbrev C246:Ctx:=cx [(256,c256)] 20 [] 0 false
def ann246:=an [[kp 3],[kp 35],[kp 99],[kp 2115],[kp 4096],[kp 16],[kp 16],[kp 8195],[kp 16],[kp 65539],[kp 16],[kp 524288],[kp 16],[kp 16]] []
theorem vc246 (x:ByteArray) (y:ByteArray) (K:KA):vcT C246 aq ann246 f246 [.data Ty.str x,.data Ty.str y] [] (.dat au) K =
 ((Sm Ty.str x)/\(Sm Ty.str y)/\cond false (cond false (K (dI Z0) []) (K (dI (-1:Int)) [])) (cond false (K (dI Z1) []) (cond (Op.bytesLess x.toList y.toList) (K (dI (-1:Int)) []) (cond (!(Op.bytesLess x.toList y.toList||decide (x=y))) (K (dI Z1) []) (K (dI Z0) []))))):=by kernel_rfl
theorem con246_ok:aP P 246 c246:=aR C246 func246 (kC con256_ok kN) fun args hp K h0=>by
 obtain⟨x,y,rfl,rfl,h_x,h_y,hK⟩:=g2e h0
 have h:ok (F.iQ x y) (fun r=>K (dI r) []):=ak (F.qB x y h_x h_y) hK
 refine⟨rfl,ann246,aq,(.dat au),(az (by kernel_rfl)),?_⟩
 ·rw[vc246]
  exact⟨h_x,⟨h_y,(oC h (fun b_1 h=>(fJ b_1 h)) fun b_1 h=>(dN b_1 (oC h (fun _ h=>h) fun _ h=>(oC h (fun _ h=>h) fun _ h=>h))))⟩⟩
def c218:Con:=⟨[.dat aa,.dat aa],fun args hp K=>g2 (pD aa) (pD aa) (fun v w=>(Sm aa v)/\(Sm aa w)/\K (dI (M.order v w)) []) args hp,.plain,false⟩
abbrev C218:Ctx:=cx [(216,c216),(219,c219),(246,c246)] 22 [] 0 false
def ann218:=an [[.fixRow 2 aa,.fixRow 3 aa,kp 12],[kp 16]] []
theorem vc218 (v:aa.D) (w:aa.D) (K:KA):vcT C218 aq ann218 f218 [.data aa v,.data aa w] [] (.dat au) K =
 ((Sm Ty.str v.2.2.1)/\(Sm Ty.str w.2.2.1)/\(Sm (Ty.sl au) [(M.uZ v.1 w.1),(M.uZ v.2.1 w.2.1),(M.uN v.2.2.1 w.2.2.1)])/\K (dI (M.orI [(M.uZ v.1 w.1),(M.uZ v.2.1 w.2.1),(M.uN v.2.2.1 w.2.2.1)])) []):=by kernel_rfl
theorem con218_ok:aP P 218 c218:=aR C218 func218 (kC con216_ok (kC con219_ok (kC con246_ok kN))) fun args hp K h0=>by
 obtain⟨v,w,rfl,rfl,h_v,h_w,hK⟩:=g2e h0
 have h:ok (F.jO v w) (fun r=>K (dI r) []):=ak (F.sH v w h_v h_w) hK
 refine⟨rfl,ann218,aq,(.dat au),(az (by kernel_rfl)),?_⟩
 ·rw[vc218]
  exact⟨h_v.2.2.1,⟨h_w.2.2.1,(oG h fun _ h=>h)⟩⟩
def c243:Con:=⟨[.dat Ty.bool],fun args hp K=>g1 (pD Ty.bool) (fun b=>K (dI (M.bool b)) []) args hp,.plain,false⟩
abbrev C243:Ctx:=cx [] 4 [] 0 false
def ann243:=an [[kp 1],[kp 8],[kp 4],[kp 4]] []
theorem vc243 (b:Bool) (K:KA):vcT C243 aq ann243 f243 [dB b] [] (.dat au) K =
 (cond b (K (dI Z1) []) (K (dI Z0) [])):=by kernel_rfl
theorem con243_ok:aP P 243 c243:=aR C243 func243 kN fun args hp K h0=>by
 obtain⟨b,rfl,rfl,hK⟩:=g1e h0
 have h:ok (F.pO b) (fun r=>K (dI r) []):=ak (F.yd b) hK
 refine⟨rfl,ann243,aq,(.dat au),(az (by kernel_rfl)),?_⟩
 ·rw[vc243]
  exact(oC h (fun _ h=>h) fun _ h=>h)
def c238:Con:=⟨[.dat au,.dat aa,.dat aa],fun args hp K=>g3 (pD au) (pD aa) (pD aa) (fun kind a b=>(Sm aa a)/\(Sm aa b)/\K (dI (M.compare kind a b)) []) args hp,.plain,false⟩
abbrev C238:Ctx:=cx [(131,c131),(132,c132),(218,c218),(243,c243)] 71 [] 0 false
def ann238:=an [[.fixRow 4 aa,.fixRow 5 aa,kp 49],[kp 305],[kp 64],[kp 4194353],[kp 64],[kp 2147483697],[kp 64],[kp 129],[kp 64]] []
abbrev S238_0 (kind:Int) (a:aa.D) (b:aa.D) (K:KA):Prop:=cond ((decide (kind=Z4))==true) (K (dI (M.bool (decide ((M.order a b)<=Z0)))) []) (K (dI (M.bool false)) [])
abbrev S238_1 (kind:Int) (a:aa.D) (b:aa.D) (K:KA):Prop:=cond ((decide (kind=Z3))==true) (cond ((decide ((M.order a b)<Z0))==false) (S238_0 kind a b K) (K (dI (M.bool true)) [])) (S238_0 kind a b K)
abbrev S238_2 (kind:Int) (a:aa.D) (b:aa.D) (K:KA):Prop:=cond ((decide (kind=Z2))==true) (cond ((!decide ((M.order a b)=Z0))==false) (S238_1 kind a b K) (K (dI (M.bool true)) [])) (S238_1 kind a b K)
theorem vc238 (kind:Int) (a:aa.D) (b:aa.D) (K:KA):vcT C238 aq ann238 f238 [dI kind,.data aa a,.data aa b] [] (.dat au) K =
 (cond ((!(M.inR kind Z1 Z4))==false) ((Sm aa a)/\cond ((!(M.aO a))==false) ((Sm aa b)/\cond (!(M.aO b)) (K (dI (-1:Int)) []) (cond ((decide (a.1=Z0))==false) (cond (decide (b.1=Z0)) (K (dI Z2) []) (cond (!decide (a.1=b.1)) (K (dI (-1:Int)) []) ((Sm aa a)/\(Sm aa b)/\cond ((decide (kind=Z1))==true) (cond ((decide ((M.order a b)=Z0))==false) (S238_2 kind a b K) (K (dI (M.bool true)) [])) (S238_2 kind a b K)))) (K (dI Z2) []))) (K (dI (-1:Int)) [])) (K (dI (-1:Int)) [])):=by kernel_rfl
theorem con238_ok:aP P 238 c238:=aR C238 func238 (kC con131_ok (kC con132_ok (kC con218_ok (kC con243_ok kN)))) fun args hp K h0=>by
 obtain⟨kind,a,b,rfl,rfl,h_a,h_b,hK⟩:=g3e h0
 have h:ok (F.qs kind a b) (fun r=>K (dI r) []):=ak (F.xW kind a b h_a h_b) hK
 refine⟨rfl,ann238,aq,(.dat au),(az (by kernel_rfl)),?_⟩
 ·rw[vc238]
  exact(oC h (fun _ h=>⟨h_a,(oC h (fun _ h=>⟨h_b,(oC h (fun _ h=>h) fun _ h=>(oC h (fun _ h=>(oC h (fun _ h=>h) fun _ h=>(oC h (fun _ h=>h) fun _ h=>⟨h_a,⟨h_b,(oC h (fun b_7 h=>(oC h (fun _ h=>(dN (uef (oV (bet b_7) (by decide))) (dN (uef (oV (bet b_7) (by decide))) (dN (uef (oV (bet b_7) (by decide))) h)))) fun _ h=>h)) fun _ h=>(oC h (fun b_19 h=>(oC h (fun _ h=>(dN (uef (oV (bet b_19) (by decide))) (dN (uef (oV (bet b_19) (by decide))) h))) fun _ h=>h)) fun _ h=>(oC h (fun b_25 h=>(oC h (fun _ h=>(dN (uef (oV (bet b_25) (by decide))) h)) fun _ h=>h)) fun _ h=>(oC h (fun _ h=>h) fun _ h=>h))))⟩⟩))) fun _ h=>h))⟩) fun _ h=>h)⟩) fun _ h=>h)
def c260:Con:=⟨[.dat au],fun args hp K=>g1 (pD au) (fun n=>K (dB (M.inR n 0 2)) []) args hp,.plain,false⟩
abbrev C260:Ctx:=cx [(132,c132)] 5 [] 0 false
def ann260:=an [[kp 1],[kp 4]] []
theorem vc260 (n:Int) (K:KA):vcT C260 aq ann260 f260 [dI n] [] (.dat Ty.bool) K =
 (K (dB (M.inR n Z0 Z2)) []):=by kernel_rfl
theorem con260_ok:aP P 260 c260:=aR C260 func260 (kC con132_ok kN) fun args hp K h0=>by
 obtain⟨n,rfl,rfl,hK⟩:=g1e h0
 have h:ok (F.vg n) (fun r=>K (dB r) []):=ak (F.xO n) hK
 refine⟨rfl,ann260,aq,(.dat Ty.bool),(az (by kernel_rfl)),?_⟩
 ·rw[vc260]
  exact h
def c254:Con:=⟨[.dat au,.dat au,.dat au],fun args hp K=>g3 (pD au) (pD au) (pD au) (fun a b alone=>(0<=alone/\alone<=1)/\K (dI (M.fold a b alone)) []) args hp,.plain,false⟩
abbrev C254:Ctx:=cx [(260,c260)] 35 [] 0 false
def ann254:=an [[kp 7],[kp 135],[kp 64],[kp 65543],[kp 64],[kp 67108868],[kp 64],[kp 64]] []
theorem vc254 (a:Int) (b:Int) (alone:Int) (K:KA):vcT C254 aq ann254 f254 [dI a,dI b,dI alone] [] (.dat au) K =
 (cond ((!(M.inR a 0 2))==false) (cond (!(M.inR b 0 2)) (K (dI (-1:Int)) []) (cond ((decide (a=alone))==false) (cond (decide (b=alone)) (K (dI alone) []) (cond ((decide (a=Z2))==false) (cond (decide (b=Z2)) (K (dI Z2) []) (K (dI (wrap64 (Z1-alone))) [])) (K (dI Z2) []))) (K (dI alone) []))) (K (dI (-1:Int)) [])):=by kernel_rfl
theorem con254_ok:aP P 254 c254:=aR C254 func254 (kC con260_ok kN) fun args hp K h0=>by
 obtain⟨a,b,alone,rfl,rfl,p0,hK⟩:=g3e h0
 have h:ok (F.wo a b alone) (fun r=>K (dI r) []):=ak (F.BU a b alone p0) hK
 refine⟨rfl,ann254,aq,(.dat au),(az (by kernel_rfl)),?_⟩
 ·rw[vc254]
  exact(oC h (fun _ h=>(oC h (fun _ h=>h) fun _ h=>(oC h (fun _ h=>(oC h (fun _ h=>h) fun _ h=>(oC h (fun _ h=>(oC h (fun _ h=>h) fun _ h=>h)) fun _ h=>h))) fun _ h=>h))) fun _ h=>h)
def c239:Con:=⟨[.dat au,.dat au],fun args hp K=>g2 (pD au) (pD au) (fun a b=>K (dI (M.rj a b)) []) args hp,.plain,false⟩
abbrev C239:Ctx:=cx [(254,c254)] 8 [] 0 false
def ann239:=an [[kp 3],[kp 16]] []
theorem vc239 (a:Int) (b:Int) (K:KA):vcT C239 aq ann239 f239 [dI a,dI b] [] (.dat au) K =
 ((0<=Z0/\Z0<=1)/\K (dI (M.fold a b Z0)) []):=by kernel_rfl
theorem con239_ok:aP P 239 c239:=aR C239 func239 (kC con254_ok kN) fun args hp K h0=>by
 obtain⟨a,b,rfl,rfl,hK⟩:=g2e h0
 have h:ok (F.tQ a b) (fun r=>K (dI r) []):=ak (F.AF a b) hK
 refine⟨rfl,ann239,aq,(.dat au),(az (by kernel_rfl)),?_⟩
 ·rw[vc239]
  exact(oG h fun _ h=>h)
def c240:Con:=⟨[.dat aa],fun args hp K=>g1 (pD aa) (fun v=>(Sm aa v)/\K (dI (M.bU v)) []) args hp,.plain,false⟩
abbrev C240:Ctx:=cx [(131,c131)] 17 [] 0 false
def ann240:=an [[.fixRow 1 aa,kp 2],[kp 10],[kp 4],[kp 130],[kp 4],[kp 2050],[kp 4],[kp 4]] []
theorem vc240 (v:aa.D) (K:KA):vcT C240 aq ann240 f240 [.data aa v] [] (.dat au) K =
 ((Sm aa v)/\cond (!(M.aO v)) (K (dI (-1:Int)) []) (cond (decide (v.1=Z0)) (K (dI Z2) []) (cond (decide (v.1=Z3)) (K (dI v.2.1) []) (K (dI (-1:Int)) [])))):=by kernel_rfl
theorem con240_ok:aP P 240 c240:=aR C240 func240 (kC con131_ok kN) fun args hp K h0=>by
 obtain⟨v,rfl,rfl,h_v,hK⟩:=g1e h0
 have h:ok (F.qf v) (fun r=>K (dI r) []):=ak (F.yb v h_v) hK
 refine⟨rfl,ann240,aq,(.dat au),(az (by kernel_rfl)),?_⟩
 ·rw[vc240]
  exact⟨h_v,(oC h (fun _ h=>h) fun _ h=>(oC h (fun _ h=>h) fun _ h=>(oC h (fun _ h=>h) fun _ h=>h)))⟩
def c241:Con:=⟨[.dat au,.dat au],fun args hp K=>g2 (pD au) (pD au) (fun a b=>K (dI (M.zE a b)) []) args hp,.plain,false⟩
abbrev C241:Ctx:=cx [(254,c254)] 8 [] 0 false
def ann241:=an [[kp 3],[kp 16]] []
theorem vc241 (a:Int) (b:Int) (K:KA):vcT C241 aq ann241 f241 [dI a,dI b] [] (.dat au) K =
 ((0<=Z1/\Z1<=1)/\K (dI (M.fold a b Z1)) []):=by kernel_rfl
theorem con241_ok:aP P 241 c241:=aR C241 func241 (kC con254_ok kN) fun args hp K h0=>by
 obtain⟨a,b,rfl,rfl,hK⟩:=g2e h0
 have h:ok (F.wK a b) (fun r=>K (dI r) []):=ak (F.Co a b) hK
 refine⟨rfl,ann241,aq,(.dat au),(az (by kernel_rfl)),?_⟩
 ·rw[vc241]
  exact(oG h fun _ h=>h)
def c242:Con:=⟨[.dat au],fun args hp K=>g1 (pD au) (fun a=>K (dI (M.rK a)) []) args hp,.plain,false⟩
abbrev C242:Ctx:=cx [] 10 [] 0 false
def ann242:=an [[kp 1],[kp 8],[kp 24],[kp 4],[kp 72],[kp 4],[kp 256],[kp 4],[kp 4]] []
theorem vc242 (a:Int) (K:KA):vcT C242 aq ann242 f242 [dI a] [] (.dat au) K =
 (cond (decide (a=Z0)) (K (dI Z1) []) (cond (decide (a=Z1)) (K (dI Z0) []) (cond (decide (a=Z2)) (K (dI Z2) []) (K (dI (-1:Int)) [])))):=by kernel_rfl
theorem con242_ok:aP P 242 c242:=aR C242 func242 kN fun args hp K h0=>by
 obtain⟨a,rfl,rfl,hK⟩:=g1e h0
 have h:ok (F.tu a) (fun r=>K (dI r) []):=ak (F.AD a) hK
 refine⟨rfl,ann242,aq,(.dat au),(az (by kernel_rfl)),?_⟩
 ·rw[vc242]
  exact(oC h (fun _ h=>h) fun _ h=>(oC h (fun _ h=>h) fun _ h=>(oC h (fun _ h=>h) fun _ h=>h)))
def c212:Con:=⟨[.dat ax,.dat TVS,.lent aa],fun args hp K=>g3 (pD ax) (pD TVS) (pB aa) (fun p row inp=>(Sm ax p)/\(Sm TVS row)/\(Sm TVS inp)/\((inp.length:Int)=M.takes p)/\(M.nr p row.length)/\(1<=p.1/\p.1<=8)/\(LD (M.gU p row inp) fun r=>K (.data aa r) [])) args hp,.plain,false⟩
abbrev C212:Ctx:=cx [(131,c131),(170,c170),(238,c238),(239,c239),(240,c240),(241,c241),(242,c242),(243,c243)] 103 [] 0 false
def ann212:=an [[.fixRow 3 ax,kp 78],[kp 590],[kp 1614],[kp 64],[kp 16974],[kp 64],[kp 2097740],[.fixRow 7 aa,kp 196],[.keep [6,7,49]],[kp 64],[kp 64],[kp 4503599627371084],[kp 64],[.keep [2,6,9,64]],[kp 64],[.keep [2,6,9,76]],[kp 64],[.keep [2,6,88]],[kp 64],[kp 64]] []
theorem vc212 (p:ax.D) (row:LV) (inp:LV) (K:KA):vcT C212 aq ann212 f212 [.data ax p,.data TVS row,.brw aa inp] [] (.dat aa) K =
 (cond (decide (p.1=Z1)) (K (.data aa p.2.2.1) []) (cond (decide (p.1=Z2)) ((0<=p.2.1)/\(p.2.1<(row.length:Int))/\K (.data aa (nV row p.2.1)) []) (cond (decide (p.1=Z3)) ((0<=Z0)/\(Z0<(inp.length:Int))/\(0<=Z1)/\(Z1<(inp.length:Int))/\(0<=Z0)/\(Z0<(inp.length:Int))/\cond ((decide ((nV inp Z0).1=Z0))==false) ((0<=Z1)/\(Z1<(inp.length:Int))/\cond ((decide ((nV inp Z1).1=Z0))==false) ((Sm aa (Z1,(wrap64 ((nV inp Z0).2.1+(nV inp Z1).2.1),((⟨#[]⟩:ByteArray),()))))/\cond (!(M.aO (Z1,(wrap64 ((nV inp Z0).2.1+(nV inp Z1).2.1),((⟨#[]⟩:ByteArray),()))))) (K (.data aa (Z0,(Z0,((⟨#[]⟩:ByteArray),())))) []) (K (.data aa (Z1,(wrap64 ((nV inp Z0).2.1+(nV inp Z1).2.1),((⟨#[]⟩:ByteArray),())))) [])) (K (.data aa (Z0,(Z0,((⟨#[]⟩:ByteArray),())))) [])) (K (.data aa (Z0,(Z0,((⟨#[]⟩:ByteArray),())))) [])) (cond (decide (p.1=Z4)) ((0<=Z0)/\(Z0<(inp.length:Int))/\(0<=Z1)/\(Z1<(inp.length:Int))/\(Sm aa (nV inp Z0))/\(Sm aa (nV inp Z1))/\(LD (M.valueOf (M.compare p.2.1 (nV inp Z0) (nV inp Z1))) fun r1=>K (.data aa r1) [])) (cond (decide (p.1=Z5)) ((0<=Z0)/\(Z0<(inp.length:Int))/\(0<=Z1)/\(Z1<(inp.length:Int))/\(Sm aa (nV inp Z0))/\(Sm aa (nV inp Z1))/\(LD (M.valueOf (M.rj (M.bU (nV inp Z0)) (M.bU (nV inp Z1)))) fun r2=>K (.data aa r2) [])) (cond (decide (p.1=Z6)) ((0<=Z0)/\(Z0<(inp.length:Int))/\(0<=Z1)/\(Z1<(inp.length:Int))/\(Sm aa (nV inp Z0))/\(Sm aa (nV inp Z1))/\(LD (M.valueOf (M.zE (M.bU (nV inp Z0)) (M.bU (nV inp Z1)))) fun r3=>K (.data aa r3) [])) (cond (decide (p.1=(7:Int))) ((0<=Z0)/\(Z0<(inp.length:Int))/\(Sm aa (nV inp Z0))/\(LD (M.valueOf (M.rK (M.bU (nV inp Z0)))) fun r4=>K (.data aa r4) [])) ((0<=Z0)/\(Z0<(inp.length:Int))/\(LD (M.valueOf (M.bool (decide ((nV inp Z0).1=Z0)))) fun r5=>K (.data aa r5) []))))))))):=by kernel_rfl
theorem con212_ok:aP P 212 c212:=aR C212 func212 (kC con131_ok (kC con170_ok (kC con238_ok (kC con239_ok (kC con240_ok (kC con241_ok (kC con242_ok (kC con243_ok kN)))))))) fun args hp K h0=>by
 obtain⟨p,row,inp,rfl,rfl,h_p,h_row,h_inp,p0,p1,p2,hK⟩:=g3e h0
 have h:ok (F.kX p row inp) (fun r=>K (.data aa r) []):=ak (F.tE p row inp h_p h_row h_inp p0 p1 p2) (hK _ rfl)
 refine⟨rfl,ann212,aq,(.dat aa),(az (by kernel_rfl)),?_⟩
 ·rw[vc212]
  exact(oC h (fun _ h=>h) fun _ h=>(oC h (fun _ h=>(oG h fun _ h=>(oG h fun _ h=>h))) fun _ h=>(oC h (fun _ h=>⟨(Int.natCast_nonneg 0),(oG h fun g1 h=>⟨(Int.natCast_nonneg 1),(oG h fun g2 h=>⟨(Int.natCast_nonneg 0),⟨g1,(oC h (fun _ h=>⟨(Int.natCast_nonneg 1),⟨g2,(oC h (fun _ h=>⟨(show Sm aa _ from⟨trivial,(show Sm (Ty.pair au (Ty.pair Ty.str Ty.unit)) _ from⟨trivial,(show Sm (Ty.pair Ty.str Ty.unit) _ from⟨(Nat.le_of_ble_eq_true rfl),trivial⟩)⟩)⟩),(oC h (fun _ h=>h) fun _ h=>h)⟩) fun _ h=>h)⟩⟩) fun _ h=>h)⟩⟩)⟩)⟩) fun _ h=>(oC h (fun _ h=>⟨(Int.natCast_nonneg 0),(oG h fun _ h=>⟨(Int.natCast_nonneg 1),(oG h fun _ h=>⟨(ay h_inp Z0),⟨(ay h_inp Z1),(oL h fun _ _ h=>h)⟩⟩)⟩)⟩) fun _ h=>(oC h (fun _ h=>⟨(Int.natCast_nonneg 0),(oG h fun _ h=>⟨(Int.natCast_nonneg 1),(oG h fun _ h=>⟨(ay h_inp Z0),⟨(ay h_inp Z1),(oL h fun _ _ h=>h)⟩⟩)⟩)⟩) fun _ h=>(oC h (fun _ h=>⟨(Int.natCast_nonneg 0),(oG h fun _ h=>⟨(Int.natCast_nonneg 1),(oG h fun _ h=>⟨(ay h_inp Z0),⟨(ay h_inp Z1),(oL h fun _ _ h=>h)⟩⟩)⟩)⟩) fun _ h=>(oC h (fun _ h=>⟨(Int.natCast_nonneg 0),(oG h fun _ h=>⟨(ay h_inp Z0),(oL h fun _ _ h=>h)⟩)⟩) fun _ h=>⟨(Int.natCast_nonneg 0),(oG h fun _ h=>(oL h fun _ _ h=>h))⟩)))))))
def c169:Con:=⟨[.dat TVS,.dat TPS],fun args hp K=>g2 (pD TVS) (pD TPS) (fun row e=>(Sm TVS row)/\(Sm TPS e)/\(M.jB row.length e)/\(LD (M.ep row e) fun r=>K (.data aa r) [])) args hp,.plain,false⟩
abbrev C169:Ctx:=cx [(165,c165),(212,c212)] 37 [] 0 false
def ann169:=an [[kp 19],[kp 51],[kp 7217],[kp 15409],[.fixRow 7 ax,kp 7345],[kp 7601],[.fixRow 9 aa,kp 7985],[kp 7217],[kp 7217],[kp 16]] [[kp 48]]
abbrev s169_0 (row:LV) (e:LPt) (i0:Int) (v0:LV):St:=⟨[(0,.data TVS row),(4,.ptr 4 0),(5,.own 5 none),(10,.data TPS e),(11,dI (e.length:Int)),(12,dI i0)],[(4,.box [dI Z0,dI Z0,.data Ty.str (⟨#[]⟩:ByteArray)]),(5,.arr .sh aa v0)]⟩
abbrev LP169_0 (row:LV) (e:LPt) (m:Nat) (st_:St) (K:KX):Prop:=True/\bO (t:=ax) (s169_0 row e) e (F.dG row e) (fun v0:LV=>True) (aU (fun v0:LV=>True->K (.exit 0) (⟨[(4,.ptr 4 0),(5,.own 5 none)],[(4,.box [dI Z0,dI Z0,.data Ty.str (⟨#[]⟩:ByteArray)]),(5,.arr .sh aa v0)]⟩:St)) (fun _=>False)) m st_
def L169 (row:LV) (e:LPt):aX:=lp1 0 (LP169_0 row e)
theorem vc169 (row:LV) (e:LPt) (K:KA):vcT C169 (L169 row e) ann169 f169 [.data TVS row,.data TPS e] [] (.dat aa) K =
 (∃m_,True/\bO (t:=ax) (s169_0 row e) e (F.dG row e) (fun v0:LV=>True) (aU (fun v0:LV=>True->(0<=Z0)/\(Z0<(v0.length:Int))/\K (.data aa (nV v0 Z0)) []) (fun _=>False)) m_ (s169_0 row e Z0 [])):=by kernel_rfl
abbrev S169l0_0 (row:LV) (e:LPt)  (i0:Int) (v0:LV) (m:Nat) (K:KX):Prop:=(Sm ax (nP e i0))/\(Sm TVS row)/\(Sm TVS (aB v0 (some (wrap64 ((v0.length:Int)-(M.takes (nP e i0))),(v0.length:Int)))))/\(((aB v0 (some (wrap64 ((v0.length:Int)-(M.takes (nP e i0))),(v0.length:Int)))).length:Int)=M.takes (nP e i0))/\(M.nr (nP e i0) row.length)/\(1<=(nP e i0).1/\(nP e i0).1<=8)/\(LD (M.gU (nP e i0) row (aB v0 (some (wrap64 ((v0.length:Int)-(M.takes (nP e i0))),(v0.length:Int))))) fun r1=>(0<=Z0)/\(Z0<=wrap64 ((v0.length:Int)-(M.takes (nP e i0))))/\(wrap64 ((v0.length:Int)-(M.takes (nP e i0)))<=(v0.length:Int))/\(wrap64 ((v0.length:Int)-(M.takes (nP e i0)))=wrap64 ((v0.length:Int)-(M.takes (nP e i0))))/\(Z0=0)/\(((wrap64 ((v0.length:Int)-(M.takes (nP e i0)))).toNat+[r1].length) * 32<=lim)/\(nxT (LP169_0 row e) m K (s169_0 row e (wrap64 (i0+Z1)) (v0.take (wrap64 ((v0.length:Int)-(M.takes (nP e i0)))).toNat++[r1]))))
theorem lvc169_0 (row:LV) (e:LPt)  (i0:Int) (v0:LV) (m:Nat) (K:KX):lvT C169 (L169 row e) ann169 f169 0 0 (s169_0 row e i0 v0) m K =
 (cond (decide (i0<(e.length:Int))) ((0<=i0)/\(i0<(e.length:Int))/\(Sm ax (nP e i0))/\(0<=wrap64 ((v0.length:Int)-(M.takes (nP e i0))))/\(wrap64 ((v0.length:Int)-(M.takes (nP e i0)))<=(v0.length:Int))/\((v0.length:Int)<=(v0.length:Int))/\((v0.length:Int)=(v0.length:Int))/\Q0 (S169l0_0  row e i0 v0 m K)) (K (.exit 0) (⟨[(4,.ptr 4 0),(5,.own 5 none)],[(4,.box [dI Z0,dI Z0,.data Ty.str (⟨#[]⟩:ByteArray)]),(5,.arr .sh aa v0)]⟩:St))):=by kernel_rfl
theorem con169_ok:aP P 169 c169:=aR C169 func169 (kC con165_ok (kC con212_ok kN)) fun args hp K h0=>by
 obtain⟨row,e,rfl,rfl,h_row,h_e,p0,hK⟩:=g2e h0
 have h:ok (F.mz row e) (fun r=>K (.data aa r) []):=ak (F.vC row e h_row h_e p0) (hK _ rfl)
 refine⟨rfl,ann169,(L169 row e),(.dat aa),(aL (i0:=0) (by kernel_rfl) ?_),?_⟩
 ·rintro _ _ K ⟨hc0,i0,v0,rfl,hl0,rfl,hv0,h⟩
  exact cast (lvc169_0 _ _ _ _ _ _).symm (bw (t:=ax) hl0 h (fun ht0 h=>⟨hl0,⟨ht0,⟨(ay h_e i0),(oG h fun _ h=>(oG h fun g1 h=>⟨(Int.le_refl _),⟨rfl,(q0 (⟨(ay h_e i0),⟨h_row,(oG h fun _ h=>(oG h fun _ h=>(oG h fun _ h=>(oG h fun _ h=>(oL h fun _ _ h=>⟨(Int.natCast_nonneg 0),(oG h fun _ h=>⟨g1,⟨rfl,⟨rfl,(oG h fun _ h=>(br (t:=ax) (fun _ hm=>⟨hc0,hm⟩) _ rfl hl0 ht0 (aS h_e) trivial h))⟩⟩⟩)⟩)))))⟩⟩))⟩⟩))⟩⟩⟩) fun h=>(h trivial))
 ·rw[vc169]
  exact(bp (t:=ax) (fun m hm=>⟨trivial,hm⟩) _ rfl trivial (aI h (fun v0 h hv0=>⟨(Int.natCast_nonneg 0),(oG h fun _ h=>h)⟩) (fun _ h=>h.elim)))
def c201:Con:=⟨[.dat (Ty.sl au),.any],fun args hp K=>g2 (pD (Ty.sl au)) (pR TVS) (fun list key=>(Sm (Ty.sl au) list)/\(Sm TVS key)/\(LD (list,key) fun r=>K (.fn 202 [.ref (.data (Ty.sl au) r.1),.ref (.data TVS r.2)]) [])) args hp,.plain,false⟩
abbrev C201:Ctx:=cx [(202,c202)] 5 [] 0 false
def ann201:=an [[.fixBox 2,kp 6],[kp 8]] []
theorem vc201 (list:LI) (key:LV) (K:KA):vcT C201 aq ann201 f201 [.data (Ty.sl au) list,.ref (.data TVS key)] [] .raw K =
 (K (.fn 202 [.ref (.data (Ty.sl au) list),.ref (.data TVS key)]) []):=by kernel_rfl
theorem con201_ok:aP P 201 c201:=aR C201 func201 (kC con202_ok kN) fun args hp K h0=>by
 obtain⟨list,key,rfl,rfl,h_list,h_key,hK⟩:=g2e h0
 have h:ok (F.mC list key) (fun r=>K (.fn 202 [.ref (.data (Ty.sl au) r.1),.ref (.data TVS r.2)]) []):=ak (F.qA list key h_list h_key) (hK _ rfl)
 refine⟨rfl,ann201,aq,.raw,(az (by kernel_rfl)),?_⟩
 ·rw[vc201]
  exact h
def c155:Con:=⟨[.dat TBond,.dat TTb,.dat au],fun args hp K=>g3 (pD TBond) (pD TTb) (pD au) (fun b tables n=>(Sm TBond b)/\(Sm TTb tables)/\((M.aA tables&&M.aN tables b)=true)/\(0<=n/\n<((M.dZ tables b).length:Int))/\K (dB (M.breaks tables b n)) []) args hp,.plain,false⟩
abbrev C155:Ctx:=cx [(138,c138),(169,c169),(170,c170),(198,c198),(199,c199),(201,c201)] 63 [] 0 false
def ann155:=an [[.fixRow 3 TBond,kp 14],[kp 142],[kp 2097294],[kp 64],[.fixBox 8,kp 270],[kp 8589934862],[kp 64],[kp 526],[kp 137438953998],[kp 64],[kp 64]] []
theorem vc155 (b:TBond.D) (tables:LTb) (n:Int) (K:KA):vcT C155 aq ann155 f155 [.data TBond b,.data TTb tables,dI n] [] (.dat Ty.bool) K =
 ((0<=b.2.1)/\(b.2.1<(tables.length:Int))/\(0<=n)/\(n<((nT tables b.2.1).2.1.length:Int))/\cond (decide (b.1=Z3)) ((Sm TVS (nth (t:=TVS) (nT tables b.2.1).2.1 n))/\(Sm TPS b.2.2.2.2.2.2.1)/\(M.jB (nth (t:=TVS) (nT tables b.2.1).2.1 n).length b.2.2.2.2.2.2.1)/\(LD (M.ep (nth (t:=TVS) (nT tables b.2.1).2.1 n) b.2.2.2.2.2.2.1) fun r1=>(LD (M.valueOf Z0) fun r2=>K (dB (Ty.beq aa r1 r2)) []))) ((Sm TVS (nth (t:=TVS) (nT tables b.2.1).2.1 n))/\(Sm (Ty.sl au) b.2.2.1)/\(M.eJ (nth (t:=TVS) (nT tables b.2.1).2.1 n) b.2.2.1)/\(LD (M.taken (nth (t:=TVS) (nT tables b.2.1).2.1 n) b.2.2.1) fun r3=>(((Sm TVS r3)/\cond (List.any r3 (fun e=>decide (e.1=0))) (K (dB false) []) (cond (decide (b.1=Z1)) ((0<=b.2.1)/\(b.2.1<(tables.length:Int))/\(0<=Z0)/\(Z0<=n)/\(n<=((nT tables b.2.1).2.1.length:Int))/\(n=n)/\(Sm (Ty.sl au) b.2.2.1)/\(Sm TVS r3)/\(LD (b.2.2.1,r3) fun r4=>(False\/((Sm (Ty.sl TVS) (aB (nT tables b.2.1).2.1 (some (Z0,n))))/\(Sm (Ty.sl au) r4.1)/\(Sm TVS r4.2)/\(∀e∈(aB (nT tables b.2.1).2.1 (some (Z0,n))),M.eJ e r4.1)/\K (dB (List.any (aB (nT tables b.2.1).2.1 (some (Z0,n))) (fun e=>decide (M.taken e r4.1=r4.2)))) [])))) ((0<=b.2.2.2.1)/\(b.2.2.2.1<(tables.length:Int))/\(Sm (Ty.sl au) b.2.2.2.2.1)/\(Sm TVS r3)/\(LD (b.2.2.2.2.1,r3) fun r5=>(False\/((Sm (Ty.sl TVS) (nT tables b.2.2.2.1).2.1)/\(Sm (Ty.sl au) r5.1)/\(Sm TVS r5.2)/\(∀e∈(nT tables b.2.2.2.1).2.1,M.eJ e r5.1)/\K (dB (!(List.any (nT tables b.2.2.2.1).2.1 (fun e=>decide (M.taken e r5.1=r5.2))))) []))))))\/False)))):=by kernel_rfl
theorem con155_ok:aP P 155 c155:=aR C155 func155 (kC con138_ok (kC con169_ok (kC con170_ok (kC con198_ok (kC con199_ok (kC con201_ok kN)))))) fun args hp K h0=>by
 obtain⟨b,tables,n,rfl,rfl,h_b,h_tables,p0,p1,hK⟩:=g3e h0
 have h:ok (F.jZ b tables n) (fun r=>K (dB r) []):=ak (F.sG b tables n h_b h_tables p0 p1) hK
 refine⟨rfl,ann155,aq,(.dat Ty.bool),(az (by kernel_rfl)),?_⟩
 ·rw[vc155]
  exact(oG h fun g1 h=>(oG h fun g2 h=>(oG h fun _ h=>(oG h fun _ h=>(oC h (fun _ h=>⟨(ay (ay h_tables b.2.1).2.1 n),⟨h_b.2.2.2.2.2.2.1,(oG h fun _ h=>(oL h fun _ _ h=>(oL h fun _ _ h=>h)))⟩⟩) fun _ h=>⟨(ay (ay h_tables b.2.1).2.1 n),⟨h_b.2.2.1,(oG h fun _ h=>(oL h fun _ er3 h=>(Or.inl (⟨(gG er3 (M.fS (ay (ay h_tables b.2.1).2.1 n) h_b.2.2.1)),(oC h (fun _ h=>h) fun _ h=>(oC h (fun _ h=>⟨g1,⟨g2,⟨(Int.natCast_nonneg 0),(oG h fun _ h=>(oG h fun _ h=>⟨rfl,⟨h_b.2.2.1,⟨(gG er3 (M.fS (ay (ay h_tables b.2.1).2.1 n) h_b.2.2.1)),(oL h fun _ er4 h=>(Or.inr (⟨(zQ (ay h_tables b.2.1).2.1 _),⟨(by rw[er4];exact h_b.2.2.1),⟨(by rw[er4];exact(gG er3 (M.fS (ay (ay h_tables b.2.1).2.1 n) h_b.2.2.1))),(oG h fun _ h=>h)⟩⟩⟩)))⟩⟩⟩))⟩⟩⟩) fun _ h=>(oG h fun _ h=>(oG h fun _ h=>⟨h_b.2.2.2.2.1,⟨(gG er3 (M.fS (ay (ay h_tables b.2.1).2.1 n) h_b.2.2.1)),(oL h fun _ er5 h=>(Or.inr (⟨(ay h_tables b.2.2.2.1).2.1,⟨(by rw[er5];exact h_b.2.2.2.2.1),⟨(by rw[er5];exact(gG er3 (M.fS (ay (ay h_tables b.2.1).2.1 n) h_b.2.2.1))),(oG h fun _ h=>h)⟩⟩⟩)))⟩⟩))))⟩))))⟩⟩)))))
def c86:Con:=⟨[.dat TBond,.dat TTb],fun args hp K=>g2 (pD TBond) (pD TTb) (fun b tables=>(Sm TBond b)/\(Sm TTb tables)/\((M.aA tables&&M.aN tables b)=true)/\K (dI (M.broken tables b)) []) args hp,.bor,false⟩
abbrev C86:Ctx:=cx [(155,c155)] 22 [] 0 false
def ann86:=an [[.fixRow 2 TBond,kp 6],[kp 12294],[kp 28678],[kp 12326],[kp 536614],[kp 16],[kp 12294],[kp 16]] [[kp 0]]
abbrev s86_0 (b:TBond.D) (tables:LTb) (i0:Int) (v0:Unit):St:=⟨[(1,.data TTb tables),(2,.adr TBond b),(12,dI ((nT tables b.2.1).2.1.length:Int)),(13,dI i0)],[]⟩
abbrev LP86_0 (b:TBond.D) (tables:LTb) (m:Nat) (st_:St) (K:KX):Prop:=True/\bg (s86_0 b tables) Z0 ((nT tables b.2.1).2.1.length:Int) (F.eT b tables) (fun v0:Unit=>True) (aU (fun v0:Unit=>True->K (.exit 0) (⟨[],[]⟩:St)) (fun q0:Int=>K .ret (⟨[(4,dI q0)],[]⟩:St))) m st_
def L86 (b:TBond.D) (tables:LTb):aX:=lp1 0 (LP86_0 b tables)
theorem vc86 (b:TBond.D) (tables:LTb) (K:KA):vcT C86 (L86 b tables) ann86 f86 [.data TBond b,.data TTb tables] [] (.dat au) K =
 ((0<=b.2.1)/\(b.2.1<(tables.length:Int))/\(∃m_,True/\bg (s86_0 b tables) Z0 ((nT tables b.2.1).2.1.length:Int) (F.eT b tables) (fun v0:Unit=>True) (aU (fun v0:Unit=>True->K (dI (-1:Int)) []) (fun q0:Int=>K (dI q0) [])) m_ (s86_0 b tables Z0 ()))):=by kernel_rfl
theorem lvc86_0 (b:TBond.D) (tables:LTb)  (i0:Int) (v0:Unit) (m:Nat) (K:KX):lvT C86 (L86 b tables) ann86 f86 0 0 (s86_0 b tables i0 v0) m K =
 (cond (decide (i0<((nT tables b.2.1).2.1.length:Int))) ((Sm TBond b)/\(Sm TTb tables)/\((M.aA tables&&M.aN tables b)=true)/\(0<=i0/\i0<((M.dZ tables b).length:Int))/\cond (M.breaks tables b i0) (K .ret (⟨[(4,dI i0)],[]⟩:St)) (nxT (LP86_0 b tables) m K (s86_0 b tables (wrap64 (i0+Z1)) ()))) (K (.exit 0) (⟨[],[]⟩:St))):=by kernel_rfl
theorem con86_ok:aP P 86 c86:=aR C86 func86 (kC con155_ok kN) fun args hp K h0=>by
 obtain⟨b,tables,rfl,rfl,h_b,h_tables,p0,hK⟩:=g2e h0
 have h:ok (F.jK b tables) (fun r=>K (dI r) []):=ak (F.sC b tables h_b h_tables p0) hK
 refine⟨rfl,ann86,(L86 b tables),(.dat au),(aL (i0:=0) (by kernel_rfl) ?_),?_⟩
 ·rintro _ _ K ⟨hc0,i0,v0,rfl,hl0,rfl,hv0,h⟩
  exact cast (lvc86_0 _ _ _ _ _ _).symm (aM h (fun ht0 h=>⟨h_b,⟨h_tables,(oG h fun _ h=>(oG h fun _ h=>(oC h (fun _ h=>h) fun _ h=>(aG (fun _ hm=>⟨hc0,hm⟩) _ rfl hl0 dS ht0 (aS (ay h_tables b.2.1).2.1) trivial h))))⟩⟩) fun h=>(h trivial))
 ·rw[vc86]
  exact(oG h fun _ h=>(oG h fun _ h=>(aE (fun m hm=>⟨trivial,hm⟩) Z0 _ rfl (Int.natCast_nonneg 0) trivial (aI h (fun v0 h hv0=>h) (fun q0 h=>h)))))
def c85:Con:=⟨[.dat TBond,.any],fun args hp K=>g2 (pD TBond) (pR TTb) (fun b out=>(Sm TBond b)/\(Sm TTb out)/\((M.aA out&&M.aN out b)=true)/\K (dB (M.loose out b)) []) args hp,.plain,false⟩
abbrev C85:Ctx:=cx [(86,c86)] 12 [] 0 false
def ann85:=an [[.fixRow 2 TBond,kp 6],[kp 8]] []
theorem vc85 (b:TBond.D) (out:LTb) (K:KA):vcT C85 aq ann85 f85 [.data TBond b,.ref (.data TTb out)] [] (.dat Ty.bool) K =
 (cond (b.2.2.2.2.2.1==true) ((Sm TBond b)/\(Sm TTb out)/\((M.aA out&&M.aN out b)=true)/\K (dB (decide (Z0<=(M.broken out b)))) []) (K (dB false) [])):=by kernel_rfl
theorem con85_ok:aP P 85 c85:=aR C85 func85 (kC con86_ok kN) fun args hp K h0=>by
 obtain⟨b,out,rfl,rfl,h_b,h_out,p0,hK⟩:=g2e h0
 have h:ok (F.ia b out) (fun r=>K (dB r) []):=ak (F.qi b out h_b h_out p0) hK
 refine⟨rfl,ann85,aq,(.dat Ty.bool),(az (by kernel_rfl)),?_⟩
 ·rw[vc85]
  exact(oC h (fun _ h=>⟨h_b,⟨h_out,⟨p0,h⟩⟩⟩) fun _ h=>h)
def c119:Con:=⟨[.dat TBond,.any],fun args hp K=>g2 (pD TBond) (pR TTb) (fun b tables=>(Sm TBond b)/\(Sm TTb tables)/\((M.aA tables&&M.aN tables b)=true)/\K (dB (decide (0<=M.broken tables b))) []) args hp,.plain,false⟩
abbrev C119:Ctx:=cx [(86,c86)] 8 [] 0 false
def ann119:=an [[.fixRow 2 TBond,kp 6],[kp 8]] []
theorem vc119 (b:TBond.D) (tables:LTb) (K:KA):vcT C119 aq ann119 f119 [.data TBond b,.ref (.data TTb tables)] [] (.dat Ty.bool) K =
 ((Sm TBond b)/\(Sm TTb tables)/\((M.aA tables&&M.aN tables b)=true)/\K (dB (decide (Z0<=(M.broken tables b)))) []):=by kernel_rfl
theorem con119_ok:aP P 119 c119:=aR C119 func119 (kC con86_ok kN) fun args hp K h0=>by
 obtain⟨b,tables,rfl,rfl,h_b,h_tables,p0,hK⟩:=g2e h0
 have h:ok (F.xA b tables) (fun r=>K (dB r) []):=ak (F.zC b tables h_b h_tables p0) hK
 refine⟨rfl,ann119,aq,(.dat Ty.bool),(az (by kernel_rfl)),?_⟩
 ·rw[vc119]
  exact⟨h_b,⟨h_tables,⟨p0,h⟩⟩⟩
def c166:Con:=⟨[.dat ax,.dat TCS],fun args hp K=>g2 (pD ax) (pD TCS) (fun p columns=>(Sm ax p)/\(Sm TCS columns)/\K (dB (M.lI p columns)) []) args hp,.plain,false⟩
abbrev C166:Ctx:=cx [(131,c131),(132,c132)] 63 [] 0 false
def ann166:=an [[.fixRow 2 ax,kp 6],[kp 70],[kp 198],[kp 16],[kp 8388678],[kp 16],[kp 137438953540],[kp 16],[.keep [2,6,48]],[.keep [2,6,48]],[.keep [2,6,48]],[.keep [2,6,48]],[.keep [2,48]],[kp 16],[kp 16]] []
abbrev S166_0 (p:ax.D) (columns:LC) (K:KA):Prop:=cond ((decide (p.2.1=Z0))==true) (K (dB (Ty.beq aa p.2.2.1 (Z0,(Z0,((⟨#[]⟩:ByteArray),()))))) []) (K (dB false) [])
theorem vc166 (p:ax.D) (columns:LC) (K:KA):vcT C166 aq ann166 f166 [.data ax p,.data TCS columns] [] (.dat Ty.bool) K =
 (cond (decide (p.1=Z1)) (cond ((decide (p.2.1=Z0))==true) ((Sm aa p.2.2.1)/\cond ((M.aO p.2.2.1)==true) (K (dB (!decide (p.2.2.1.1=Z0))) []) (K (dB false) [])) (K (dB false) [])) (cond (decide (p.1=Z2)) (cond ((M.inR p.2.1 Z0 (wrap64 ((columns.length:Int)-Z1)))==true) (K (dB (Ty.beq aa p.2.2.1 (Z0,(Z0,((⟨#[]⟩:ByteArray),()))))) []) (K (dB false) [])) (cond (decide (p.1=Z4)) (cond ((M.inR p.2.1 Z1 Z4)==true) (K (dB (Ty.beq aa p.2.2.1 (Z0,(Z0,((⟨#[]⟩:ByteArray),()))))) []) (K (dB false) [])) (cond (decide (p.1=Z3)) (cond (decide (p.1=Z3)) (S166_0 p columns K) (K (dB false) [])) (cond (decide (p.1=Z5)) (cond (decide (p.1=Z5)) (S166_0 p columns K) (K (dB false) [])) (cond (decide (p.1=Z6)) (cond (decide (p.1=Z6)) (S166_0 p columns K) (K (dB false) [])) (cond (decide (p.1=(7:Int))) (cond (decide (p.1=(7:Int))) (S166_0 p columns K) (K (dB false) [])) (cond (decide (p.1=(8:Int))) (S166_0 p columns K) (K (dB false) []))))))))):=by kernel_rfl
theorem con166_ok:aP P 166 c166:=aR C166 func166 (kC con131_ok (kC con132_ok kN)) fun args hp K h0=>by
 obtain⟨p,columns,rfl,rfl,h_p,h_columns,hK⟩:=g2e h0
 have h:ok (F.lf p columns) (fun r=>K (dB r) []):=ak (F.tW p columns h_p h_columns) hK
 refine⟨rfl,ann166,aq,(.dat Ty.bool),(az (by kernel_rfl)),?_⟩
 ·rw[vc166]
  exact(oC h (fun _ h=>(oC h (fun _ h=>⟨h_p.2.2.1,(oC h (fun _ h=>h) fun _ h=>h)⟩) fun _ h=>h)) fun _ h=>(oC h (fun _ h=>(oC h (fun _ h=>h) fun _ h=>h)) fun _ h=>(oC h (fun _ h=>(oC h (fun _ h=>h) fun _ h=>h)) fun _ h=>(oC h (fun b_8 h=>(fJ b_8 (oC h (fun _ h=>h) fun _ h=>h))) fun _ h=>(oC h (fun b_11 h=>(fJ b_11 (oC h (fun _ h=>h) fun _ h=>h))) fun _ h=>(oC h (fun b_14 h=>(fJ b_14 (oC h (fun _ h=>h) fun _ h=>h))) fun _ h=>(oC h (fun b_17 h=>(fJ b_17 (oC h (fun _ h=>h) fun _ h=>h))) fun _ h=>(oC h (fun _ h=>(oC h (fun _ h=>h) fun _ h=>h)) fun _ h=>h))))))))
def c210:Con:=⟨[.dat au,.any],fun args hp K=>g2 (pD au) (pR au) (fun k kind=>K (dB (!decide (k=kind))) []) args hp,.plain,false⟩
abbrev C210:Ctx:=cx [] 7 [] 0 false
def ann210:=an [[kp 3],[kp 8]] []
theorem vc210 (k:Int) (kind:Int) (K:KA):vcT C210 aq ann210 f210 [dI k,.ref (dI kind)] [] (.dat Ty.bool) K =
 (K (dB (!decide (k=kind))) []):=by kernel_rfl
theorem con210_ok:aP P 210 c210:=aR C210 func210 kN fun args hp K h0=>by
 obtain⟨k,kind,rfl,rfl,hK⟩:=g2e h0
 have h:ok (F.mV k kind) (fun r=>K (dB r) []):=ak (F.qz k kind) hK
 refine⟨rfl,ann210,aq,(.dat Ty.bool),(az (by kernel_rfl)),?_⟩
 ·rw[vc210]
  exact h
def c222:Con:=⟨[.dat au,.any],fun args hp K=>g2 (pD au) (pA TTable) (fun n t=>(Sm TTable t)/\K (dB (!M.inR n 0 (t.1.length-1))) []) args hp,.plain,false⟩
abbrev C222:Ctx:=cx [(132,c132)] 11 [] 0 false
def ann222:=an [[kp 3],[kp 8]] []
theorem vc222 (n:Int) (t:TTable.D) (K:KA):vcT C222 aq ann222 f222 [dI n,.adr TTable t] [] (.dat Ty.bool) K =
 (K (dB (!(M.inR n Z0 (wrap64 ((t.1.length:Int)-Z1))))) []):=by kernel_rfl
theorem con222_ok:aP P 222 c222:=aR C222 func222 (kC con132_ok kN) fun args hp K h0=>by
 obtain⟨n,t,rfl,rfl,h_t,hK⟩:=g2e h0
 have h:ok (F.nL n t) (fun r=>K (dB r) []):=ak (F.vK n t h_t) hK
 refine⟨rfl,ann222,aq,(.dat Ty.bool),(az (by kernel_rfl)),?_⟩
 ·rw[vc222]
  exact h
def c237:Con:=⟨[.lent au,.any],fun args hp K=>(args2 (fun a0 a1=>iu au a0 fun xs=>gj 222 a1 (nt (fun b1_0=>Dd TTable b1_0 fun k0=>(Sm (Ty.sl au) xs)/\(Sm TTable k0)/\K (dI (M.idx (t:=au) (fun e=>!M.inR e 0 (k0.1.length-1)) xs)) []))) args hp)\/(args2 (fun a0 a1=>iu au a0 fun xs=>gj 210 a1 (nt (fun b1_0=>kQ au b1_0 fun k0=>(Sm (Ty.sl au) xs)/\K (dI (M.idx (t:=au) (fun e=>!decide (e=k0)) xs)) []))) args hp),.plain,false⟩
abbrev C237:Ctx:=cx [(210,c210),(222,c222)] 19 [] 0 false
def ann237_v0:=an [[kp 3],[kp 387],[kp 899],[kp 419],[kp 65955],[kp 16],[kp 387],[kp 16]] [[kp 0]]
abbrev s237_0_v0 (xs:LI) (k0:TTable.D) (i0:Int) (v0:Unit):St:=⟨[(0,.brw au xs),(1,.fn 222 [.adr TTable k0]),(7,dI (xs.length:Int)),(8,dI i0)],[]⟩
abbrev LP237_0_v0 (xs:LI) (k0:TTable.D) (m:Nat) (st_:St) (K:KX):Prop:=True/\bg (s237_0_v0 xs k0) Z0 (xs.length:Int) (F.cT xs k0) (fun v0:Unit=>True) (aU (fun v0:Unit=>True->K (.exit 0) (⟨[],[]⟩:St)) (fun q0:Int=>K .ret (⟨[(4,dI q0)],[]⟩:St))) m st_
def L237_v0 (xs:LI) (k0:TTable.D):aX:=lp1 0 (LP237_0_v0 xs k0)
theorem vc237_v0 (xs:LI) (k0:TTable.D) (K:KA):vcT C237 (L237_v0 xs k0) ann237_v0 f237 [.brw au xs,.fn 222 [.adr TTable k0]] [] (.dat au) K =
 (∃m_,True/\bg (s237_0_v0 xs k0) Z0 (xs.length:Int) (F.cT xs k0) (fun v0:Unit=>True) (aU (fun v0:Unit=>True->K (dI (-1:Int)) []) (fun q0:Int=>K (dI q0) [])) m_ (s237_0_v0 xs k0 Z0 ())):=by kernel_rfl
theorem lvc237_0_v0 (xs:LI) (k0:TTable.D)  (i0:Int) (v0:Unit) (m:Nat) (K:KX):lvT C237 (L237_v0 xs k0) ann237_v0 f237 0 0 (s237_0_v0 xs k0 i0 v0) m K =
 (cond (decide (i0<(xs.length:Int))) ((0<=i0)/\(i0<(xs.length:Int))/\(Sm TTable k0)/\cond (!M.inR (nI xs i0) 0 (k0.1.length-1)) (K .ret (⟨[(4,dI i0)],[]⟩:St)) (nxT (LP237_0_v0 xs k0) m K (s237_0_v0 xs k0 (wrap64 (i0+Z1)) ()))) (K (.exit 0) (⟨[],[]⟩:St))):=by kernel_rfl
def ann237_v1:=an [[kp 3],[kp 387],[kp 899],[kp 419],[kp 65955],[kp 16],[kp 387],[kp 16]] [[kp 0]]
abbrev s237_0_v1 (xs:LI) (k0:Int) (i0:Int) (v0:Unit):St:=⟨[(0,.brw au xs),(1,.fn 210 [.ref (dI k0)]),(7,dI (xs.length:Int)),(8,dI i0)],[]⟩
abbrev LP237_0_v1 (xs:LI) (k0:Int) (m:Nat) (st_:St) (K:KX):Prop:=True/\bg (s237_0_v1 xs k0) Z0 (xs.length:Int) (F.cm xs k0) (fun v0:Unit=>True) (aU (fun v0:Unit=>True->K (.exit 0) (⟨[],[]⟩:St)) (fun q0:Int=>K .ret (⟨[(4,dI q0)],[]⟩:St))) m st_
def L237_v1 (xs:LI) (k0:Int):aX:=lp1 0 (LP237_0_v1 xs k0)
theorem vc237_v1 (xs:LI) (k0:Int) (K:KA):vcT C237 (L237_v1 xs k0) ann237_v1 f237 [.brw au xs,.fn 210 [.ref (dI k0)]] [] (.dat au) K =
 (∃m_,True/\bg (s237_0_v1 xs k0) Z0 (xs.length:Int) (F.cm xs k0) (fun v0:Unit=>True) (aU (fun v0:Unit=>True->K (dI (-1:Int)) []) (fun q0:Int=>K (dI q0) [])) m_ (s237_0_v1 xs k0 Z0 ())):=by kernel_rfl
theorem lvc237_0_v1 (xs:LI) (k0:Int)  (i0:Int) (v0:Unit) (m:Nat) (K:KX):lvT C237 (L237_v1 xs k0) ann237_v1 f237 0 0 (s237_0_v1 xs k0 i0 v0) m K =
 (cond (decide (i0<(xs.length:Int))) ((0<=i0)/\(i0<(xs.length:Int))/\cond (!decide ((nI xs i0)=k0)) (K .ret (⟨[(4,dI i0)],[]⟩:St)) (nxT (LP237_0_v1 xs k0) m K (s237_0_v1 xs k0 (wrap64 (i0+Z1)) ()))) (K (.exit 0) (⟨[],[]⟩:St))):=by kernel_rfl
theorem con237_ok:aP P 237 c237:=aR C237 func237 (kC con210_ok (kC con222_ok kN)) fun args hp K h0=>by
 rcases h0 with h0 | h0
 ·obtain⟨a0,a1,rfl,rfl,h1⟩:=bu h0
  obtain⟨xs,rfl,h2⟩:=bS h1
  obtain⟨cs1,rfl,h3⟩:=bK h2
  obtain⟨b1_0,rfl,h4⟩:=dM h3
  obtain⟨k0,rfl,h5⟩:=tr h4
  obtain⟨h_xs,h_k0,hK⟩:=h5
  have h:ok (F.iY xs k0) (fun r=>K (dI r) []):=ak (F.mM xs k0 h_xs h_k0) hK
  refine⟨rfl,ann237_v0,(L237_v0 xs k0),(.dat au),(aL (i0:=0) (by kernel_rfl) ?_),?_⟩
  ·rintro _ _ K ⟨hc0,i0,v0,rfl,hl0,rfl,hv0,h⟩
   exact cast (lvc237_0_v0 _ _ _ _ _ _).symm (aM h (fun ht0 h=>⟨hl0,⟨ht0,⟨h_k0,(oC h (fun _ h=>h) fun _ h=>(aG (fun _ hm=>⟨hc0,hm⟩) _ rfl hl0 dS ht0 (aS h_xs) trivial h))⟩⟩⟩) fun h=>(h trivial))
  ·rw[vc237_v0]
   exact(aE (fun m hm=>⟨trivial,hm⟩) Z0 _ rfl (Int.natCast_nonneg 0) trivial (aI h (fun v0 h hv0=>h) (fun q0 h=>h)))
 ·obtain⟨a0,a1,rfl,rfl,h1⟩:=bu h0
  obtain⟨xs,rfl,h2⟩:=bS h1
  obtain⟨cs1,rfl,h3⟩:=bK h2
  obtain⟨b1_0,rfl,h4⟩:=dM h3
  obtain⟨k0,rfl,h5⟩:=cK h4
  obtain⟨h_xs,hK⟩:=h5
  have h:ok (F.fU xs k0) (fun r=>K (dI r) []):=ak (F.jD xs k0 h_xs) hK
  refine⟨rfl,ann237_v1,(L237_v1 xs k0),(.dat au),(aL (i0:=0) (by kernel_rfl) ?_),?_⟩
  ·rintro _ _ K ⟨hc0,i0,v0,rfl,hl0,rfl,hv0,h⟩
   exact cast (lvc237_0_v1 _ _ _ _ _ _).symm (aM h (fun ht0 h=>⟨hl0,⟨ht0,(oC h (fun _ h=>h) fun _ h=>(aG (fun _ hm=>⟨hc0,hm⟩) _ rfl hl0 dS ht0 (aS h_xs) trivial h))⟩⟩) fun h=>(h trivial))
  ·rw[vc237_v1]
   exact(aE (fun m hm=>⟨trivial,hm⟩) Z0 _ rfl (Int.natCast_nonneg 0) trivial (aI h (fun v0 h hv0=>h) (fun q0 h=>h)))
def c209:Con:=⟨[.lent au,.any],fun args hp K=>(args2 (fun a0 a1=>iu au a0 fun xs=>gj 222 a1 (nt (fun b1_0=>Dd TTable b1_0 fun k0=>(Sm (Ty.sl au) xs)/\(Sm TTable k0)/\K (dB (List.any xs (fun e=>!M.inR e 0 (k0.1.length-1)))) []))) args hp)\/(args2 (fun a0 a1=>iu au a0 fun xs=>gj 210 a1 (nt (fun b1_0=>kQ au b1_0 fun k0=>(Sm (Ty.sl au) xs)/\K (dB (List.any xs (fun e=>!decide (e=k0)))) []))) args hp),.plain,false⟩
abbrev C209:Ctx:=cx [(210,c210),(222,c222),(237,c237)] 9 [] 0 false
def ann209_v0:=an [[kp 3],[kp 16]] []
theorem vc209_v0 (xs:LI) (k0:TTable.D) (K:KA):vcT C209 aq ann209_v0 f209 [.brw au xs,.fn 222 [.adr TTable k0]] [] (.dat Ty.bool) K =
 (((Sm (Ty.sl au) xs)/\(Sm TTable k0)/\K (dB (decide (Z0<=(M.idx (t:=au) (fun e=>!M.inR e 0 (k0.1.length-1)) xs)))) [])\/False):=by kernel_rfl
def ann209_v1:=an [[kp 3],[kp 16]] []
theorem vc209_v1 (xs:LI) (k0:Int) (K:KA):vcT C209 aq ann209_v1 f209 [.brw au xs,.fn 210 [.ref (dI k0)]] [] (.dat Ty.bool) K =
 (False\/((Sm (Ty.sl au) xs)/\K (dB (decide (Z0<=(M.idx (t:=au) (fun e=>!decide (e=k0)) xs)))) [])):=by kernel_rfl
theorem con209_ok:aP P 209 c209:=aR C209 func209 (kC con210_ok (kC con222_ok (kC con237_ok kN))) fun args hp K h0=>by
 rcases h0 with h0 | h0
 ·obtain⟨a0,a1,rfl,rfl,h1⟩:=bu h0
  obtain⟨xs,rfl,h2⟩:=bS h1
  obtain⟨cs1,rfl,h3⟩:=bK h2
  obtain⟨b1_0,rfl,h4⟩:=dM h3
  obtain⟨k0,rfl,h5⟩:=tr h4
  obtain⟨h_xs,h_k0,hK⟩:=h5
  have h:ok (F.dX xs k0) (fun r=>K (dB r) []):=ak (F.kL xs k0 h_xs h_k0) hK
  refine⟨rfl,ann209_v0,aq,(.dat Ty.bool),(az (by kernel_rfl)),?_⟩
  ·rw[vc209_v0]
   exact(Or.inl (⟨h_xs,⟨h_k0,h⟩⟩))
 ·obtain⟨a0,a1,rfl,rfl,h1⟩:=bu h0
  obtain⟨xs,rfl,h2⟩:=bS h1
  obtain⟨cs1,rfl,h3⟩:=bK h2
  obtain⟨b1_0,rfl,h4⟩:=dM h3
  obtain⟨k0,rfl,h5⟩:=cK h4
  obtain⟨h_xs,hK⟩:=h5
  have h:ok (F.cV xs k0) (fun r=>K (dB r) []):=ak (F.iO xs k0 h_xs) hK
  refine⟨rfl,ann209_v1,aq,(.dat Ty.bool),(az (by kernel_rfl)),?_⟩
  ·rw[vc209_v1]
   exact(Or.inr (⟨h_xs,h⟩))
def c208:Con:=⟨[.dat au,.any],fun args hp K=>g2 (pD au) (pQ au) (fun kind ins=>(Sm (Ty.sl au) ins)/\K (dB (List.all ins (fun k=>decide (k=kind)))) []) args hp,.plain,false⟩
abbrev C208:Ctx:=cx [(209,c209),(210,c210)] 8 [] 0 false
def ann208:=an [[.fixBox 2,kp 6],[kp 8]] []
theorem vc208 (kind:Int) (ins:LI) (K:KA):vcT C208 aq ann208 f208 [dI kind,.ref (.brw au ins)] [] (.dat Ty.bool) K =
 (False\/((Sm (Ty.sl au) ins)/\K (dB (!(List.any ins (fun e=>!decide (e=kind))))) [])):=by kernel_rfl
theorem con208_ok:aP P 208 c208:=aR C208 func208 (kC con209_ok (kC con210_ok kN)) fun args hp K h0=>by
 obtain⟨kind,ins,rfl,rfl,h_ins,hK⟩:=g2e h0
 have h:ok (F.ki kind ins) (fun r=>K (dB r) []):=ak (F.sN kind ins h_ins) hK
 refine⟨rfl,ann208,aq,(.dat Ty.bool),(az (by kernel_rfl)),?_⟩
 ·rw[vc208]
  exact(Or.inr (⟨h_ins,h⟩))
def c167:Con:=⟨[.dat ax,.dat TCS,.lent au],fun args hp K=>g3 (pD ax) (pD TCS) (pB au) (fun p columns inp=>(Sm ax p)/\(Sm TCS columns)/\(Sm (Ty.sl au) inp)/\(M.lI p columns=true)/\((inp.length:Int)=M.takes p)/\(LD (M.cF p columns inp) fun r=>K (.tup [dI r.1,dB r.2]) [])) args hp,.plain,false⟩
abbrev C167:Ctx:=cx [(208,c208)] 42 [] 0 false
def ann167:=an [[.fixRow 3 ax,.fixBox 5,kp 42],[kp 298],[kp 2346],[kp 6442],[kp 192],[kp 133418],[kp 192],[kp 33556768],[kp 192],[kp 536873248],[kp 192],[.keep [8,38]],[kp 192],[kp 192]] []
theorem vc167 (p:ax.D) (columns:LC) (inp:LI) (K:KA):vcT C167 aq ann167 f167 [.data ax p,.data TCS columns,.brw au inp] [] (.tup [au,Ty.bool]) K =
 (cond (decide (p.1=Z1)) (K (.tup [dI p.2.2.1.1,dB true]) []) (cond (decide (p.1=Z2)) ((0<=p.2.1)/\(p.2.1<(columns.length:Int))/\K (.tup [dI (nC columns p.2.1).1,dB true]) []) (cond (decide (p.1=Z3)) ((Sm (Ty.sl au) inp)/\K (.tup [dI Z1,dB (List.all inp (fun k=>decide (k=Z1)))]) []) (cond (decide (p.1=Z4)) ((0<=Z0)/\(Z0<(inp.length:Int))/\(0<=Z1)/\(Z1<(inp.length:Int))/\K (.tup [dI Z3,dB (decide ((nI inp Z0)=(nI inp Z1)))]) []) (cond (decide (p.1=(8:Int))) (K (.tup [dI Z3,dB true]) []) ((Sm (Ty.sl au) inp)/\K (.tup [dI Z3,dB (List.all inp (fun k=>decide (k=Z3)))]) [])))))):=by kernel_rfl
theorem con167_ok:aP P 167 c167:=aR C167 func167 (kC con208_ok kN) fun args hp K h0=>by
 obtain⟨p,columns,inp,rfl,rfl,h_p,h_columns,h_inp,p0,p1,hK⟩:=g3e h0
 have h:ok (F.mL p columns inp) (fun r=>K (.tup [dI r.1,dB r.2]) []):=ak (F.uy p columns inp h_p h_columns h_inp p0 p1) (hK _ rfl)
 refine⟨rfl,ann167,aq,(.tup [au,Ty.bool]),(az (by kernel_rfl)),?_⟩
 ·rw[vc167]
  exact(oC h (fun _ h=>h) fun _ h=>(oC h (fun _ h=>(oG h fun _ h=>(oG h fun _ h=>h))) fun _ h=>(oC h (fun _ h=>⟨h_inp,h⟩) fun _ h=>(oC h (fun _ h=>⟨(Int.natCast_nonneg 0),(oG h fun _ h=>⟨(Int.natCast_nonneg 1),(oG h fun _ h=>h)⟩)⟩) fun _ h=>(oC h (fun _ h=>h) fun _ h=>⟨h_inp,h⟩)))))
def c99:Con:=⟨[.dat TCS,.dat TPS],fun args hp K=>g2 (pD TCS) (pD TPS) (fun columns e=>(Sm TCS columns)/\(Sm TPS e)/\K (dI (M.dg columns e)) []) args hp,.plain,false⟩
abbrev C99:Ctx:=cx [(75,c75),(165,c165),(166,c166),(167,c167)] 67 [] 0 false
def ann99:=an [[kp 3],[kp 262147],[kp 16],[kp 35],[kp 3670049],[kp 7864353],[.fixRow 7 ax,kp 3670177],[kp 3670433],[kp 68723147169],[kp 16],[kp 3671841],[kp 1125899910513441],[kp 16],[kp 3670049],[kp 3670049],[.keep [5,63]],[kp 16],[kp 16]] [[kp 32]]
abbrev s99_0 (columns:LC) (e:LPt) (i0:Int) (v0:LI):St:=⟨[(0,.data TCS columns),(5,.own 5 none),(19,.data TPS e),(20,dI (e.length:Int)),(21,dI i0)],[(5,.arr .sh au v0)]⟩
abbrev LP99_0 (columns:LC) (e:LPt) (m:Nat) (st_:St) (K:KX):Prop:=True/\bO (t:=ax) (s99_0 columns e) e (F.dR columns e) (fun v0:LI=>True) (aU (fun v0:LI=>True->K (.exit 0) (⟨[(5,.own 5 none)],[(5,.arr .sh au v0)]⟩:St)) (fun q0:Unit=>K .ret (⟨[(4,dI (-1:Int))],[]⟩:St))) m st_
def L99 (columns:LC) (e:LPt):aX:=lp1 0 (LP99_0 columns e)
theorem vc99 (columns:LC) (e:LPt) (K:KA):vcT C99 (L99 columns e) ann99 f99 [.data TCS columns,.data TPS e] [] (.dat au) K =
 ((Sm TCS columns)/\cond ((!(M.bC columns))==false) (cond (decide ((12:Int)<(e.length:Int))) (K (dI (-1:Int)) []) (∃m_,True/\bO (t:=ax) (s99_0 columns e) e (F.dR columns e) (fun v0:LI=>True) (aU (fun v0:LI=>True->cond (!decide ((v0.length:Int)=Z1)) (K (dI (-1:Int)) []) ((0<=Z0)/\(Z0<(v0.length:Int))/\K (dI (nI v0 Z0)) [])) (fun q0:Unit=>K (dI (-1:Int)) [])) m_ (s99_0 columns e Z0 []))) (K (dI (-1:Int)) [])):=by kernel_rfl
theorem lvc99_0 (columns:LC) (e:LPt)  (i0:Int) (v0:LI) (m:Nat) (K:KX):lvT C99 (L99 columns e) ann99 f99 0 0 (s99_0 columns e i0 v0) m K =
 (cond (decide (i0<(e.length:Int))) ((0<=i0)/\(i0<(e.length:Int))/\(Sm ax (nP e i0))/\(Sm ax (nP e i0))/\(Sm TCS columns)/\cond ((!(M.lI (nP e i0) columns))==false) (cond (decide ((v0.length:Int)<(M.takes (nP e i0)))) (K .ret (⟨[(4,dI (-1:Int))],[]⟩:St)) ((0<=wrap64 ((v0.length:Int)-(M.takes (nP e i0))))/\(wrap64 ((v0.length:Int)-(M.takes (nP e i0)))<=(v0.length:Int))/\((v0.length:Int)<=(v0.length:Int))/\((v0.length:Int)=(v0.length:Int))/\(Sm ax (nP e i0))/\(Sm TCS columns)/\(Sm (Ty.sl au) (aB v0 (some (wrap64 ((v0.length:Int)-(M.takes (nP e i0))),(v0.length:Int)))))/\(M.lI (nP e i0) columns=true)/\(((aB v0 (some (wrap64 ((v0.length:Int)-(M.takes (nP e i0))),(v0.length:Int)))).length:Int)=M.takes (nP e i0))/\(LD (M.cF (nP e i0) columns (aB v0 (some (wrap64 ((v0.length:Int)-(M.takes (nP e i0))),(v0.length:Int))))) fun r1=>cond (!r1.2) (K .ret (⟨[(4,dI (-1:Int))],[]⟩:St)) ((0<=Z0)/\(Z0<=wrap64 ((v0.length:Int)-(M.takes (nP e i0))))/\(wrap64 ((v0.length:Int)-(M.takes (nP e i0)))<=(v0.length:Int))/\(wrap64 ((v0.length:Int)-(M.takes (nP e i0)))=wrap64 ((v0.length:Int)-(M.takes (nP e i0))))/\(Z0=0)/\(((wrap64 ((v0.length:Int)-(M.takes (nP e i0)))).toNat+[r1.1].length) * 8<=lim)/\(nxT (LP99_0 columns e) m K (s99_0 columns e (wrap64 (i0+Z1)) (v0.take (wrap64 ((v0.length:Int)-(M.takes (nP e i0)))).toNat++[r1.1]))))))) (K .ret (⟨[(4,dI (-1:Int))],[]⟩:St))) (K (.exit 0) (⟨[(5,.own 5 none)],[(5,.arr .sh au v0)]⟩:St))):=by kernel_rfl
theorem con99_ok:aP P 99 c99:=aR C99 func99 (kC con75_ok (kC con165_ok (kC con166_ok (kC con167_ok kN)))) fun args hp K h0=>by
 obtain⟨columns,e,rfl,rfl,h_columns,h_e,hK⟩:=g2e h0
 have h:ok (F.nO columns e) (fun r=>K (dI r) []):=ak (F.xe columns e h_columns h_e) hK
 refine⟨rfl,ann99,(L99 columns e),(.dat au),(aL (i0:=0) (by kernel_rfl) ?_),?_⟩
 ·rintro _ _ K ⟨hc0,i0,v0,rfl,hl0,rfl,hv0,h⟩
  exact cast (lvc99_0 _ _ _ _ _ _).symm (bw (t:=ax) hl0 h (fun ht0 h=>⟨hl0,⟨ht0,⟨(ay h_e i0),⟨(ay h_e i0),⟨h_columns,(oC h (fun b_37 h=>(oC h (fun _ h=>h) fun _ h=>(oG h fun _ h=>(oG h fun g1 h=>⟨(Int.le_refl _),⟨rfl,⟨(ay h_e i0),⟨h_columns,(oG h fun _ h=>⟨(bnf (bgt b_37)),(oG h fun _ h=>(oL h fun _ _ h=>(oC h (fun _ h=>h) fun _ h=>⟨(Int.natCast_nonneg 0),(oG h fun _ h=>⟨g1,⟨rfl,⟨rfl,(oG h fun _ h=>(br (t:=ax) (fun _ hm=>⟨hc0,hm⟩) _ rfl hl0 ht0 (aS h_e) trivial h))⟩⟩⟩)⟩)))⟩)⟩⟩⟩⟩)))) fun _ h=>h)⟩⟩⟩⟩⟩) fun h=>(h trivial))
 ·rw[vc99]
  exact⟨h_columns,(oC h (fun _ h=>(oC h (fun _ h=>h) fun _ h=>(bp (t:=ax) (fun m hm=>⟨trivial,hm⟩) _ rfl trivial (aI h (fun v0 h hv0=>(oC h (fun _ h=>h) fun _ h=>⟨(Int.natCast_nonneg 0),(oG h fun _ h=>h)⟩)) (fun q0 h=>h))))) fun _ h=>h)⟩
def c194:Con:=⟨[.dat TTable,.dat (Ty.sl au)],fun args hp K=>g2 (pD TTable) (pD (Ty.sl au)) (fun t list=>(Sm TTable t)/\(Sm (Ty.sl au) list)/\K (dB (M.bT t.1 list)) []) args hp,.plain,false⟩
abbrev C194:Ctx:=cx [(132,c132),(209,c209),(222,c222)] 14 [] 0 false
def ann194:=an [[.fixRow 2 TTable,kp 6],[kp 16]] []
theorem vc194 (t:TTable.D) (list:LI) (K:KA):vcT C194 aq ann194 f194 [.data TTable t,.data (Ty.sl au) list] [] (.dat Ty.bool) K =
 (cond ((M.inR (list.length:Int) Z1 Z4)==true) (((Sm (Ty.sl au) list)/\(Sm TTable t)/\K (dB (!(List.any list (fun e=>!M.inR e 0 (t.1.length-1))))) [])\/False) (K (dB false) [])):=by kernel_rfl
theorem con194_ok:aP P 194 c194:=aR C194 func194 (kC con132_ok (kC con209_ok (kC con222_ok kN))) fun args hp K h0=>by
 obtain⟨t,list,rfl,rfl,h_t,h_list,hK⟩:=g2e h0
 have h:ok (F.qD t list) (fun r=>K (dB r) []):=ak (F.yU t list h_t h_list) hK
 refine⟨rfl,ann194,aq,(.dat Ty.bool),(az (by kernel_rfl)),?_⟩
 ·rw[vc194]
  exact(oC h (fun _ h=>(Or.inl (⟨h_list,⟨h_t,h⟩⟩))) fun _ h=>h)
def c141:Con:=⟨[.dat TTb,.dat TBond],fun args hp K=>g2 (pD TTb) (pD TBond) (fun tables b=>(Sm TTb tables)/\(Sm TBond b)/\K (dB (M.aN tables b)) []) args hp,.plain,false⟩
abbrev C141:Ctx:=cx [(99,c99),(132,c132),(194,c194)] 141 [] 0 false
def ann141:=an [[.fixRow 3 TBond,kp 9],[kp 32777],[kp 16],[.fixRow 5 TTable,kp 41],[kp 105],[kp 68719476841],[kp 206158430313],[kp 16],[kp 4503668346847337],[kp 16],[.keep [0,3,5,69]],[.keep [0,3,5,110]],[kp 16],[.keep [0,3,5,112,113,114]],[.keep [0,3,5,112,113,114,115]],[.keep [0,3,5,7,8,112,113,114]],[.keep [0,3,5,112,113,114,139]],[kp 16],[.keep [0,3,5,112,113,114]],[kp 16],[kp 16]] [[],[kp 0]]
abbrev s141_1 (tables:LTb) (b:TBond.D) (i1:Int) (v1:Unit):St:=⟨[(0,.data TTb tables),(3,.adr TBond b),(5,.adr TTable (nT tables b.2.1)),(112,.data (Ty.sl au) b.2.2.1),(113,dI (b.2.2.1.length:Int)),(114,dI i1)],[]⟩
abbrev LP141_1 (tables:LTb) (b:TBond.D) (m:Nat) (st_:St) (K:KX):Prop:=True/\bg (s141_1 tables b) Z0 (b.2.2.1.length:Int) (F.fk tables b) (fun v1:Unit=>True) (aU (fun v1:Unit=>True->K (.exit 1) (⟨[],[]⟩:St)) (fun q1:Unit=>K .ret (⟨[(4,dB false)],[]⟩:St))) m st_
def L141 (tables:LTb) (b:TBond.D):aX:=lp1 1 (LP141_1 tables b)
abbrev S141_0 (tables:LTb) (b:TBond.D) (K:KA):Prop:=cond (decide (b.1=Z2)) (cond ((!(M.inR b.2.2.2.1 Z0 (wrap64 ((tables.length:Int)-Z1))))==false) (cond ((decide (Z0<(b.2.2.2.2.2.2.1.length:Int)))==false) ((Sm TTable (nT tables b.2.1))/\(Sm (Ty.sl au) b.2.2.1)/\cond ((!(M.bT (nT tables b.2.1).1 b.2.2.1))==false) ((0<=b.2.2.2.1)/\(b.2.2.2.1<(tables.length:Int))/\(Sm TTable (nT tables b.2.2.2.1))/\(Sm (Ty.sl au) b.2.2.2.2.1)/\cond ((!(M.bT (nT tables b.2.2.2.1).1 b.2.2.2.2.1))==false) (cond (!decide ((b.2.2.2.2.1.length:Int)=(b.2.2.1.length:Int))) (K (dB false) []) (∃m_,True/\bg (s141_1 tables b) Z0 (b.2.2.1.length:Int) (F.fk tables b) (fun v1:Unit=>True) (aU (fun v1:Unit=>True->K (dB true) []) (fun q1:Unit=>K (dB false) [])) m_ (s141_1 tables b Z0 ()))) (K (dB false) [])) (K (dB false) [])) (K (dB false) [])) (K (dB false) [])) (K (dB false) [])
abbrev S141_1 (tables:LTb) (b:TBond.D) (K:KA):Prop:=cond (decide (b.1=Z1)) ((Sm TTable (nT tables b.2.1))/\(Sm (Ty.sl au) b.2.2.1)/\cond ((M.bT (nT tables b.2.1).1 b.2.2.1)==true) (K (dB false) []) (K (dB false) [])) (cond (decide (b.1=Z3)) ((Sm TCS (nT tables b.2.1).1)/\(Sm TPS b.2.2.2.2.2.2.1)/\cond ((decide ((M.dg (nT tables b.2.1).1 b.2.2.2.2.2.2.1)=Z3))==true) (K (dB false) []) (K (dB false) [])) (S141_0 tables b K))
theorem vc141 (tables:LTb) (b:TBond.D) (K:KA):vcT C141 (L141 tables b) ann141 f141 [.data TTb tables,.data TBond b] [] (.dat Ty.bool) K =
 (cond (!(M.inR b.2.1 Z0 (wrap64 ((tables.length:Int)-Z1)))) (K (dB false) []) ((0<=b.2.1)/\(b.2.1<(tables.length:Int))/\cond ((decide (b.2.2.2.1=Z0))==true) (cond ((decide ((b.2.2.2.2.1.length:Int)=Z0))==true) (cond (decide (b.1=Z1)) ((Sm TTable (nT tables b.2.1))/\(Sm (Ty.sl au) b.2.2.1)/\cond ((M.bT (nT tables b.2.1).1 b.2.2.1)==true) (cond ((!b.2.2.2.2.2.1)==true) (K (dB (decide ((b.2.2.2.2.2.2.1.length:Int)=Z0))) []) (K (dB false) [])) (K (dB false) [])) (cond (decide (b.1=Z3)) ((Sm TCS (nT tables b.2.1).1)/\(Sm TPS b.2.2.2.2.2.2.1)/\cond ((decide ((M.dg (nT tables b.2.1).1 b.2.2.2.2.2.2.1)=Z3))==true) (cond ((!b.2.2.2.2.2.1)==true) (K (dB (decide ((b.2.2.1.length:Int)=Z0))) []) (K (dB false) [])) (K (dB false) [])) (S141_0 tables b K))) (S141_1 tables b K)) (S141_1 tables b K))):=by kernel_rfl
theorem lvc141_0 (tables:LTb) (b:TBond.D)  (i1:Int) (v1:Unit) (m:Nat) (K:KX):lvT C141 (L141 tables b) ann141 f141 0 1 (s141_1 tables b i1 v1) m K =
 (cond (decide (i1<(b.2.2.1.length:Int))) ((0<=i1)/\(i1<(b.2.2.1.length:Int))/\(0<=(nI b.2.2.1 i1))/\((nI b.2.2.1 i1)<((nT tables b.2.1).1.length:Int))/\(0<=b.2.2.2.1)/\(b.2.2.2.1<(tables.length:Int))/\(0<=i1)/\(i1<(b.2.2.2.2.1.length:Int))/\(0<=(nI b.2.2.2.2.1 i1))/\((nI b.2.2.2.2.1 i1)<((nT tables b.2.2.2.1).1.length:Int))/\cond (!decide ((nC (nT tables b.2.1).1 (nI b.2.2.1 i1)).1=(nC (nT tables b.2.2.2.1).1 (nI b.2.2.2.2.1 i1)).1)) (K .ret (⟨[(4,dB false)],[]⟩:St)) (nxT (LP141_1 tables b) m K (s141_1 tables b (wrap64 (i1+Z1)) ()))) (K (.exit 1) (⟨[],[]⟩:St))):=by kernel_rfl
theorem con141_ok:aP P 141 c141:=aR C141 func141 (kC con99_ok (kC con132_ok (kC con194_ok kN))) fun args hp K h0=>by
 obtain⟨tables,b,rfl,rfl,h_tables,h_b,hK⟩:=g2e h0
 have h:ok (F.qO tables b) (fun r=>K (dB r) []):=ak (F.Aj tables b h_tables h_b) hK
 refine⟨rfl,ann141,(L141 tables b),(.dat Ty.bool),(aL (i0:=1) (by kernel_rfl) ?_),?_⟩
 ·rintro _ _ K ⟨hc1,i1,v1,rfl,hl1,rfl,hv1,h⟩
  exact cast (lvc141_0 _ _ _ _ _ _).symm (aM h (fun ht1 h=>⟨hl1,⟨ht1,(oG h fun _ h=>(oG h fun _ h=>(oG h fun _ h=>(oG h fun _ h=>⟨hl1,(oG h fun _ h=>(oG h fun _ h=>(oG h fun _ h=>(oC h (fun _ h=>h) fun _ h=>(aG (fun _ hm=>⟨hc1,hm⟩) _ rfl hl1 dS ht1 (aS h_b.2.2.1) trivial h)))))⟩))))⟩⟩) fun h=>(h trivial))
 ·rw[vc141]
  exact(oC h (fun _ h=>h) fun b_1 h=>⟨(jN (bnf b_1)),⟨(nW (bnf b_1)),(oC h (fun _ h=>(oC h (fun _ h=>(oC h (fun _ h=>⟨(ay h_tables b.2.1),⟨h_b.2.2.1,(oC h (fun _ h=>(oC h (fun _ h=>h) fun _ h=>h)) fun _ h=>h)⟩⟩) fun _ h=>(oC h (fun _ h=>⟨(ay h_tables b.2.1).1,⟨h_b.2.2.2.2.2.2.1,(oC h (fun _ h=>(oC h (fun _ h=>h) fun _ h=>h)) fun _ h=>h)⟩⟩) fun _ h=>(oC h (fun _ h=>(oC h (fun b_11 h=>(oC h (fun _ h=>⟨(ay h_tables b.2.1),⟨h_b.2.2.1,(oC h (fun _ h=>⟨(jN (bnf (bgt b_11))),⟨(nW (bnf (bgt b_11))),⟨(ay h_tables b.2.2.2.1),⟨h_b.2.2.2.2.1,(oC h (fun _ h=>(oC h (fun _ h=>h) fun _ h=>(aE (fun m hm=>⟨trivial,hm⟩) Z0 _ rfl (Int.natCast_nonneg 0) trivial (aI h (fun v1 h hv1=>h) (fun q1 h=>h))))) fun _ h=>h)⟩⟩⟩⟩) fun _ h=>h)⟩⟩) fun _ h=>h)) fun _ h=>h)) fun _ h=>h)))) fun _ h=>(oC h (fun _ h=>⟨(ay h_tables b.2.1),⟨h_b.2.2.1,(oC h (fun _ h=>h) fun _ h=>h)⟩⟩) fun _ h=>(oC h (fun _ h=>⟨(ay h_tables b.2.1).1,⟨h_b.2.2.2.2.2.2.1,(oC h (fun _ h=>h) fun _ h=>h)⟩⟩) fun _ h=>(oC h (fun _ h=>(oC h (fun b_51 h=>(oC h (fun _ h=>⟨(ay h_tables b.2.1),⟨h_b.2.2.1,(oC h (fun _ h=>⟨(jN (bnf (bgt b_51))),⟨(nW (bnf (bgt b_51))),⟨(ay h_tables b.2.2.2.1),⟨h_b.2.2.2.2.1,(oC h (fun _ h=>(oC h (fun _ h=>h) fun _ h=>(aE (fun m hm=>⟨trivial,hm⟩) Z0 _ rfl (Int.natCast_nonneg 0) trivial (aI h (fun v1 h hv1=>h) (fun q1 h=>h))))) fun _ h=>h)⟩⟩⟩⟩) fun _ h=>h)⟩⟩) fun _ h=>h)) fun _ h=>h)) fun _ h=>h))))) fun _ h=>(oC h (fun _ h=>⟨(ay h_tables b.2.1),⟨h_b.2.2.1,(oC h (fun _ h=>h) fun _ h=>h)⟩⟩) fun _ h=>(oC h (fun _ h=>⟨(ay h_tables b.2.1).1,⟨h_b.2.2.2.2.2.2.1,(oC h (fun _ h=>h) fun _ h=>h)⟩⟩) fun _ h=>(oC h (fun _ h=>(oC h (fun b_61 h=>(oC h (fun _ h=>⟨(ay h_tables b.2.1),⟨h_b.2.2.1,(oC h (fun _ h=>⟨(jN (bnf (bgt b_61))),⟨(nW (bnf (bgt b_61))),⟨(ay h_tables b.2.2.2.1),⟨h_b.2.2.2.2.1,(oC h (fun _ h=>(oC h (fun _ h=>h) fun _ h=>(aE (fun m hm=>⟨trivial,hm⟩) Z0 _ rfl (Int.natCast_nonneg 0) trivial (aI h (fun v1 h hv1=>h) (fun q1 h=>h))))) fun _ h=>h)⟩⟩⟩⟩) fun _ h=>h)⟩⟩) fun _ h=>h)) fun _ h=>h)) fun _ h=>h))))⟩⟩)
def c140:Con:=⟨[.dat TBond,.any],fun args hp K=>g2 (pD TBond) (pR TTb) (fun b tables=>(Sm TBond b)/\(Sm TTb tables)/\K (dB (!M.aN tables b)) []) args hp,.plain,false⟩
abbrev C140:Ctx:=cx [(141,c141)] 8 [] 0 false
def ann140:=an [[.fixRow 2 TBond,kp 6],[kp 8]] []
theorem vc140 (b:TBond.D) (tables:LTb) (K:KA):vcT C140 aq ann140 f140 [.data TBond b,.ref (.data TTb tables)] [] (.dat Ty.bool) K =
 ((Sm TTb tables)/\(Sm TBond b)/\K (dB (!(M.aN tables b))) []):=by kernel_rfl
theorem con140_ok:aP P 140 c140:=aR C140 func140 (kC con141_ok kN) fun args hp K h0=>by
 obtain⟨b,tables,rfl,rfl,h_b,h_tables,hK⟩:=g2e h0
 have h:ok (F.rI b tables) (fun r=>K (dB r) []):=ak (F.vp b tables h_b h_tables) hK
 refine⟨rfl,ann140,aq,(.dat Ty.bool),(az (by kernel_rfl)),?_⟩
 ·rw[vc140]
  exact⟨h_tables,⟨h_b,h⟩⟩
def c84:Con:=⟨[.dat (Ty.sl TBond),.any],fun args hp K=>(args2 (fun a0 a1=>ja (Ty.sl TBond) a0 fun xs=>gj 85 a1 (nt (fun b1_0=>kQ TTb b1_0 fun k0=>(Sm (Ty.sl TBond) xs)/\(Sm TTb k0)/\(∀e∈xs,(M.aA k0&&M.aN k0 e)=true)/\K (dI (M.idx (t:=TBond) (fun e=>M.loose k0 e) xs)) []))) args hp)\/(args2 (fun a0 a1=>ja (Ty.sl TBond) a0 fun xs=>gj 119 a1 (nt (fun b1_0=>kQ TTb b1_0 fun k0=>(Sm (Ty.sl TBond) xs)/\(Sm TTb k0)/\(∀e∈xs,(M.aA k0&&M.aN k0 e)=true)/\K (dI (M.idx (t:=TBond) (fun e=>decide (0<=M.broken k0 e)) xs)) []))) args hp)\/(args2 (fun a0 a1=>ja (Ty.sl TBond) a0 fun xs=>gj 140 a1 (nt (fun b1_0=>kQ TTb b1_0 fun k0=>(Sm (Ty.sl TBond) xs)/\(Sm TTb k0)/\K (dI (M.idx (t:=TBond) (fun e=>!M.aN k0 e) xs)) []))) args hp),.bor,false⟩
abbrev C84:Ctx:=cx [(85,c85),(119,c119),(140,c140)] 19 [] 0 false
def ann84_v0:=an [[kp 3],[kp 387],[kp 899],[kp 419],[kp 65955],[kp 16],[kp 387],[kp 16]] [[kp 0]]
abbrev s84_0_v0 (xs:(List TBond.D)) (k0:LTb) (i0:Int) (v0:Unit):St:=⟨[(0,.data (Ty.sl TBond) xs),(1,.fn 85 [.ref (.data TTb k0)]),(7,dI (xs.length:Int)),(8,dI i0)],[]⟩
abbrev LP84_0_v0 (xs:(List TBond.D)) (k0:LTb) (m:Nat) (st_:St) (K:KX):Prop:=True/\bg (s84_0_v0 xs k0) Z0 (xs.length:Int) (F.bY xs k0) (fun v0:Unit=>True) (aU (fun v0:Unit=>True->K (.exit 0) (⟨[],[]⟩:St)) (fun q0:Int=>K .ret (⟨[(4,dI q0)],[]⟩:St))) m st_
def L84_v0 (xs:(List TBond.D)) (k0:LTb):aX:=lp1 0 (LP84_0_v0 xs k0)
theorem vc84_v0 (xs:(List TBond.D)) (k0:LTb) (K:KA):vcT C84 (L84_v0 xs k0) ann84_v0 f84 [.data (Ty.sl TBond) xs,.fn 85 [.ref (.data TTb k0)]] [] (.dat au) K =
 (∃m_,True/\bg (s84_0_v0 xs k0) Z0 (xs.length:Int) (F.bY xs k0) (fun v0:Unit=>True) (aU (fun v0:Unit=>True->K (dI (-1:Int)) []) (fun q0:Int=>K (dI q0) [])) m_ (s84_0_v0 xs k0 Z0 ())):=by kernel_rfl
theorem lvc84_0_v0 (xs:(List TBond.D)) (k0:LTb)  (i0:Int) (v0:Unit) (m:Nat) (K:KX):lvT C84 (L84_v0 xs k0) ann84_v0 f84 0 0 (s84_0_v0 xs k0 i0 v0) m K =
 (cond (decide (i0<(xs.length:Int))) ((0<=i0)/\(i0<(xs.length:Int))/\(Sm TBond (nth (t:=TBond) xs i0))/\(Sm TTb k0)/\((M.aA k0&&M.aN k0 (nth (t:=TBond) xs i0))=true)/\cond (M.loose k0 (nth (t:=TBond) xs i0)) (K .ret (⟨[(4,dI i0)],[]⟩:St)) (nxT (LP84_0_v0 xs k0) m K (s84_0_v0 xs k0 (wrap64 (i0+Z1)) ()))) (K (.exit 0) (⟨[],[]⟩:St))):=by kernel_rfl
def ann84_v1:=an [[kp 3],[kp 387],[kp 899],[kp 419],[kp 65955],[kp 16],[kp 387],[kp 16]] [[kp 0]]
abbrev s84_0_v1 (xs:(List TBond.D)) (k0:LTb) (i0:Int) (v0:Unit):St:=⟨[(0,.data (Ty.sl TBond) xs),(1,.fn 119 [.ref (.data TTb k0)]),(7,dI (xs.length:Int)),(8,dI i0)],[]⟩
abbrev LP84_0_v1 (xs:(List TBond.D)) (k0:LTb) (m:Nat) (st_:St) (K:KX):Prop:=True/\bg (s84_0_v1 xs k0) Z0 (xs.length:Int) (F.dn xs k0) (fun v0:Unit=>True) (aU (fun v0:Unit=>True->K (.exit 0) (⟨[],[]⟩:St)) (fun q0:Int=>K .ret (⟨[(4,dI q0)],[]⟩:St))) m st_
def L84_v1 (xs:(List TBond.D)) (k0:LTb):aX:=lp1 0 (LP84_0_v1 xs k0)
theorem vc84_v1 (xs:(List TBond.D)) (k0:LTb) (K:KA):vcT C84 (L84_v1 xs k0) ann84_v1 f84 [.data (Ty.sl TBond) xs,.fn 119 [.ref (.data TTb k0)]] [] (.dat au) K =
 (∃m_,True/\bg (s84_0_v1 xs k0) Z0 (xs.length:Int) (F.dn xs k0) (fun v0:Unit=>True) (aU (fun v0:Unit=>True->K (dI (-1:Int)) []) (fun q0:Int=>K (dI q0) [])) m_ (s84_0_v1 xs k0 Z0 ())):=by kernel_rfl
theorem lvc84_0_v1 (xs:(List TBond.D)) (k0:LTb)  (i0:Int) (v0:Unit) (m:Nat) (K:KX):lvT C84 (L84_v1 xs k0) ann84_v1 f84 0 0 (s84_0_v1 xs k0 i0 v0) m K =
 (cond (decide (i0<(xs.length:Int))) ((0<=i0)/\(i0<(xs.length:Int))/\(Sm TBond (nth (t:=TBond) xs i0))/\(Sm TTb k0)/\((M.aA k0&&M.aN k0 (nth (t:=TBond) xs i0))=true)/\cond (decide (0<=M.broken k0 (nth (t:=TBond) xs i0))) (K .ret (⟨[(4,dI i0)],[]⟩:St)) (nxT (LP84_0_v1 xs k0) m K (s84_0_v1 xs k0 (wrap64 (i0+Z1)) ()))) (K (.exit 0) (⟨[],[]⟩:St))):=by kernel_rfl
def ann84_v2:=an [[kp 3],[kp 387],[kp 899],[kp 419],[kp 65955],[kp 16],[kp 387],[kp 16]] [[kp 0]]
abbrev s84_0_v2 (xs:(List TBond.D)) (k0:LTb) (i0:Int) (v0:Unit):St:=⟨[(0,.data (Ty.sl TBond) xs),(1,.fn 140 [.ref (.data TTb k0)]),(7,dI (xs.length:Int)),(8,dI i0)],[]⟩
abbrev LP84_0_v2 (xs:(List TBond.D)) (k0:LTb) (m:Nat) (st_:St) (K:KX):Prop:=True/\bg (s84_0_v2 xs k0) Z0 (xs.length:Int) (F.cM xs k0) (fun v0:Unit=>True) (aU (fun v0:Unit=>True->K (.exit 0) (⟨[],[]⟩:St)) (fun q0:Int=>K .ret (⟨[(4,dI q0)],[]⟩:St))) m st_
def L84_v2 (xs:(List TBond.D)) (k0:LTb):aX:=lp1 0 (LP84_0_v2 xs k0)
theorem vc84_v2 (xs:(List TBond.D)) (k0:LTb) (K:KA):vcT C84 (L84_v2 xs k0) ann84_v2 f84 [.data (Ty.sl TBond) xs,.fn 140 [.ref (.data TTb k0)]] [] (.dat au) K =
 (∃m_,True/\bg (s84_0_v2 xs k0) Z0 (xs.length:Int) (F.cM xs k0) (fun v0:Unit=>True) (aU (fun v0:Unit=>True->K (dI (-1:Int)) []) (fun q0:Int=>K (dI q0) [])) m_ (s84_0_v2 xs k0 Z0 ())):=by kernel_rfl
theorem lvc84_0_v2 (xs:(List TBond.D)) (k0:LTb)  (i0:Int) (v0:Unit) (m:Nat) (K:KX):lvT C84 (L84_v2 xs k0) ann84_v2 f84 0 0 (s84_0_v2 xs k0 i0 v0) m K =
 (cond (decide (i0<(xs.length:Int))) ((0<=i0)/\(i0<(xs.length:Int))/\(Sm TBond (nth (t:=TBond) xs i0))/\(Sm TTb k0)/\cond (!M.aN k0 (nth (t:=TBond) xs i0)) (K .ret (⟨[(4,dI i0)],[]⟩:St)) (nxT (LP84_0_v2 xs k0) m K (s84_0_v2 xs k0 (wrap64 (i0+Z1)) ()))) (K (.exit 0) (⟨[],[]⟩:St))):=by kernel_rfl
theorem con84_ok:aP P 84 c84:=aR C84 func84 (kC con85_ok (kC con119_ok (kC con140_ok kN))) fun args hp K h0=>by
 rcases h0 with h0 | h0 | h0
 ·obtain⟨a0,a1,rfl,rfl,h1⟩:=bu h0
  obtain⟨xs,rfl,h2⟩:=bX h1
  obtain⟨cs1,rfl,h3⟩:=bK h2
  obtain⟨b1_0,rfl,h4⟩:=dM h3
  obtain⟨k0,rfl,h5⟩:=cK h4
  obtain⟨h_xs,h_k0,p0,hK⟩:=h5
  have h:ok (F.fD xs k0) (fun r=>K (dI r) []):=ak (F.jm xs k0 h_xs h_k0 p0) hK
  refine⟨rfl,ann84_v0,(L84_v0 xs k0),(.dat au),(aL (i0:=0) (by kernel_rfl) ?_),?_⟩
  ·rintro _ _ K ⟨hc0,i0,v0,rfl,hl0,rfl,hv0,h⟩
   exact cast (lvc84_0_v0 _ _ _ _ _ _).symm (aM h (fun ht0 h=>⟨hl0,⟨ht0,⟨(ay h_xs i0),⟨h_k0,(oG h fun _ h=>(oC h (fun _ h=>h) fun _ h=>(aG (fun _ hm=>⟨hc0,hm⟩) _ rfl hl0 dS ht0 (aS h_xs) trivial h)))⟩⟩⟩⟩) fun h=>(h trivial))
  ·rw[vc84_v0]
   exact(aE (fun m hm=>⟨trivial,hm⟩) Z0 _ rfl (Int.natCast_nonneg 0) trivial (aI h (fun v0 h hv0=>h) (fun q0 h=>h)))
 ·obtain⟨a0,a1,rfl,rfl,h1⟩:=bu h0
  obtain⟨xs,rfl,h2⟩:=bX h1
  obtain⟨cs1,rfl,h3⟩:=bK h2
  obtain⟨b1_0,rfl,h4⟩:=dM h3
  obtain⟨k0,rfl,h5⟩:=cK h4
  obtain⟨h_xs,h_k0,p0,hK⟩:=h5
  have h:ok (F.jJ xs k0) (fun r=>K (dI r) []):=ak (F.nJ xs k0 h_xs h_k0 p0) hK
  refine⟨rfl,ann84_v1,(L84_v1 xs k0),(.dat au),(aL (i0:=0) (by kernel_rfl) ?_),?_⟩
  ·rintro _ _ K ⟨hc0,i0,v0,rfl,hl0,rfl,hv0,h⟩
   exact cast (lvc84_0_v1 _ _ _ _ _ _).symm (aM h (fun ht0 h=>⟨hl0,⟨ht0,⟨(ay h_xs i0),⟨h_k0,(oG h fun _ h=>(oC h (fun _ h=>h) fun _ h=>(aG (fun _ hm=>⟨hc0,hm⟩) _ rfl hl0 dS ht0 (aS h_xs) trivial h)))⟩⟩⟩⟩) fun h=>(h trivial))
  ·rw[vc84_v1]
   exact(aE (fun m hm=>⟨trivial,hm⟩) Z0 _ rfl (Int.natCast_nonneg 0) trivial (aI h (fun v0 h hv0=>h) (fun q0 h=>h)))
 ·obtain⟨a0,a1,rfl,rfl,h1⟩:=bu h0
  obtain⟨xs,rfl,h2⟩:=bX h1
  obtain⟨cs1,rfl,h3⟩:=bK h2
  obtain⟨b1_0,rfl,h4⟩:=dM h3
  obtain⟨k0,rfl,h5⟩:=cK h4
  obtain⟨h_xs,h_k0,hK⟩:=h5
  have h:ok (F.ij xs k0) (fun r=>K (dI r) []):=ak (F.lS xs k0 h_xs h_k0) hK
  refine⟨rfl,ann84_v2,(L84_v2 xs k0),(.dat au),(aL (i0:=0) (by kernel_rfl) ?_),?_⟩
  ·rintro _ _ K ⟨hc0,i0,v0,rfl,hl0,rfl,hv0,h⟩
   exact cast (lvc84_0_v2 _ _ _ _ _ _).symm (aM h (fun ht0 h=>⟨hl0,⟨ht0,⟨(ay h_xs i0),⟨h_k0,(oC h (fun _ h=>h) fun _ h=>(aG (fun _ hm=>⟨hc0,hm⟩) _ rfl hl0 dS ht0 (aS h_xs) trivial h))⟩⟩⟩⟩) fun h=>(h trivial))
  ·rw[vc84_v2]
   exact(aE (fun m hm=>⟨trivial,hm⟩) Z0 _ rfl (Int.natCast_nonneg 0) trivial (aI h (fun v0 h hv0=>h) (fun q0 h=>h)))
def c118:Con:=⟨[.dat (Ty.sl TBond),.any],fun args hp K=>(args2 (fun a0 a1=>ja (Ty.sl TBond) a0 fun xs=>gj 119 a1 (nt (fun b1_0=>kQ TTb b1_0 fun k0=>(Sm (Ty.sl TBond) xs)/\(Sm TTb k0)/\(∀e∈xs,(M.aA k0&&M.aN k0 e)=true)/\K (dB (List.any xs (fun e=>decide (0<=M.broken k0 e)))) []))) args hp)\/(args2 (fun a0 a1=>ja (Ty.sl TBond) a0 fun xs=>gj 140 a1 (nt (fun b1_0=>kQ TTb b1_0 fun k0=>(Sm (Ty.sl TBond) xs)/\(Sm TTb k0)/\K (dB (List.any xs (fun e=>!M.aN k0 e))) []))) args hp),.bor,false⟩
abbrev C118:Ctx:=cx [(84,c84),(119,c119),(140,c140)] 9 [] 0 false
def ann118_v0:=an [[kp 3],[kp 16]] []
theorem vc118_v0 (xs:(List TBond.D)) (k0:LTb) (K:KA):vcT C118 aq ann118_v0 f118 [.data (Ty.sl TBond) xs,.fn 119 [.ref (.data TTb k0)]] [] (.dat Ty.bool) K =
 (False\/((Sm (Ty.sl TBond) xs)/\(Sm TTb k0)/\(∀e∈xs,(M.aA k0&&M.aN k0 e)=true)/\K (dB (decide (Z0<=(M.idx (t:=TBond) (fun e=>decide (0<=M.broken k0 e)) xs)))) [])\/False):=by kernel_rfl
def ann118_v1:=an [[kp 3],[kp 16]] []
theorem vc118_v1 (xs:(List TBond.D)) (k0:LTb) (K:KA):vcT C118 aq ann118_v1 f118 [.data (Ty.sl TBond) xs,.fn 140 [.ref (.data TTb k0)]] [] (.dat Ty.bool) K =
 (False\/False\/((Sm (Ty.sl TBond) xs)/\(Sm TTb k0)/\K (dB (decide (Z0<=(M.idx (t:=TBond) (fun e=>!M.aN k0 e) xs)))) [])):=by kernel_rfl
theorem con118_ok:aP P 118 c118:=aR C118 func118 (kC con84_ok (kC con119_ok (kC con140_ok kN))) fun args hp K h0=>by
 rcases h0 with h0 | h0
 ·obtain⟨a0,a1,rfl,rfl,h1⟩:=bu h0
  obtain⟨xs,rfl,h2⟩:=bX h1
  obtain⟨cs1,rfl,h3⟩:=bK h2
  obtain⟨b1_0,rfl,h4⟩:=dM h3
  obtain⟨k0,rfl,h5⟩:=cK h4
  obtain⟨h_xs,h_k0,p0,hK⟩:=h5
  have h:ok (F.eP xs k0) (fun r=>K (dB r) []):=ak (F.lO xs k0 h_xs h_k0 p0) hK
  refine⟨rfl,ann118_v0,aq,(.dat Ty.bool),(az (by kernel_rfl)),?_⟩
  ·rw[vc118_v0]
   exact(Or.inr (Or.inl (⟨h_xs,⟨h_k0,⟨p0,h⟩⟩⟩)))
 ·obtain⟨a0,a1,rfl,rfl,h1⟩:=bu h0
  obtain⟨xs,rfl,h2⟩:=bX h1
  obtain⟨cs1,rfl,h3⟩:=bK h2
  obtain⟨b1_0,rfl,h4⟩:=dM h3
  obtain⟨k0,rfl,h5⟩:=cK h4
  obtain⟨h_xs,h_k0,hK⟩:=h5
  have h:ok (F.dQ xs k0) (fun r=>K (dB r) []):=ak (F.jY xs k0 h_xs h_k0) hK
  refine⟨rfl,ann118_v1,aq,(.dat Ty.bool),(az (by kernel_rfl)),?_⟩
  ·rw[vc118_v1]
   exact(Or.inr (Or.inr (⟨h_xs,⟨h_k0,h⟩⟩)))
def c55:Con:=⟨[.dat TTb,.dat (Ty.sl TBond)],fun args hp K=>g2 (pD TTb) (pD (Ty.sl TBond)) (fun tables bonds=>(Sm TTb tables)/\(Sm (Ty.sl TBond) bonds)/\(∀e∈bonds,(M.aA tables&&M.aN tables e)=true)/\K (dB (!List.any bonds (fun e=>decide (0<=M.broken tables e)))) []) args hp,.bor,false⟩
abbrev C55:Ctx:=cx [(118,c118),(119,c119)] 9 [] 0 false
def ann55:=an [[.fixBox 2,kp 6],[kp 16]] []
theorem vc55 (tables:LTb) (bonds:(List TBond.D)) (K:KA):vcT C55 aq ann55 f55 [.data TTb tables,.data (Ty.sl TBond) bonds] [] (.dat Ty.bool) K =
 (((Sm (Ty.sl TBond) bonds)/\(Sm TTb tables)/\(∀e∈bonds,(M.aA tables&&M.aN tables e)=true)/\K (dB (!(List.any bonds (fun e=>decide (0<=M.broken tables e))))) [])\/False):=by kernel_rfl
theorem con55_ok:aP P 55 c55:=aR C55 func55 (kC con118_ok (kC con119_ok kN)) fun args hp K h0=>by
 obtain⟨tables,bonds,rfl,rfl,h_tables,h_bonds,p0,hK⟩:=g2e h0
 have h:ok (F.BG tables bonds) (fun r=>K (dB r) []):=ak (F.CF tables bonds h_tables h_bonds p0) hK
 refine⟨rfl,ann55,aq,(.dat Ty.bool),(az (by kernel_rfl)),?_⟩
 ·rw[vc55]
  exact(Or.inl (⟨h_bonds,⟨h_tables,⟨p0,h⟩⟩⟩))
def c77:Con:=⟨[.dat TTb,.dat (Ty.sl TBond)],fun args hp K=>g2 (pD TTb) (pD (Ty.sl TBond)) (fun tables bonds=>(Sm TTb tables)/\(Sm (Ty.sl TBond) bonds)/\K (dB (M.aA tables&&List.all bonds (M.aN tables))) []) args hp,.plain,false⟩
abbrev C77:Ctx:=cx [(28,c28),(118,c118),(140,c140)] 13 [] 0 false
def ann77:=an [[.fixBox 2,kp 6],[kp 16]] []
theorem vc77 (tables:LTb) (bonds:(List TBond.D)) (K:KA):vcT C77 aq ann77 f77 [.data TTb tables,.data (Ty.sl TBond) bonds] [] (.dat Ty.bool) K =
 ((Sm TTb tables)/\cond ((M.aA tables)==true) (False\/((Sm (Ty.sl TBond) bonds)/\(Sm TTb tables)/\K (dB (!(List.any bonds (fun e=>!M.aN tables e)))) [])) (K (dB false) [])):=by kernel_rfl
theorem con77_ok:aP P 77 c77:=aR C77 func77 (kC con28_ok (kC con118_ok (kC con140_ok kN))) fun args hp K h0=>by
 obtain⟨tables,bonds,rfl,rfl,h_tables,h_bonds,hK⟩:=g2e h0
 have h:ok (F.pL tables bonds) (fun r=>K (dB r) []):=ak (F.xS tables bonds h_tables h_bonds) hK
 refine⟨rfl,ann77,aq,(.dat Ty.bool),(az (by kernel_rfl)),?_⟩
 ·rw[vc77]
  exact⟨h_tables,(oC h (fun _ h=>(Or.inr (⟨h_bonds,⟨h_tables,h⟩⟩))) fun _ h=>h)⟩
def c37:Con:=⟨[.dat TTb,.dat (Ty.sl TBond),.dat TChange],fun args hp K=>g3 (pD TTb) (pD (Ty.sl TBond)) (pD TChange) (fun tables bonds c=>(Sm TTb tables)/\(Sm (Ty.sl TBond) bonds)/\(Sm TChange c)/\(LD (M.bR tables bonds c) fun r=>K (.tup [.own 0 none,dB r.2]) [(0,.arr .dp TTable r.1)])) args hp,.bor,false⟩
abbrev C37:Ctx:=cx [(27,c27),(55,c55),(77,c77),(84,c84),(85,c85),(86,c86),(87,c87)] 65 [(88,T88)] 0 true
def ann37:=an [[.fixRow 5 TChange,kp 35],[.fixBox 8,kp 771],[kp 2147483906],[kp 192],[kp 2147484930],[kp 70866961666],[.fixRow 11 TBond,kp 2147485954],[kp 2147490050],[kp 2147483906],[.keep [8,63]],[kp 192],[kp 192]] [[kp 258]]
abbrev s37_0 (tables:LTb) (bonds:(List TBond.D)) (c:TChange.D) (v0:LTb):St:=⟨[(1,.data (Ty.sl TBond) bonds),(8,.ref (.own 16 none)),(31,dB (!(M.aA tables&&List.all bonds (M.aN tables))))],[(16,.arr .dp TTable v0)]⟩
abbrev LP37_0 (tables:LTb) (bonds:(List TBond.D)) (c:TChange.D) (m:Nat) (st_:St) (K:KX):Prop:=True/\jH (s37_0 tables bonds c) (F.dA tables bonds c) (fun v0:LTb=>True) (fun e0:LTb=>True->K (.exit 0) (⟨[(1,.data (Ty.sl TBond) bonds),(8,.ref (.own 16 none))],[(16,.arr .dp TTable e0)]⟩:St)) m st_
def L37 (tables:LTb) (bonds:(List TBond.D)) (c:TChange.D):aX:=lp1 0 (LP37_0 tables bonds c)
theorem vc37 (tables:LTb) (bonds:(List TBond.D)) (c:TChange.D) (K:KA):vcT C37 (L37 tables bonds c) ann37 f37 [.data TTb tables,.data (Ty.sl TBond) bonds,.data TChange c] [] .raw K =
 ((Sm TTb tables)/\(Sm TChange c)/\(LD (cond (M.aV tables c) (M.bt tables c) [],M.aV tables c) fun r1=>cond ((!r1.2)==false) (cond ((decide (Z4<(bonds.length:Int)))==false) ((Sm TTb tables)/\(Sm (Ty.sl TBond) bonds)/\cond (!(M.aA tables&&List.all bonds (M.aN tables))) (K (.tup [.own 0 none,dB false]) [(0,.arr .dp TTable [])]) (∃m_,True/\jH (s37_0 tables bonds c) (F.dA tables bonds c) (fun v0:LTb=>True) (fun e0:LTb=>True->(Sm TTb e0)/\(Sm (Ty.sl TBond) bonds)/\(∀e∈bonds,(M.aA e0&&M.aN e0 e)=true)/\cond (!(!List.any bonds (fun e=>decide (0<=M.broken e0 e)))) (K (.tup [.own 0 none,dB false]) [(0,.arr .dp TTable [])]) (K (.tup [.own 0 none,dB true]) [(0,.arr .dp TTable e0)])) m_ (s37_0 tables bonds c r1.1))) (K (.tup [.own 0 none,dB false]) [(0,.arr .dp TTable [])])) (K (.tup [.own 0 none,dB false]) [(0,.arr .dp TTable [])]))):=by kernel_rfl
theorem lvc37_0 (tables:LTb) (bonds:(List TBond.D)) (c:TChange.D)  (v0:LTb) (m:Nat) (K:KX):lvT C37 (L37 tables bonds c) ann37 f37 0 0 (s37_0 tables bonds c v0) m K =
 (((Sm (Ty.sl TBond) bonds)/\(Sm TTb v0)/\(∀e∈bonds,(M.aA v0&&M.aN v0 e)=true)/\cond (decide ((M.idx (t:=TBond) (fun e=>M.loose v0 e) bonds)<Z0)) (K (.exit 0) (⟨[(1,.data (Ty.sl TBond) bonds),(8,.ref (.own 16 none))],[(16,.arr .dp TTable v0)]⟩:St)) ((0<=(M.idx (t:=TBond) (fun e=>M.loose v0 e) bonds))/\((M.idx (t:=TBond) (fun e=>M.loose v0 e) bonds)<(bonds.length:Int))/\(Sm TBond (nth (t:=TBond) bonds (M.idx (t:=TBond) (fun e=>M.loose v0 e) bonds)))/\(Sm TTb v0)/\((M.aA v0&&M.aN v0 (nth (t:=TBond) bonds (M.idx (t:=TBond) (fun e=>M.loose v0 e) bonds)))=true)/\(0<=(nth (t:=TBond) bonds (M.idx (t:=TBond) (fun e=>M.loose v0 e) bonds)).2.1)/\((nth (t:=TBond) bonds (M.idx (t:=TBond) (fun e=>M.loose v0 e) bonds)).2.1<(v0.length:Int))/\(0<=(M.broken v0 (nth (t:=TBond) bonds (M.idx (t:=TBond) (fun e=>M.loose v0 e) bonds))))/\((M.broken v0 (nth (t:=TBond) bonds (M.idx (t:=TBond) (fun e=>M.loose v0 e) bonds)))<=wrap64 ((M.broken v0 (nth (t:=TBond) bonds (M.idx (t:=TBond) (fun e=>M.loose v0 e) bonds)))+Z1))/\(wrap64 ((M.broken v0 (nth (t:=TBond) bonds (M.idx (t:=TBond) (fun e=>M.loose v0 e) bonds)))+Z1)<=((nT v0 (nth (t:=TBond) bonds (M.idx (t:=TBond) (fun e=>M.loose v0 e) bonds)).2.1).2.1.length:Int))/\(Sm (Ty.sl TVS) ((nT v0 (nth (t:=TBond) bonds (M.idx (t:=TBond) (fun e=>M.loose v0 e) bonds)).2.1).2.1.take (M.broken v0 (nth (t:=TBond) bonds (M.idx (t:=TBond) (fun e=>M.loose v0 e) bonds))).toNat++(nT v0 (nth (t:=TBond) bonds (M.idx (t:=TBond) (fun e=>M.loose v0 e) bonds)).2.1).2.1.drop (wrap64 ((M.broken v0 (nth (t:=TBond) bonds (M.idx (t:=TBond) (fun e=>M.loose v0 e) bonds)))+Z1)).toNat))/\(LD ((nT v0 (nth (t:=TBond) bonds (M.idx (t:=TBond) (fun e=>M.loose v0 e) bonds)).2.1).2.1.take (M.broken v0 (nth (t:=TBond) bonds (M.idx (t:=TBond) (fun e=>M.loose v0 e) bonds))).toNat++(nT v0 (nth (t:=TBond) bonds (M.idx (t:=TBond) (fun e=>M.loose v0 e) bonds)).2.1).2.1.drop (wrap64 ((M.broken v0 (nth (t:=TBond) bonds (M.idx (t:=TBond) (fun e=>M.loose v0 e) bonds)))+Z1)).toNat) fun r2=>(0<=(nth (t:=TBond) bonds (M.idx (t:=TBond) (fun e=>M.loose v0 e) bonds)).2.1)/\((nth (t:=TBond) bonds (M.idx (t:=TBond) (fun e=>M.loose v0 e) bonds)).2.1<((v0.set (nth (t:=TBond) bonds (M.idx (t:=TBond) (fun e=>M.loose v0 e) bonds)).2.1.toNat ((nT v0 (nth (t:=TBond) bonds (M.idx (t:=TBond) (fun e=>M.loose v0 e) bonds)).2.1).1,([],()))).length:Int))/\((nth (t:=TBond) bonds (M.idx (t:=TBond) (fun e=>M.loose v0 e) bonds)).2.1=(nth (t:=TBond) bonds (M.idx (t:=TBond) (fun e=>M.loose v0 e) bonds)).2.1)/\(let y1:LTb:=((v0.set (nth (t:=TBond) bonds (M.idx (t:=TBond) (fun e=>M.loose v0 e) bonds)).2.1.toNat ((nT v0 (nth (t:=TBond) bonds (M.idx (t:=TBond) (fun e=>M.loose v0 e) bonds)).2.1).1,([],()))).set (nth (t:=TBond) bonds (M.idx (t:=TBond) (fun e=>M.loose v0 e) bonds)).2.1.toNat ((nT (v0.set (nth (t:=TBond) bonds (M.idx (t:=TBond) (fun e=>M.loose v0 e) bonds)).2.1.toNat ((nT v0 (nth (t:=TBond) bonds (M.idx (t:=TBond) (fun e=>M.loose v0 e) bonds)).2.1).1,([],()))) (nth (t:=TBond) bonds (M.idx (t:=TBond) (fun e=>M.loose v0 e) bonds)).2.1).1,((aB r2 (some (Z0,(r2.length:Int)))),())));(nxT (LP37_0 tables bonds c) m K (s37_0 tables bonds c y1))))))\/False\/False):=by kernel_rfl
theorem con37_ok:aP P 37 c37:=aR C37 func37 (kC con27_ok (kC con55_ok (kC con77_ok (kC con84_ok (kC con85_ok (kC con86_ok (kC con87_ok (kI inlOk88 kN)))))))) fun args hp K h0=>by
 obtain⟨tables,bonds,c,rfl,rfl,h_tables,h_bonds,h_c,hK⟩:=g3e h0
 have h:ok (F.ju tables bonds c) (fun r=>K (.tup [.own 0 none,dB r.2]) [(0,.arr .dp TTable r.1)]):=ak (F.rF tables bonds c h_tables h_bonds h_c) (hK _ rfl)
 refine⟨rfl,ann37,(L37 tables bonds c),.raw,(aL (i0:=0) (by kernel_rfl) ?_),?_⟩
 ·rintro _ _ K ⟨hc0,v0,rfl,hv0,h⟩
  exact cast (lvc37_0 _ _ _ _ _ _).symm (gI h (fun m1 hm0 h=>(Or.inl (⟨h_bonds,(oG h fun g1 h=>(oG h fun _ h=>(oC h (fun _ h=>((lz h :) trivial)) fun _ h=>(oG h fun _ h=>(oG h fun _ h=>⟨(ay h_bonds (M.idx (t:=TBond) (fun e=>M.loose v0 e) bonds)),⟨g1,(oG h fun _ h=>(oG h fun g2 h=>(oG h fun _ h=>(oG h fun _ h=>(oG h fun _ h=>(oG h fun _ h=>(oG h fun _ h=>(oL h fun _ _ h=>⟨g2,(oG h fun _ h=>⟨rfl,(have h:=fH h _ rfl;(eN (fun _ hm=>⟨hc0,hm⟩) hm0 _ rfl trivial h))⟩)⟩))))))))⟩⟩)))))⟩))))
 ·rw[vc37]
  exact⟨h_tables,⟨h_c,(oL h fun _ _ h=>(oC h (fun _ h=>(oC h (fun _ h=>⟨h_tables,⟨h_bonds,(oC h (fun _ h=>h) fun _ h=>(fE (fun m hm=>⟨trivial,hm⟩) _ rfl trivial (pK h (fun e0 h hv0=>(oG h fun _ h=>⟨h_bonds,(oG h fun _ h=>(oC h (fun _ h=>h) fun _ h=>h))⟩)))))⟩⟩) fun _ h=>h)) fun _ h=>h))⟩⟩
def c38:Con:=⟨[.dat TChange,.dat TChange],fun args hp K=>g2 (pD TChange) (pD TChange) (fun x y=>(Sm TChange x)/\(Sm TChange y)/\(x=y)/\K (dB true) []) args hp,.bor,false⟩
abbrev C38:Ctx:=cx [(89,c89)] 21 [] 0 false
def ann38:=an [[.fixRow 2 TChange,.fixRow 3 TChange,kp 12],[kp 524],[kp 16],[kp 32780],[kp 16],[kp 1048576],[kp 16],[kp 16]] []
theorem vc38 (x:TChange.D) (y:TChange.D) (K:KA):vcT C38 aq ann38 f38 [.data TChange x,.data TChange y] [] (.dat Ty.bool) K =
 (cond (!decide (x.1=y.1)) (K (dB false) []) ((Sm TVS x.2.1)/\(Sm TVS y.2.1)/\(x.2.1=y.2.1)/\cond (!true) (K (dB false) []) (cond (!(Ty.beq Ty.bool x.2.2.1 y.2.2.1)) (K (dB false) []) (K (dB true) [])))):=by kernel_rfl
theorem con38_ok:aP P 38 c38:=aR C38 func38 (kC con89_ok kN) fun args hp K h0=>by
 obtain⟨x,y,rfl,rfl,h_x,h_y,p0,hK⟩:=g2e h0
 have h:ok (F.nK x y) (fun r=>K (dB r) []):=ak (F.wL x y h_x h_y p0) hK
 refine⟨rfl,ann38,aq,(.dat Ty.bool),(az (by kernel_rfl)),?_⟩
 ·rw[vc38]
  exact(oC h (fun _ h=>h) fun _ h=>⟨h_x.2.1,⟨h_y.2.1,(oG h fun _ h=>(oC h (fun _ h=>h) fun _ h=>(oC h (fun _ h=>h) fun _ h=>h)))⟩⟩)
abbrev C39:Ctx:=cx [(62,c62)] 10 [] 900000 true
def T39:Inl:=vW C39 (fun _=>[]) (dL f39) f39.results.toList
theorem inlOk39:vL P 39 T39:=CB C39 func39 (kC con62_ok kN)
def c6:Con:=⟨[.dat TTb,.dat (Ty.sl TBond),.dat TChange],fun args hp K=>g3 (pD TTb) (pD (Ty.sl TBond)) (pD TChange) (fun aTables aBonds aC=>(Ln TTb aTables)/\(Ln (Ty.sl TBond) aBonds)/\(Ln TChange aC)/\K (dB true) []) args hp,.plain,false⟩
abbrev C6:Ctx:=cx [(9,c9),(10,c10),(13,c13),(14,c14),(17,c17),(18,c18),(20,c20),(21,c21),(23,c23),(34,c34),(35,c35),(37,c37),(38,c38)] 142 [(36,T36),(39,T39)] 0 true
def ann6:=an [[.fixRow 5 TChange,kp 35],[kp 163],[kp 163],[kp 16777379],[kp 64],[kp 163],[kp 536871075],[kp 64],[kp 163],[kp 17179869219],[kp 64],[kp 803],[kp 1827],[kp 3875],[.Hu 12 1 800199,.fixRow 12 TChange,kp 7971],[kp 32547],[kp 73786976294838239011],[kp 64],[kp 2361183241434822639395],[kp 64],[kp 75557863725914323451683],[kp 64],[kp 2417851639229258349444899],[kp 64],[kp 65315],[kp 64291],[kp 62243],[kp 58147],[.keep [0,1,5,8,9,13,103]],[kp 64],[kp 74531],[kp 74531],[kp 205603],[kp 205603],[kp 2596148429267413814265248164815651],[kp 64],[.keep [0,1,5,8,9,13,16,114]],[kp 64],[kp 860928],[.keep [13,16,133]],[kp 64],[kp 204800],[kp 196608],[.keep [16,17,138]],[kp 64],[.keep [141]],[kp 64],[kp 64]] []
theorem vc6 (aTables:LTb) (aBonds:(List TBond.D)) (aC:TChange.D) (K:KA):vcT C6 aq ann6 f6 [.data TTb aTables,.data (Ty.sl TBond) aBonds,.data TChange aC] [] (.dat Ty.bool) K =
 ((Ln TTb aTables)/\(0<=(1048576:Int))/\((1048576:Int)<=1048576)/\cond (decide ((M.szS M.bH aTables (1048576:Int))<Z0)) (K (dB true) []) ((Ln (Ty.sl TBond) aBonds)/\(0<=(M.szS M.bH aTables (1048576:Int)))/\((M.szS M.bH aTables (1048576:Int))<=1048576)/\cond (decide ((M.szS M.dj aBonds (M.szS M.bH aTables (1048576:Int)))<Z0)) (K (dB true) []) ((Ln TChange aC)/\(0<=(M.szS M.dj aBonds (M.szS M.bH aTables (1048576:Int))))/\((M.szS M.dj aBonds (M.szS M.bH aTables (1048576:Int)))<=1048576)/\cond (decide ((M.ir aC (M.szS M.dj aBonds (M.szS M.bH aTables (1048576:Int))))<Z0)) (K (dB true) []) ((Sm TTb aTables)/\(LD aTables fun r1=>(Sm (Ty.sl TBond) aBonds)/\(LD aBonds fun r2=>(Sm TVS aC.2.1)/\(LD aC.2.1 fun r3=>(Sm TTb r1)/\(Sm (Ty.sl TBond) r2)/\(Sm TChange (aC.1,(r3,aC.2.2)))/\(LD (M.bR r1 r2 (aC.1,(r3,aC.2.2))) fun r4=>(Sm TTb aTables)/\(LD aTables fun r5=>(Sm (Ty.sl TBond) aBonds)/\(LD aBonds fun r6=>(Sm TVS aC.2.1)/\(LD aC.2.1 fun r7=>(Sm TTb r5)/\(Sm (Ty.sl TBond) r6)/\(Sm TChange (aC.1,(r7,aC.2.2)))/\(LD (M.bR r5 r6 (aC.1,(r7,aC.2.2))) fun r8=>(Sm TTb r8.1)/\(Sm TTb r4.1)/\(r8.1=r4.1)/\cond ((!true)==false) (cond (!(Ty.beq Ty.bool r8.2 r4.2)) (K (dB false) []) ((Sm TTb aTables)/\(LD aTables fun r9=>(Sm TTb r5)/\(Sm TTb r9)/\(r5=r9)/\cond (!true) (K (dB false) []) ((Sm (Ty.sl TBond) aBonds)/\(LD aBonds fun r10=>(Sm (Ty.sl TBond) r6)/\(Sm (Ty.sl TBond) r10)/\(r6=r10)/\cond (!true) (K (dB false) []) (Q0 ((Sm TVS aC.2.1)/\(LD aC.2.1 fun r11=>(Sm TChange (aC.1,(r7,aC.2.2)))/\(Sm TChange (aC.1,(r11,aC.2.2)))/\((aC.1,(r7,aC.2.2))=(aC.1,(r11,aC.2.2)))/\cond (!true) (K (dB false) []) (((r5.length:Int)=(r5.length:Int))/\(Ln TTb r5)/\(0<=Z1)/\(Z1+(M.count TTb r5:Int)<=M.big)/\(LD (M.mark TTb r5 Z1,Z1+(M.count TTb r5:Int)) fun r12=>(r12.1.length=r5.length)/\((r6.length:Int)=(r6.length:Int))/\(Ln (Ty.sl TBond) r6)/\(0<=r12.2)/\(r12.2+(M.count (Ty.sl TBond) r6:Int)<=M.big)/\(LD (M.mark (Ty.sl TBond) r6 r12.2,r12.2+(M.count (Ty.sl TBond) r6:Int)) fun r13=>(r13.1.length=r6.length)/\((r7.length:Int)=(r7.length:Int))/\(Ln TVS r7)/\(0<=r13.2)/\(r13.2+(M.count TVS r7:Int)<=M.big)/\(LD (M.mark TVS r7 r13.2,r13.2+(M.count TVS r7:Int)) fun r14=>(r14.1.length=r7.length)/\cond ((decide (r14.2<Z0))==false) ((Sm TTb r8.1)/\(Sm TTb r4.1)/\(r8.1=r4.1)/\cond ((!true)==false) (cond (!(Ty.beq Ty.bool r8.2 r4.2)) (K (dB false) []) (((r8.1.length:Int)=(r8.1.length:Int))/\(Ln TTb r8.1)/\(0<=Z1)/\(Z1+(M.count TTb r8.1:Int)<=M.big)/\(LD (M.mark TTb r8.1 Z1,Z1+(M.count TTb r8.1:Int)) fun r15=>(r15.1.length=r8.1.length)/\(Ln TTb r15.1)/\(0<=Z1)/\(Z1+(M.count TTb r15.1:Int)<=M.big)/\(M.mark TTb r15.1 Z1=r15.1)/\cond (decide ((Z1+(M.count TTb r15.1:Int))<Z0)) (K (dB false) []) (cond (!decide ((Z1+(M.count TTb r15.1:Int))=r15.2)) (K (dB false) []) ((Sm TTb aTables)/\(LD aTables fun r16=>(Sm (Ty.sl TBond) aBonds)/\(LD aBonds fun r17=>(Sm TVS aC.2.1)/\(LD aC.2.1 fun r18=>(Sm TTb r16)/\(Sm (Ty.sl TBond) r17)/\(Sm TChange (aC.1,(r18,aC.2.2)))/\(LD (M.bR r16 r17 (aC.1,(r18,aC.2.2))) fun r19=>(Sm TTb r19.1)/\(Sm TTb r4.1)/\(r19.1=r4.1)/\cond ((!true)==false) (cond (!(Ty.beq Ty.bool r19.2 r4.2)) (K (dB false) []) ((Ln TTb r15.1)/\(0<=Z1)/\(Z1+(M.count TTb r15.1:Int)<=M.big)/\(M.mark TTb r15.1 Z1=r15.1)/\cond (decide ((Z1+(M.count TTb r15.1:Int))<Z0)) (K (dB false) []) (cond (!decide ((Z1+(M.count TTb r15.1:Int))=r15.2)) (K (dB false) []) (K (dB true) [])))) (K (dB false) [])))))))))) (K (dB false) [])) (K (dB false) []))))))))))))) (K (dB false) []))))))))))))):=by kernel_rfl
theorem con6_ok:aP P 6 c6:=aR C6 func6 (kC con9_ok (kC con10_ok (kC con13_ok (kC con14_ok (kC con17_ok (kC con18_ok (kC con20_ok (kC con21_ok (kC con23_ok (kC con34_ok (kC con35_ok (kC con37_ok (kC con38_ok (kI inlOk36 (kI inlOk39 kN))))))))))))))) fun args hp K h0=>by
 obtain⟨aTables,aBonds,aC,rfl,rfl,h_aTables,h_aBonds,h_aC,hK⟩:=g3e h0
 have h:ok (F.eR aTables aBonds aC) (fun r=>K (dB r) []):=ak (F.lT aTables aBonds aC h_aTables h_aBonds h_aC) hK
 refine⟨rfl,ann6,aq,(.dat Ty.bool),(az (by kernel_rfl)),?_⟩
 ·rw[vc6]
  exact⟨h_aTables,(oG h fun _ h=>(oG h fun _ h=>(oC h (fun _ h=>h) fun _ h=>⟨h_aBonds,(oG h fun _ h=>(oG h fun _ h=>(oC h (fun _ h=>h) fun _ h=>⟨h_aC,(oG h fun _ h=>(oG h fun _ h=>(oC h (fun _ h=>h) fun _ h=>(oG h fun g1 h=>(oL h fun _ _ h=>(oG h fun g2 h=>(oL h fun _ _ h=>(oG h fun g3 h=>(oL h fun _ _ h=>(oG h fun _ h=>(oG h fun _ h=>(oG h fun _ h=>(oL h fun _ _ h=>⟨g1,(oL h fun _ _ h=>⟨g2,(oL h fun _ _ h=>⟨g3,(oL h fun _ _ h=>(oG h fun g4 h=>(oG h fun g5 h=>(oG h fun g6 h=>(oL h fun _ _ h=>(oG h fun g7 h=>(oG h fun g8 h=>(oG h fun g9 h=>(oC h (fun b_20022 h=>(oC h (fun _ h=>h) fun b_20023 h=>⟨g1,(oL h fun _ _ h=>⟨g4,(oG h fun _ h=>(oG h fun _ h=>(dN (unf (bnf (bgt b_20022))) ⟨g2,(oL h fun _ _ h=>⟨g5,(oG h fun _ h=>(oG h fun _ h=>(dN (unf (bnf (bgt b_20022))) (q0 (⟨g3,(oL h fun _ _ h=>⟨g6,(oG h fun _ h=>(oG h fun _ h=>(dN (unf (bnf (bgt b_20022))) ⟨rfl,(oG h fun _ h=>(oG h fun g10 h=>(oG h fun _ h=>(oL h fun _ er12 h=>⟨(by rw[er12];exact(M.fQ TTable _ _)),⟨rfl,(oG h fun _ h=>(oG h fun _ h=>(oG h fun _ h=>(oL h fun _ er13 h=>⟨(by rw[er13];exact(M.fQ TBond _ _)),⟨rfl,(oG h fun _ h=>(oG h fun _ h=>(oG h fun _ h=>(oL h fun _ er14 h=>⟨(by rw[er14];exact(M.fQ aa _ _)),(oC h (fun _ h=>⟨g7,⟨g8,⟨g9,(fJ (ugt (unf (bnf (bgt b_20022)))) (dN (unf (bnf b_20023)) ⟨rfl,(oG h fun _ h=>⟨g10,(oG h fun _ h=>(oL h fun _ er15 h=>⟨(by rw[er15];exact(M.fQ TTable _ _)),(oG h fun g11 h=>⟨g10,(oG h fun g12 h=>(oG h fun g13 h=>(oC h (fun _ h=>h) fun b_40050 h=>(oC h (fun _ h=>h) fun b_40051 h=>⟨g1,(oL h fun _ _ h=>⟨g2,(oL h fun _ _ h=>⟨g3,(oL h fun _ _ h=>(oG h fun _ h=>(oG h fun _ h=>(oG h fun _ h=>(oL h fun _ _ h=>(oG h fun _ h=>⟨g8,(oG h fun _ h=>(fJ (ugt (unf (bnf (bgt b_20022)))) (oC h (fun _ h=>h) fun _ h=>⟨g11,⟨g10,⟨g12,⟨g13,(dN b_40050 (dN (unf (bnf b_40051)) h))⟩⟩⟩⟩)))⟩))))))⟩)⟩)⟩))))⟩)⟩))⟩)⟩))⟩⟩⟩) fun _ h=>h)⟩))))⟩⟩))))⟩⟩))))⟩)))⟩)⟩)))))⟩)⟩)))⟩)⟩)) fun _ h=>h)))))))))⟩)⟩)⟩)))))))))))))⟩)))⟩)))⟩
end Go.AE
