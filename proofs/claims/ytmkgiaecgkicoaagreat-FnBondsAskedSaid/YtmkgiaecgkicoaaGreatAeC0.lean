/- Contracts. -/
import Derived.Test.YtmkgiaecgkicoaaGreatAeMN
import Derived.Test.YtmkgiaecgkicoaaGreatAeEq
import Derived.Test.YtmkgiaecgkicoaaGreatAeDel
namespace Go.AE
open Go Go.RowKit Go.Proofs.Tryz
set_option maxRecDepth 100000
set_option maxHeartbeats 2000000
set_option linter.unusedVariables false
abbrev Q0 (p:Prop):Prop:=(p/\p)
theorem q0 {p:Prop} (h:p):Q0 p:=⟨h,h⟩
abbrev Q1 (p:Prop):Prop:=(p/\(p/\(p/\p)))
theorem q1 {p:Prop} (h:p):Q1 p:=⟨h,⟨h,⟨h,h⟩⟩⟩
abbrev Q2 (p:Prop):Prop:=(p/\(p/\p))
theorem q2 {p:Prop} (h:p):Q2 p:=⟨h,⟨h,h⟩⟩
def c132:Con:=⟨[.dat az,.dat az,.dat az],fun args hp K=>g3 (pD az) (pD az) (pD az) (fun n low high=>K (dB (M.inR n low high)) []) args hp,.plain,false⟩
abbrev C132:Ctx:=cx [] 15 [] 0 false
def ann132:=an [[kp 7],[kp 64]] []
theorem vc132 (n:Int) (low:Int) (high:Int) (K:KA):vcT C132 ay ann132 f132 [dI n,dI low,dI high] [] (.dat Ty.bool) K =
 (cond ((decide (low<=n))==true) (K (dB (decide (n<=high))) []) (K (dB false) [])):=by kernel_rfl
theorem con132_ok:aV P 132 c132:=bf C132 func132 kN fun args hp K h0=>by
 obtain⟨n,low,high,rfl,rfl,hK⟩:=g3e h0
 have h:ok (F.oQ n low high) (fun r=>K (dB r) []):=aC (F.xu n low high) hK
 refine⟨rfl,ann132,ay,(.dat Ty.bool),(aG (by kernel_rfl)),?_⟩
 ·rw[vc132]
  exact(oC h (fun _ h=>h) fun _ h=>h)
def c189:Con:=⟨[.dat Ty.str],fun args hp K=>g1 (pD Ty.str) (fun s=>(Sm Ty.str s)/\K (dB (M.lower (bL s))) []) args hp,.plain,false⟩
abbrev C189:Ctx:=cx [(132,c132)] 17 [] 0 false
def ann189:=an [[kp 1],[kp 448],[kp 960],[kp 464],[kp 33216],[kp 4],[kp 448],[kp 4]] [[kp 0]]
abbrev s189_0 (s:ByteArray) (i0:Int) (v0:Unit):St:=⟨[(6,.data TBy (bL s)),(7,dI ((bL s).length:Int)),(8,dI i0)],[]⟩
abbrev LP189_0 (s:ByteArray) (m:Nat) (st_:St) (K:KX):Prop:=True/\cU (t:=(Ty.int .u8)) (s189_0 s) (bL s) (F.iD s) (fun v0:Unit=>True) (bB (fun v0:Unit=>True->K (.exit 0) (⟨[],[]⟩:St)) (fun q0:Unit=>K .ret (⟨[(2,dB false)],[]⟩:St))) m st_
def L189 (s:ByteArray):bD:=lp1 0 (LP189_0 s)
theorem vc189 (s:ByteArray) (K:KA):vcT C189 (L189 s) ann189 f189 [.data Ty.str s] [] (.dat Ty.bool) K =
 (∃m_,True/\cU (t:=(Ty.int .u8)) (s189_0 s) (bL s) (F.iD s) (fun v0:Unit=>True) (bB (fun v0:Unit=>True->K (dB true) []) (fun q0:Unit=>K (dB false) [])) m_ (s189_0 s Z0 ())):=by kernel_rfl
theorem lvc189_0 (s:ByteArray)  (i0:Int) (v0:Unit) (m:Nat) (K:KX):lvT C189 (L189 s) ann189 f189 0 0 (s189_0 s i0 v0) m K =
 (cond (decide (i0<((bL s).length:Int))) ((0<=i0)/\(i0<((bL s).length:Int))/\cond (!(M.inR (wrap64 (nth (t:=(Ty.int .u8)) (bL s) i0)) (97:Int) (122:Int))) (K .ret (⟨[(2,dB false)],[]⟩:St)) (nxT (LP189_0 s) m K (s189_0 s (wrap64 (i0+Z1)) ()))) (K (.exit 0) (⟨[],[]⟩:St))):=by kernel_rfl
theorem con189_ok:aV P 189 c189:=bf C189 func189 (kC con132_ok kN) fun args hp K h0=>by
 obtain⟨s,rfl,rfl,h_s,hK⟩:=g1e h0
 have h:ok (F.pL s) (fun r=>K (dB r) []):=aC (F.xp s h_s) hK
 refine⟨rfl,ann189,(L189 s),(.dat Ty.bool),(bt (i0:=0) (by kernel_rfl) ?_),?_⟩
 ·rintro _ _ K ⟨hc0,i0,v0,rfl,hl0,rfl,hv0,h⟩
  exact cast (lvc189_0 _ _ _ _ _).symm (bW (t:=(Ty.int .u8)) hl0 h (fun ht0 h=>⟨hl0,⟨ht0,(oC h (fun _ h=>h) fun _ h=>(bU (t:=(Ty.int .u8)) (fun _ hm=>⟨hc0,hm⟩) _ rfl hl0 ht0 (bu (FC h_s)) trivial h))⟩⟩) fun h=>(h trivial))
 ·rw[vc189]
  exact(bN (t:=(Ty.int .u8)) (fun m hm=>⟨trivial,hm⟩) _ rfl trivial (bp h (fun v0 h hv0=>h) (fun q0 h=>h)))
def c131:Con:=⟨[.dat aa],fun args hp K=>g1 (pD aa) (fun v=>(Sm aa v)/\K (dB (M.aN v)) []) args hp,.plain,false⟩
abbrev C131:Ctx:=cx [(132,c132),(189,c189)] 46 [] 0 false
def ann131:=an [[.fixRow 1 aa,kp 2],[kp 18],[kp 50],[kp 4],[kp 1042],[kp 4],[kp 1048594],[kp 4],[.keep [1,36]],[kp 4],[kp 4]] []
theorem vc131 (v:aa.D) (K:KA):vcT C131 ay ann131 f131 [.data aa v] [] (.dat Ty.bool) K =
 (cond (decide (v.1=Z0)) (K (dB (Ty.beq aa v (Z0,(Z0,((⟨#[]⟩:ByteArray),()))))) []) (cond (decide (v.1=Z1)) (cond ((decide (v.2.2.1=(⟨#[]⟩:ByteArray)))==true) (K (dB (M.inR v.2.1 (-9999:Int) (9999:Int))) []) (K (dB false) [])) (cond (decide (v.1=Z2)) (cond ((decide (v.2.1=Z0))==true) (cond ((decide ((v.2.2.1.size:Int)<=Z6))==true) ((Sm Ty.str v.2.2.1)/\K (dB (M.lower (bL v.2.2.1))) []) (K (dB false) [])) (K (dB false) [])) (cond (decide (v.1=Z3)) (cond ((decide (v.2.2.1=(⟨#[]⟩:ByteArray)))==true) (K (dB (M.inR v.2.1 Z0 Z1)) []) (K (dB false) [])) (K (dB false) []))))):=by kernel_rfl
theorem con131_ok:aV P 131 c131:=bf C131 func131 (kC con132_ok (kC con189_ok kN)) fun args hp K h0=>by
 obtain⟨v,rfl,rfl,h_v,hK⟩:=g1e h0
 have h:ok (F.nr v) (fun r=>K (dB r) []):=aC (F.vH v h_v) hK
 refine⟨rfl,ann131,ay,(.dat Ty.bool),(aG (by kernel_rfl)),?_⟩
 ·rw[vc131]
  exact(oC h (fun _ h=>h) fun _ h=>(oC h (fun _ h=>(oC h (fun _ h=>h) fun _ h=>h)) fun _ h=>(oC h (fun _ h=>(oC h (fun _ h=>(oC h (fun _ h=>⟨h_v.2.2.1,h⟩) fun _ h=>h)) fun _ h=>h)) fun _ h=>(oC h (fun _ h=>(oC h (fun _ h=>h) fun _ h=>h)) fun _ h=>h))))
def c70:Con:=⟨[.dat aa],fun args hp K=>g1 (pD aa) (fun v=>(Sm aa v)/\K (dB (M.aN v)) []) args hp,.plain,false⟩
abbrev C70:Ctx:=cx [(131,c131)] 5 [] 0 false
def ann70:=an [[.fixRow 1 aa,kp 2],[kp 4]] []
theorem vc70 (v:aa.D) (K:KA):vcT C70 ay ann70 f70 [.data aa v] [] (.dat Ty.bool) K =
 ((Sm aa v)/\K (dB (M.aN v)) []):=by kernel_rfl
theorem con70_ok:aV P 70 c70:=bf C70 func70 (kC con131_ok kN) fun args hp K h0=>by
 obtain⟨v,rfl,rfl,h_v,hK⟩:=g1e h0
 have h:ok (F.ua v) (fun r=>K (dB r) []):=aC (F.xh v h_v) hK
 refine⟨rfl,ann70,ay,(.dat Ty.bool),(aG (by kernel_rfl)),?_⟩
 ·rw[vc70]
  exact⟨h_v,h⟩
def c26:Con:=⟨[],fun args hp K=>GI (K (dB true) []) args hp,.plain,false⟩
abbrev C26:Ctx:=cx [(70,c70)] 8 [] 0 false
def ann26:=an [[kp 0],[kp 1]] []
theorem vc26  (K:KA):vcT C26 ay ann26 f26 [] [] (.dat Ty.bool) K =
 ((Sm aa (Z1,(Z3,((⟨#[]⟩:ByteArray),()))))/\cond ((M.aN (Z1,(Z3,((⟨#[]⟩:ByteArray),()))))==true) ((Sm aa ((9:Int),(Z0,((⟨#[]⟩:ByteArray),()))))/\K (dB (!(M.aN ((9:Int),(Z0,((⟨#[]⟩:ByteArray),())))))) []) (K (dB false) [])):=by kernel_rfl
theorem con26_ok:aV P 26 c26:=bf C26 func26 (kC con70_ok kN) fun args hp K h0=>by
 obtain⟨rfl,rfl,h1⟩:=Dy h0
 have hK:=h1
 have h:ok (F.sC) (fun r=>K (dB r) []):=aC (F.Ah) hK
 refine⟨rfl,ann26,ay,(.dat Ty.bool),(aG (by kernel_rfl)),?_⟩
 ·rw[vc26]
  exact⟨(show Sm aa _ from⟨trivial,(show Sm (Ty.pair az (Ty.pair Ty.str Ty.unit)) _ from⟨trivial,(show Sm (Ty.pair Ty.str Ty.unit) _ from⟨(Nat.le_of_ble_eq_true rfl),trivial⟩)⟩)⟩),(oC h (fun _ h=>⟨(show Sm aa _ from⟨trivial,(show Sm (Ty.pair az (Ty.pair Ty.str Ty.unit)) _ from⟨trivial,(show Sm (Ty.pair Ty.str Ty.unit) _ from⟨(Nat.le_of_ble_eq_true rfl),trivial⟩)⟩)⟩),h⟩) fun _ h=>h)⟩
def c137:Con:=⟨[.dat ax],fun args hp K=>g1 (pD ax) (fun c=>K (dB (!M.dS c)) []) args hp,.plain,false⟩
abbrev C137:Ctx:=cx [(132,c132)] 7 [] 0 false
def ann137:=an [[.fixRow 1 ax,kp 2],[kp 4]] []
theorem vc137 (c:ax.D) (K:KA):vcT C137 ay ann137 f137 [.data ax c] [] (.dat Ty.bool) K =
 (K (dB (!(M.inR c.1 Z1 Z3))) []):=by kernel_rfl
theorem con137_ok:aV P 137 c137:=bf C137 func137 (kC con132_ok kN) fun args hp K h0=>by
 obtain⟨c,rfl,rfl,hK⟩:=g1e h0
 have h:ok (F.oa c) (fun r=>K (dB r) []):=aC (F.rT c) hK
 refine⟨rfl,ann137,ay,(.dat Ty.bool),(aG (by kernel_rfl)),?_⟩
 ·rw[vc137]
  exact h
def c193:Con:=⟨[.lent ax,.any],fun args hp K=>args2 (fun a0 a1=>gf ax a0 fun xs=>gK 137 a1 (sg ((Sm TCS xs)/\K (dI (M.idx (t:=ax) (fun e=>!M.dS e) xs)) []))) args hp,.plain,false⟩
abbrev C193:Ctx:=cx [(137,c137)] 19 [] 0 false
def ann193:=an [[kp 3],[kp 387],[kp 899],[kp 419],[kp 65955],[kp 16],[kp 387],[kp 16]] [[kp 0]]
abbrev s193_0 (xs:LC) (i0:Int) (v0:Unit):St:=⟨[(0,.brw ax xs),(1,.fn 137 []),(7,dI (xs.length:Int)),(8,dI i0)],[]⟩
abbrev LP193_0 (xs:LC) (m:Nat) (st_:St) (K:KX):Prop:=True/\cr (s193_0 xs) Z0 (xs.length:Int) (F.cL xs) (fun v0:Unit=>True) (bB (fun v0:Unit=>True->K (.exit 0) (⟨[],[]⟩:St)) (fun q0:Int=>K .ret (⟨[(4,dI q0)],[]⟩:St))) m st_
def L193 (xs:LC):bD:=lp1 0 (LP193_0 xs)
theorem vc193 (xs:LC) (K:KA):vcT C193 (L193 xs) ann193 f193 [.brw ax xs,.fn 137 []] [] (.dat az) K =
 (∃m_,True/\cr (s193_0 xs) Z0 (xs.length:Int) (F.cL xs) (fun v0:Unit=>True) (bB (fun v0:Unit=>True->K (dI (-1:Int)) []) (fun q0:Int=>K (dI q0) [])) m_ (s193_0 xs Z0 ())):=by kernel_rfl
theorem lvc193_0 (xs:LC)  (i0:Int) (v0:Unit) (m:Nat) (K:KX):lvT C193 (L193 xs) ann193 f193 0 0 (s193_0 xs i0 v0) m K =
 (cond (decide (i0<(xs.length:Int))) ((0<=i0)/\(i0<(xs.length:Int))/\cond (!M.dS (nC xs i0)) (K .ret (⟨[(4,dI i0)],[]⟩:St)) (nxT (LP193_0 xs) m K (s193_0 xs (wrap64 (i0+Z1)) ()))) (K (.exit 0) (⟨[],[]⟩:St))):=by kernel_rfl
theorem con193_ok:aV P 193 c193:=bf C193 func193 (kC con137_ok kN) fun args hp K h0=>by
 obtain⟨a0,a1,rfl,rfl,h1⟩:=br h0
 obtain⟨xs,rfl,h2⟩:=bK h1
 obtain⟨cs1,rfl,h3⟩:=bP h2
 obtain⟨rfl,h4⟩:=gB h3
 obtain⟨h_xs,hK⟩:=h4
 have h:ok (F.gI xs) (fun r=>K (dI r) []):=aC (F.kG xs h_xs) hK
 refine⟨rfl,ann193,(L193 xs),(.dat az),(bt (i0:=0) (by kernel_rfl) ?_),?_⟩
 ·rintro _ _ K ⟨hc0,i0,v0,rfl,hl0,rfl,hv0,h⟩
  exact cast (lvc193_0 _ _ _ _ _).symm (bJ h (fun ht0 h=>⟨hl0,⟨ht0,(oC h (fun _ h=>h) fun _ h=>(aS (fun _ hm=>⟨hc0,hm⟩) _ rfl hl0 gy ht0 (bu h_xs) trivial h))⟩⟩) fun h=>(h trivial))
 ·rw[vc193]
  exact(bq (fun m hm=>⟨trivial,hm⟩) Z0 _ rfl (Int.natCast_nonneg 0) trivial (bp h (fun v0 h hv0=>h) (fun q0 h=>h)))
def c136:Con:=⟨[.lent ax,.any],fun args hp K=>args2 (fun a0 a1=>gf ax a0 fun xs=>gK 137 a1 (sg ((Sm TCS xs)/\K (dB (List.any xs (fun e=>!M.dS e))) []))) args hp,.plain,false⟩
abbrev C136:Ctx:=cx [(137,c137),(193,c193)] 9 [] 0 false
def ann136:=an [[kp 3],[kp 16]] []
theorem vc136 (xs:LC) (K:KA):vcT C136 ay ann136 f136 [.brw ax xs,.fn 137 []] [] (.dat Ty.bool) K =
 ((Sm TCS xs)/\K (dB (decide (Z0<=(M.idx (t:=ax) (fun e=>!M.dS e) xs)))) []):=by kernel_rfl
theorem con136_ok:aV P 136 c136:=bf C136 func136 (kC con137_ok (kC con193_ok kN)) fun args hp K h0=>by
 obtain⟨a0,a1,rfl,rfl,h1⟩:=br h0
 obtain⟨xs,rfl,h2⟩:=bK h1
 obtain⟨cs1,rfl,h3⟩:=bP h2
 obtain⟨rfl,h4⟩:=gB h3
 obtain⟨h_xs,hK⟩:=h4
 have h:ok (F.dM xs) (fun r=>K (dB r) []):=aC (F.js xs h_xs) hK
 refine⟨rfl,ann136,ay,(.dat Ty.bool),(aG (by kernel_rfl)),?_⟩
 ·rw[vc136]
  exact⟨h_xs,h⟩
def c75:Con:=⟨[.dat TCS],fun args hp K=>g1 (pD TCS) (fun columns=>(Sm TCS columns)/\K (dB (M.bC columns)) []) args hp,.plain,false⟩
abbrev C75:Ctx:=cx [(136,c136)] 11 [] 0 false
def ann75:=an [[kp 1],[kp 4]] []
theorem vc75 (columns:LC) (K:KA):vcT C75 ay ann75 f75 [.data TCS columns] [] (.dat Ty.bool) K =
 (cond ((decide ((columns.length:Int)<=Z4))==true) ((Sm TCS columns)/\K (dB (!(List.any columns (fun e=>!M.dS e)))) []) (K (dB false) [])):=by kernel_rfl
theorem con75_ok:aV P 75 c75:=bf C75 func75 (kC con136_ok kN) fun args hp K h0=>by
 obtain⟨columns,rfl,rfl,h_columns,hK⟩:=g1e h0
 have h:ok (F.mh columns) (fun r=>K (dB r) []):=aC (F.uB columns h_columns) hK
 refine⟨rfl,ann75,ay,(.dat Ty.bool),(aG (by kernel_rfl)),?_⟩
 ·rw[vc75]
  exact(oC h (fun _ h=>⟨h_columns,h⟩) fun _ h=>h)
def c200:Con:=⟨[.dat aa],fun args hp K=>g1 (pD aa) (fun v=>(Sm aa v)/\K (dB (decide (v.1=0))) []) args hp,.plain,false⟩
abbrev C200:Ctx:=cx [] 6 [] 0 false
def ann200:=an [[.fixRow 1 aa,kp 2],[kp 4]] []
theorem vc200 (v:aa.D) (K:KA):vcT C200 ay ann200 f200 [.data aa v] [] (.dat Ty.bool) K =
 (K (dB (decide (v.1=Z0))) []):=by kernel_rfl
theorem con200_ok:aV P 200 c200:=bf C200 func200 kN fun args hp K h0=>by
 obtain⟨v,rfl,rfl,h_v,hK⟩:=g1e h0
 have h:ok (F.me v) (fun r=>K (dB r) []):=aC (F.qj v h_v) hK
 refine⟨rfl,ann200,ay,(.dat Ty.bool),(aG (by kernel_rfl)),?_⟩
 ·rw[vc200]
  exact h
def c211:Con:=⟨[.dat aa],fun args hp K=>g1 (pD aa) (fun v=>(Sm aa v)/\K (dB (!M.aN v)) []) args hp,.plain,false⟩
abbrev C211:Ctx:=cx [(131,c131)] 6 [] 0 false
def ann211:=an [[.fixRow 1 aa,kp 2],[kp 4]] []
theorem vc211 (v:aa.D) (K:KA):vcT C211 ay ann211 f211 [.data aa v] [] (.dat Ty.bool) K =
 ((Sm aa v)/\K (dB (!(M.aN v))) []):=by kernel_rfl
theorem con211_ok:aV P 211 c211:=bf C211 func211 (kC con131_ok kN) fun args hp K h0=>by
 obtain⟨v,rfl,rfl,h_v,hK⟩:=g1e h0
 have h:ok (F.ux v) (fun r=>K (dB r) []):=aC (F.wJ v h_v) hK
 refine⟨rfl,ann211,ay,(.dat Ty.bool),(aG (by kernel_rfl)),?_⟩
 ·rw[vc211]
  exact⟨h_v,h⟩
def c231:Con:=⟨[.lent aa,.any],fun args hp K=>(args2 (fun a0 a1=>gf aa a0 fun xs=>gK 200 a1 (sg ((Sm TVS xs)/\K (dI (M.idx (t:=aa) (fun e=>decide (e.1=0)) xs)) []))) args hp)\/(args2 (fun a0 a1=>gf aa a0 fun xs=>gK 211 a1 (sg ((Sm TVS xs)/\K (dI (M.idx (t:=aa) (fun e=>!M.aN e) xs)) []))) args hp),.plain,false⟩
abbrev C231:Ctx:=cx [(200,c200),(211,c211)] 19 [] 0 false
def ann231_v0:=an [[kp 3],[kp 387],[kp 899],[kp 419],[kp 65955],[kp 16],[kp 387],[kp 16]] [[kp 0]]
abbrev s231_0_v0 (xs:LV) (i0:Int) (v0:Unit):St:=⟨[(0,.brw aa xs),(1,.fn 200 []),(7,dI (xs.length:Int)),(8,dI i0)],[]⟩
abbrev LP231_0_v0 (xs:LV) (m:Nat) (st_:St) (K:KX):Prop:=True/\cr (s231_0_v0 xs) Z0 (xs.length:Int) (F.ct xs) (fun v0:Unit=>True) (bB (fun v0:Unit=>True->K (.exit 0) (⟨[],[]⟩:St)) (fun q0:Int=>K .ret (⟨[(4,dI q0)],[]⟩:St))) m st_
def L231_v0 (xs:LV):bD:=lp1 0 (LP231_0_v0 xs)
theorem vc231_v0 (xs:LV) (K:KA):vcT C231 (L231_v0 xs) ann231_v0 f231 [.brw aa xs,.fn 200 []] [] (.dat az) K =
 (∃m_,True/\cr (s231_0_v0 xs) Z0 (xs.length:Int) (F.ct xs) (fun v0:Unit=>True) (bB (fun v0:Unit=>True->K (dI (-1:Int)) []) (fun q0:Int=>K (dI q0) [])) m_ (s231_0_v0 xs Z0 ())):=by kernel_rfl
theorem lvc231_0_v0 (xs:LV)  (i0:Int) (v0:Unit) (m:Nat) (K:KX):lvT C231 (L231_v0 xs) ann231_v0 f231 0 0 (s231_0_v0 xs i0 v0) m K =
 (cond (decide (i0<(xs.length:Int))) ((0<=i0)/\(i0<(xs.length:Int))/\(Sm aa (nV xs i0))/\cond (decide ((nV xs i0).1=0)) (K .ret (⟨[(4,dI i0)],[]⟩:St)) (nxT (LP231_0_v0 xs) m K (s231_0_v0 xs (wrap64 (i0+Z1)) ()))) (K (.exit 0) (⟨[],[]⟩:St))):=by kernel_rfl
def ann231_v1:=an [[kp 3],[kp 387],[kp 899],[kp 419],[kp 65955],[kp 16],[kp 387],[kp 16]] [[kp 0]]
abbrev s231_0_v1 (xs:LV) (i0:Int) (v0:Unit):St:=⟨[(0,.brw aa xs),(1,.fn 211 []),(7,dI (xs.length:Int)),(8,dI i0)],[]⟩
abbrev LP231_0_v1 (xs:LV) (m:Nat) (st_:St) (K:KX):Prop:=True/\cr (s231_0_v1 xs) Z0 (xs.length:Int) (F.dm xs) (fun v0:Unit=>True) (bB (fun v0:Unit=>True->K (.exit 0) (⟨[],[]⟩:St)) (fun q0:Int=>K .ret (⟨[(4,dI q0)],[]⟩:St))) m st_
def L231_v1 (xs:LV):bD:=lp1 0 (LP231_0_v1 xs)
theorem vc231_v1 (xs:LV) (K:KA):vcT C231 (L231_v1 xs) ann231_v1 f231 [.brw aa xs,.fn 211 []] [] (.dat az) K =
 (∃m_,True/\cr (s231_0_v1 xs) Z0 (xs.length:Int) (F.dm xs) (fun v0:Unit=>True) (bB (fun v0:Unit=>True->K (dI (-1:Int)) []) (fun q0:Int=>K (dI q0) [])) m_ (s231_0_v1 xs Z0 ())):=by kernel_rfl
theorem lvc231_0_v1 (xs:LV)  (i0:Int) (v0:Unit) (m:Nat) (K:KX):lvT C231 (L231_v1 xs) ann231_v1 f231 0 0 (s231_0_v1 xs i0 v0) m K =
 (cond (decide (i0<(xs.length:Int))) ((0<=i0)/\(i0<(xs.length:Int))/\(Sm aa (nV xs i0))/\cond (!M.aN (nV xs i0)) (K .ret (⟨[(4,dI i0)],[]⟩:St)) (nxT (LP231_0_v1 xs) m K (s231_0_v1 xs (wrap64 (i0+Z1)) ()))) (K (.exit 0) (⟨[],[]⟩:St))):=by kernel_rfl
theorem con231_ok:aV P 231 c231:=bf C231 func231 (kC con200_ok (kC con211_ok kN)) fun args hp K h0=>by
 rcases h0 with h0 | h0
 ·obtain⟨a0,a1,rfl,rfl,h1⟩:=br h0
  obtain⟨xs,rfl,h2⟩:=bK h1
  obtain⟨cs1,rfl,h3⟩:=bP h2
  obtain⟨rfl,h4⟩:=gB h3
  obtain⟨h_xs,hK⟩:=h4
  have h:ok (F.fZ xs) (fun r=>K (dI r) []):=aC (F.jB xs h_xs) hK
  refine⟨rfl,ann231_v0,(L231_v0 xs),(.dat az),(bt (i0:=0) (by kernel_rfl) ?_),?_⟩
  ·rintro _ _ K ⟨hc0,i0,v0,rfl,hl0,rfl,hv0,h⟩
   exact cast (lvc231_0_v0 _ _ _ _ _).symm (bJ h (fun ht0 h=>⟨hl0,⟨ht0,⟨(aJ h_xs i0),(oC h (fun _ h=>h) fun _ h=>(aS (fun _ hm=>⟨hc0,hm⟩) _ rfl hl0 gy ht0 (bu h_xs) trivial h))⟩⟩⟩) fun h=>(h trivial))
  ·rw[vc231_v0]
   exact(bq (fun m hm=>⟨trivial,hm⟩) Z0 _ rfl (Int.natCast_nonneg 0) trivial (bp h (fun v0 h hv0=>h) (fun q0 h=>h)))
 ·obtain⟨a0,a1,rfl,rfl,h1⟩:=br h0
  obtain⟨xs,rfl,h2⟩:=bK h1
  obtain⟨cs1,rfl,h3⟩:=bP h2
  obtain⟨rfl,h4⟩:=gB h3
  obtain⟨h_xs,hK⟩:=h4
  have h:ok (F.jm xs) (fun r=>K (dI r) []):=aC (F.mM xs h_xs) hK
  refine⟨rfl,ann231_v1,(L231_v1 xs),(.dat az),(bt (i0:=0) (by kernel_rfl) ?_),?_⟩
  ·rintro _ _ K ⟨hc0,i0,v0,rfl,hl0,rfl,hv0,h⟩
   exact cast (lvc231_0_v1 _ _ _ _ _).symm (bJ h (fun ht0 h=>⟨hl0,⟨ht0,⟨(aJ h_xs i0),(oC h (fun _ h=>h) fun _ h=>(aS (fun _ hm=>⟨hc0,hm⟩) _ rfl hl0 gy ht0 (bu h_xs) trivial h))⟩⟩⟩) fun h=>(h trivial))
  ·rw[vc231_v1]
   exact(bq (fun m hm=>⟨trivial,hm⟩) Z0 _ rfl (Int.natCast_nonneg 0) trivial (bp h (fun v0 h hv0=>h) (fun q0 h=>h)))
def c199:Con:=⟨[.lent aa,.any],fun args hp K=>(args2 (fun a0 a1=>gf aa a0 fun xs=>gK 200 a1 (sg ((Sm TVS xs)/\K (dB (List.any xs (fun e=>decide (e.1=0)))) []))) args hp)\/(args2 (fun a0 a1=>gf aa a0 fun xs=>gK 211 a1 (sg ((Sm TVS xs)/\K (dB (List.any xs (fun e=>!M.aN e))) []))) args hp),.plain,false⟩
abbrev C199:Ctx:=cx [(200,c200),(211,c211),(231,c231)] 9 [] 0 false
def ann199_v0:=an [[kp 3],[kp 16]] []
theorem vc199_v0 (xs:LV) (K:KA):vcT C199 ay ann199_v0 f199 [.brw aa xs,.fn 200 []] [] (.dat Ty.bool) K =
 (((Sm TVS xs)/\K (dB (decide (Z0<=(M.idx (t:=aa) (fun e=>decide (e.1=0)) xs)))) [])\/False):=by kernel_rfl
def ann199_v1:=an [[kp 3],[kp 16]] []
theorem vc199_v1 (xs:LV) (K:KA):vcT C199 ay ann199_v1 f199 [.brw aa xs,.fn 211 []] [] (.dat Ty.bool) K =
 (False\/((Sm TVS xs)/\K (dB (decide (Z0<=(M.idx (t:=aa) (fun e=>!M.aN e) xs)))) [])):=by kernel_rfl
theorem con199_ok:aV P 199 c199:=bf C199 func199 (kC con200_ok (kC con211_ok (kC con231_ok kN))) fun args hp K h0=>by
 rcases h0 with h0 | h0
 ·obtain⟨a0,a1,rfl,rfl,h1⟩:=br h0
  obtain⟨xs,rfl,h2⟩:=bK h1
  obtain⟨cs1,rfl,h3⟩:=bP h2
  obtain⟨rfl,h4⟩:=gB h3
  obtain⟨h_xs,hK⟩:=h4
  have h:ok (F.dh xs) (fun r=>K (dB r) []):=aC (F.iN xs h_xs) hK
  refine⟨rfl,ann199_v0,ay,(.dat Ty.bool),(aG (by kernel_rfl)),?_⟩
  ·rw[vc199_v0]
   exact(Or.inl (⟨h_xs,h⟩))
 ·obtain⟨a0,a1,rfl,rfl,h1⟩:=br h0
  obtain⟨xs,rfl,h2⟩:=bK h1
  obtain⟨cs1,rfl,h3⟩:=bP h2
  obtain⟨rfl,h4⟩:=gB h3
  obtain⟨h_xs,hK⟩:=h4
  have h:ok (F.eM xs) (fun r=>K (dB r) []):=aC (F.lf xs h_xs) hK
  refine⟨rfl,ann199_v1,ay,(.dat Ty.bool),(aG (by kernel_rfl)),?_⟩
  ·rw[vc199_v1]
   exact(Or.inr (⟨h_xs,h⟩))
def c168:Con:=⟨[.dat TVS],fun args hp K=>g1 (pD TVS) (fun row=>(Sm TVS row)/\K (dB (M.ot row)) []) args hp,.plain,false⟩
abbrev C168:Ctx:=cx [(199,c199)] 11 [] 0 false
def ann168:=an [[kp 1],[kp 4]] []
theorem vc168 (row:LV) (K:KA):vcT C168 ay ann168 f168 [.data TVS row] [] (.dat Ty.bool) K =
 (cond ((decide ((row.length:Int)<=Z4))==true) (False\/((Sm TVS row)/\K (dB (!(List.any row (fun e=>!M.aN e)))) [])) (K (dB false) [])):=by kernel_rfl
theorem con168_ok:aV P 168 c168:=bf C168 func168 (kC con199_ok kN) fun args hp K h0=>by
 obtain⟨row,rfl,rfl,h_row,hK⟩:=g1e h0
 have h:ok (F.tq row) (fun r=>K (dB r) []):=aC (F.zZ row h_row) hK
 refine⟨rfl,ann168,ay,(.dat Ty.bool),(aG (by kernel_rfl)),?_⟩
 ·rw[vc168]
  exact(oC h (fun _ h=>(Or.inr (⟨h_row,h⟩))) fun _ h=>h)
def c100:Con:=⟨[.dat TCS,.dat TVS],fun args hp K=>g2 (pD TCS) (pD TVS) (fun columns row=>(Sm TCS columns)/\(Sm TVS row)/\K (dB (M.bI columns row)) []) args hp,.plain,false⟩
abbrev C100:Ctx:=cx [(75,c75),(168,c168)] 51 [] 0 false
def ann100:=an [[kp 3],[kp 2097155],[kp 16],[kp 29360129],[kp 62914561],[.fixRow 6 aa,kp 29360225],[kp 562949982781441],[kp 16],[kp 29360129],[kp 16]] [[kp 0]]
abbrev s100_0 (columns:LC) (row:LV) (i0:Int) (v0:Unit):St:=⟨[(0,.data TCS columns),(22,.data TVS row),(23,dI (row.length:Int)),(24,dI i0)],[]⟩
abbrev LP100_0 (columns:LC) (row:LV) (m:Nat) (st_:St) (K:KX):Prop:=True/\cr (s100_0 columns row) Z0 (row.length:Int) (F.iE columns row) (fun v0:Unit=>True) (bB (fun v0:Unit=>True->K (.exit 0) (⟨[],[]⟩:St)) (fun q0:Unit=>K .ret (⟨[(4,dB false)],[]⟩:St))) m st_
def L100 (columns:LC) (row:LV):bD:=lp1 0 (LP100_0 columns row)
theorem vc100 (columns:LC) (row:LV) (K:KA):vcT C100 (L100 columns row) ann100 f100 [.data TCS columns,.data TVS row] [] (.dat Ty.bool) K =
 ((Sm TCS columns)/\cond ((!(M.bC columns))==false) ((Sm TVS row)/\cond ((!(M.ot row))==false) (cond (!decide ((row.length:Int)=(columns.length:Int))) (K (dB false) []) (∃m_,True/\cr (s100_0 columns row) Z0 (row.length:Int) (F.iE columns row) (fun v0:Unit=>True) (bB (fun v0:Unit=>True->K (dB true) []) (fun q0:Unit=>K (dB false) [])) m_ (s100_0 columns row Z0 ()))) (K (dB false) [])) (K (dB false) [])):=by kernel_rfl
theorem lvc100_0 (columns:LC) (row:LV)  (i0:Int) (v0:Unit) (m:Nat) (K:KX):lvT C100 (L100 columns row) ann100 f100 0 0 (s100_0 columns row i0 v0) m K =
 (cond (decide (i0<(row.length:Int))) ((0<=i0)/\(i0<(row.length:Int))/\(0<=i0)/\(i0<(columns.length:Int))/\cond ((!decide ((nV row i0).1=(nC columns i0).1))==true) (cond ((!decide ((nV row i0).1=Z0))==false) ((0<=i0)/\(i0<(columns.length:Int))/\cond (!(nC columns i0).2.1) (K .ret (⟨[(4,dB false)],[]⟩:St)) (nxT (LP100_0 columns row) m K (s100_0 columns row (wrap64 (i0+Z1)) ()))) (K .ret (⟨[(4,dB false)],[]⟩:St))) (nxT (LP100_0 columns row) m K (s100_0 columns row (wrap64 (i0+Z1)) ()))) (K (.exit 0) (⟨[],[]⟩:St))):=by kernel_rfl
theorem con100_ok:aV P 100 c100:=bf C100 func100 (kC con75_ok (kC con168_ok kN)) fun args hp K h0=>by
 obtain⟨columns,row,rfl,rfl,h_columns,h_row,hK⟩:=g2e h0
 have h:ok (F.oR columns row) (fun r=>K (dB r) []):=aC (F.wZ columns row h_columns h_row) hK
 refine⟨rfl,ann100,(L100 columns row),(.dat Ty.bool),(bt (i0:=0) (by kernel_rfl) ?_),?_⟩
 ·rintro _ _ K ⟨hc0,i0,v0,rfl,hl0,rfl,hv0,h⟩
  exact cast (lvc100_0 _ _ _ _ _ _).symm (bJ h (fun ht0 h=>⟨hl0,⟨ht0,⟨hl0,(oG h fun g1 h=>(oC h (fun _ h=>(oC h (fun _ h=>⟨hl0,⟨g1,(oC h (fun _ h=>h) fun _ h=>(aS (fun _ hm=>⟨hc0,hm⟩) _ rfl hl0 gy ht0 (bu h_row) trivial h))⟩⟩) fun _ h=>h)) fun _ h=>(aS (fun _ hm=>⟨hc0,hm⟩) _ rfl hl0 gy ht0 (bu h_row) trivial h)))⟩⟩⟩) fun h=>(h trivial))
 ·rw[vc100]
  exact⟨h_columns,(oC h (fun _ h=>⟨h_row,(oC h (fun _ h=>(oC h (fun _ h=>h) fun _ h=>(bq (fun m hm=>⟨trivial,hm⟩) Z0 _ rfl (Int.natCast_nonneg 0) trivial (bp h (fun v0 h hv0=>h) (fun q0 h=>h))))) fun _ h=>h)⟩) fun _ h=>h)⟩
def c139:Con:=⟨[.dat TVS,.any],fun args hp K=>g2 (pD TVS) (pR TCS) (fun r columns=>(Sm TVS r)/\(Sm TCS columns)/\K (dB (!M.bI columns r)) []) args hp,.plain,false⟩
abbrev C139:Ctx:=cx [(100,c100)] 8 [] 0 false
def ann139:=an [[kp 3],[kp 8]] []
theorem vc139 (r:LV) (columns:LC) (K:KA):vcT C139 ay ann139 f139 [.data TVS r,.ref (.data TCS columns)] [] (.dat Ty.bool) K =
 ((Sm TCS columns)/\(Sm TVS r)/\K (dB (!(M.bI columns r))) []):=by kernel_rfl
theorem con139_ok:aV P 139 c139:=bf C139 func139 (kC con100_ok kN) fun args hp K h0=>by
 obtain⟨r,columns,rfl,rfl,h_r,h_columns,hK⟩:=g2e h0
 have h:ok (F.rY r columns) (fun r=>K (dB r) []):=aC (F.uZ r columns h_r h_columns) hK
 refine⟨rfl,ann139,ay,(.dat Ty.bool),(aG (by kernel_rfl)),?_⟩
 ·rw[vc139]
  exact⟨h_columns,⟨h_r,h⟩⟩
def c158:Con:=⟨[.lent aa,.lent aa],fun args hp K=>g2 (pB aa) (pB aa) (fun xs ys=>(Sm TVS xs)/\(Sm TVS ys)/\K (dB (decide (xs=ys))) []) args hp,.plain,false⟩
abbrev C158:Ctx:=cx [] 26 [] 0 false
def ann158:=an [[kp 3],[kp 1027],[kp 16],[kp 12291],[kp 28675],[kp 12323],[kp 16789507],[kp 16],[kp 12291],[kp 16]] [[kp 0]]
abbrev s158_0 (xs:LV) (ys:LV) (i0:Int) (v0:Unit):St:=⟨[(0,.brw aa xs),(1,.brw aa ys),(12,dI (xs.length:Int)),(13,dI i0)],[]⟩
abbrev LP158_0 (xs:LV) (ys:LV) (m:Nat) (st_:St) (K:KX):Prop:=True/\cr (s158_0 xs ys) Z0 (xs.length:Int) (F.iF xs ys) (fun v0:Unit=>True) (bB (fun v0:Unit=>True->K (.exit 0) (⟨[],[]⟩:St)) (fun q0:Unit=>K .ret (⟨[(4,dB false)],[]⟩:St))) m st_
def L158 (xs:LV) (ys:LV):bD:=lp1 0 (LP158_0 xs ys)
theorem vc158 (xs:LV) (ys:LV) (K:KA):vcT C158 (L158 xs ys) ann158 f158 [.brw aa xs,.brw aa ys] [] (.dat Ty.bool) K =
 (cond (!decide ((xs.length:Int)=(ys.length:Int))) (K (dB false) []) (∃m_,True/\cr (s158_0 xs ys) Z0 (xs.length:Int) (F.iF xs ys) (fun v0:Unit=>True) (bB (fun v0:Unit=>True->K (dB true) []) (fun q0:Unit=>K (dB false) [])) m_ (s158_0 xs ys Z0 ()))):=by kernel_rfl
theorem lvc158_0 (xs:LV) (ys:LV)  (i0:Int) (v0:Unit) (m:Nat) (K:KX):lvT C158 (L158 xs ys) ann158 f158 0 0 (s158_0 xs ys i0 v0) m K =
 (cond (decide (i0<(xs.length:Int))) ((0<=i0)/\(i0<(xs.length:Int))/\(0<=i0)/\(i0<(ys.length:Int))/\cond (!(Ty.beq aa (nV xs i0) (nV ys i0))) (K .ret (⟨[(4,dB false)],[]⟩:St)) (nxT (LP158_0 xs ys) m K (s158_0 xs ys (wrap64 (i0+Z1)) ()))) (K (.exit 0) (⟨[],[]⟩:St))):=by kernel_rfl
theorem con158_ok:aV P 158 c158:=bf C158 func158 kN fun args hp K h0=>by
 obtain⟨xs,ys,rfl,rfl,h_xs,h_ys,hK⟩:=g2e h0
 have h:ok (F.tK xs ys) (fun r=>K (dB r) []):=aC (F.wR xs ys h_xs h_ys) hK
 refine⟨rfl,ann158,(L158 xs ys),(.dat Ty.bool),(bt (i0:=0) (by kernel_rfl) ?_),?_⟩
 ·rintro _ _ K ⟨hc0,i0,v0,rfl,hl0,rfl,hv0,h⟩
  exact cast (lvc158_0 _ _ _ _ _ _).symm (bJ h (fun ht0 h=>⟨hl0,⟨ht0,⟨hl0,(oG h fun _ h=>(oC h (fun _ h=>h) fun _ h=>(aS (fun _ hm=>⟨hc0,hm⟩) _ rfl hl0 gy ht0 (bu h_xs) trivial h)))⟩⟩⟩) fun h=>(h trivial))
 ·rw[vc158]
  exact(oC h (fun _ h=>h) fun _ h=>(bq (fun m hm=>⟨trivial,hm⟩) Z0 _ rfl (Int.natCast_nonneg 0) trivial (bp h (fun v0 h hv0=>h) (fun q0 h=>h))))
def c191:Con:=⟨[.dat TVS,.any],fun args hp K=>g2 (pD TVS) (pR TVS) (fun r row=>(Sm TVS r)/\(Sm TVS row)/\K (dB (decide (r=row))) []) args hp,.plain,false⟩
abbrev C191:Ctx:=cx [(158,c158)] 7 [] 0 false
def ann191:=an [[kp 3],[kp 8]] []
theorem vc191 (r:LV) (row:LV) (K:KA):vcT C191 ay ann191 f191 [.data TVS r,.ref (.data TVS row)] [] (.dat Ty.bool) K =
 ((Sm TVS r)/\(Sm TVS row)/\K (dB (decide (r=row))) []):=by kernel_rfl
theorem con191_ok:aV P 191 c191:=bf C191 func191 (kC con158_ok kN) fun args hp K h0=>by
 obtain⟨r,row,rfl,rfl,h_r,h_row,hK⟩:=g2e h0
 have h:ok (F.uI r row) (fun r=>K (dB r) []):=aC (F.wU r row h_r h_row) hK
 refine⟨rfl,ann191,ay,(.dat Ty.bool),(aG (by kernel_rfl)),?_⟩
 ·rw[vc191]
  exact⟨h_r,⟨h_row,h⟩⟩
abbrev C192:Ctx:=cx [] 9 [] 400000 true
def T192:Inl:=xW C192 (fun _=>[]) (eG f192) f192.results.toList
theorem inlOk192:xU P 192 T192:=CS C192 func192 kN
def c134:Con:=⟨[.dat TVS],fun args hp K=>g1 (pD TVS) (fun xs=>(Sm TVS xs)/\(LD xs fun r=>K (.clp 0 (r.length:Int)) [(0,.arr .sh aa r)])) args hp,.bor,false⟩
abbrev C134:Ctx:=cx [] 9 [(192,T192)] 0 true
def ann134:=an [[kp 1],[kp 33],[.clip 2,kp 4],[kp 4]] []
theorem vc134 (xs:LV) (K:KA):vcT C134 ay ann134 f134 [.data TVS xs] [] .raw K =
 (cond (decide ((xs.length:Int)=Z0)) (K (.clp 0 (([]:List aa.D).length:Int)) [(0,.arr .sh aa ([]:List aa.D))]) ((xs.length * 32<=lim)/\(0<=Z0)/\(Z0<=(xs.length:Int))/\((xs.length:Int)<=(xs.length:Int))/\((xs.length:Int)=(xs.length:Int))/\(Z0=0)/\K (.clp 0 ((xs.take (xs.length:Int).toNat).length:Int)) [(0,.arr .sh aa (xs.take (xs.length:Int).toNat))])):=by kernel_rfl
theorem con134_ok:aV P 134 c134:=bf C134 func134 (kI inlOk192 kN) fun args hp K h0=>by
 obtain⟨xs,rfl,rfl,h_xs,hK⟩:=g1e h0
 have h:ok (F.uO xs) (fun r=>K (.clp 0 (r.length:Int)) [(0,.arr .sh aa r)]):=aC (F.wI xs h_xs) (hK _ rfl)
 refine⟨rfl,ann134,ay,.raw,(aG (by kernel_rfl)),?_⟩
 ·rw[vc134]
  exact(oC h (fun _ h=>h) fun _ h=>⟨(DA h_xs rfl),⟨(Int.natCast_nonneg 0),⟨(Int.natCast_nonneg _),⟨(Int.le_refl _),⟨rfl,⟨rfl,h⟩⟩⟩⟩⟩⟩)
def c198:Con:=⟨[.dat TVS,.dat (Ty.sl az)],fun args hp K=>g2 (pD TVS) (pD (Ty.sl az)) (fun row list=>(Sm TVS row)/\(Sm (Ty.sl az) list)/\(M.eV row list)/\(LD (M.taken row list) fun r=>K (.data TVS r) [])) args hp,.plain,false⟩
abbrev C198:Ctx:=cx [(134,c134)] 24 [] 0 false
def ann198:=an [[kp 3],[kp 35],[kp 1825],[kp 3873],[kp 1953],[kp 1825],[kp 1825],[.freeze 23,kp 16]] [[kp 32]]
abbrev s198_0 (row:LV) (list:LI) (i0:Int) (v0:LV):St:=⟨[(0,.data TVS row),(5,.own 5 none),(8,.data (Ty.sl az) list),(9,dI (list.length:Int)),(10,dI i0)],[(5,.arr .sh aa v0)]⟩
abbrev LP198_0 (row:LV) (list:LI) (m:Nat) (st_:St) (K:KX):Prop:=True/\cU (t:=az) (s198_0 row list) list (F.jY row list) (fun v0:LV=>True) (bB (fun v0:LV=>True->K (.exit 0) (⟨[(5,.own 5 none)],[(5,.arr .sh aa v0)]⟩:St)) (fun _=>False)) m st_
def L198 (row:LV) (list:LI):bD:=lp1 0 (LP198_0 row list)
theorem vc198 (row:LV) (list:LI) (K:KA):vcT C198 (L198 row list) ann198 f198 [.data TVS row,.data (Ty.sl az) list] [] (.dat TVS) K =
 (∃m_,True/\cU (t:=az) (s198_0 row list) list (F.jY row list) (fun v0:LV=>True) (bB (fun v0:LV=>True->(Sm TVS v0)/\(LD v0 fun r1=>K (.data TVS (aD r1 (some (Z0,(r1.length:Int))))) [])) (fun _=>False)) m_ (s198_0 row list Z0 [])):=by kernel_rfl
theorem lvc198_0 (row:LV) (list:LI)  (i0:Int) (v0:LV) (m:Nat) (K:KX):lvT C198 (L198 row list) ann198 f198 0 0 (s198_0 row list i0 v0) m K =
 (cond (decide (i0<(list.length:Int))) ((0<=i0)/\(i0<(list.length:Int))/\(0<=(nI list i0))/\((nI list i0)<(row.length:Int))/\((v0.length+[(nV row (nI list i0))].length) * 32<=lim)/\(nxT (LP198_0 row list) m K (s198_0 row list (wrap64 (i0+Z1)) (v0++[(nV row (nI list i0))])))) (K (.exit 0) (⟨[(5,.own 5 none)],[(5,.arr .sh aa v0)]⟩:St))):=by kernel_rfl
theorem con198_ok:aV P 198 c198:=bf C198 func198 (kC con134_ok kN) fun args hp K h0=>by
 obtain⟨row,list,rfl,rfl,h_row,h_list,p0,hK⟩:=g2e h0
 have h:ok (F.sE row list) (fun r=>K (.data TVS r) []):=aC (F.zV row list h_row h_list p0) (hK _ rfl)
 refine⟨rfl,ann198,(L198 row list),(.dat TVS),(bt (i0:=0) (by kernel_rfl) ?_),?_⟩
 ·rintro _ _ K ⟨hc0,i0,v0,rfl,hl0,rfl,hv0,h⟩
  exact cast (lvc198_0 _ _ _ _ _ _).symm (bW (t:=az) hl0 h (fun ht0 h=>⟨hl0,⟨ht0,(oG h fun _ h=>(oG h fun _ h=>(oG h fun _ h=>(bU (t:=az) (fun _ hm=>⟨hc0,hm⟩) _ rfl hl0 ht0 (bu h_list) trivial h))))⟩⟩) fun h=>(h trivial))
 ·rw[vc198]
  exact(bN (t:=az) (fun m hm=>⟨trivial,hm⟩) _ rfl trivial (bp h (fun v0 h hv0=>(oG h fun _ h=>(oL h fun _ _ h=>h))) (fun _ h=>h.elim)))
def c202:Con:=⟨[.dat TVS,.any,.any],fun args hp K=>g3 (pD TVS) (pR (Ty.sl az)) (pR TVS) (fun r list key=>(Sm TVS r)/\(Sm (Ty.sl az) list)/\(Sm TVS key)/\(M.eV r list)/\K (dB (decide (M.taken r list=key))) []) args hp,.plain,false⟩
abbrev C202:Ctx:=cx [(158,c158),(198,c198)] 10 [] 0 false
def ann202:=an [[kp 7],[kp 16]] []
theorem vc202 (r:LV) (list:LI) (key:LV) (K:KA):vcT C202 ay ann202 f202 [.data TVS r,.ref (.data (Ty.sl az) list),.ref (.data TVS key)] [] (.dat Ty.bool) K =
 ((Sm TVS r)/\(Sm (Ty.sl az) list)/\(M.eV r list)/\(LD (M.taken r list) fun r1=>(Sm TVS r1)/\(Sm TVS key)/\K (dB (decide (r1=key))) [])):=by kernel_rfl
theorem con202_ok:aV P 202 c202:=bf C202 func202 (kC con158_ok (kC con198_ok kN)) fun args hp K h0=>by
 obtain⟨r,list,key,rfl,rfl,h_r,h_list,h_key,p0,hK⟩:=g3e h0
 have h:ok (F.kA r list key) (fun r=>K (dB r) []):=aC (F.ov r list key h_r h_list h_key p0) hK
 refine⟨rfl,ann202,ay,(.dat Ty.bool),(aG (by kernel_rfl)),?_⟩
 ·rw[vc202]
  exact⟨h_r,⟨h_list,⟨p0,(oL h fun _ er1 h=>⟨(gH er1 (M.gd h_r h_list)),⟨h_key,h⟩⟩)⟩⟩⟩
def c190:Con:=⟨[.lent TVS,.any],fun args hp K=>(args2 (fun a0 a1=>gf TVS a0 fun xs=>gK 191 a1 (nU (fun b1_0=>lC TVS b1_0 fun k0=>(Sm (Ty.sl TVS) xs)/\(Sm TVS k0)/\K (dI (M.idx (t:=TVS) (fun e=>decide (e=k0)) xs)) []))) args hp)\/(args2 (fun a0 a1=>gf TVS a0 fun xs=>gK 139 a1 (nU (fun b1_0=>lC TCS b1_0 fun k0=>(Sm (Ty.sl TVS) xs)/\(Sm TCS k0)/\K (dI (M.idx (t:=TVS) (fun e=>!M.bI k0 e) xs)) []))) args hp)\/(args2 (fun a0 a1=>gf TVS a0 fun xs=>gK 202 a1 (Ez (fun b1_0 b1_1=>lC (Ty.sl az) b1_0 fun k0=>lC TVS b1_1 fun k1=>(Sm (Ty.sl TVS) xs)/\(Sm (Ty.sl az) k0)/\(Sm TVS k1)/\(∀e∈xs,M.eV e k0)/\K (dI (M.idx (t:=TVS) (fun e=>decide (M.taken e k0=k1)) xs)) []))) args hp),.plain,false⟩
abbrev C190:Ctx:=cx [(139,c139),(191,c191),(202,c202)] 19 [] 0 false
def ann190_v0:=an [[kp 3],[kp 387],[kp 899],[kp 419],[kp 65955],[kp 16],[kp 387],[kp 16]] [[kp 0]]
abbrev s190_0_v0 (xs:(List LV)) (k0:LV) (i0:Int) (v0:Unit):St:=⟨[(0,.brw TVS xs),(1,.fn 191 [.ref (.data TVS k0)]),(7,dI (xs.length:Int)),(8,dI i0)],[]⟩
abbrev LP190_0_v0 (xs:(List LV)) (k0:LV) (m:Nat) (st_:St) (K:KX):Prop:=True/\cr (s190_0_v0 xs k0) Z0 (xs.length:Int) (F.dn xs k0) (fun v0:Unit=>True) (bB (fun v0:Unit=>True->K (.exit 0) (⟨[],[]⟩:St)) (fun q0:Int=>K .ret (⟨[(4,dI q0)],[]⟩:St))) m st_
def L190_v0 (xs:(List LV)) (k0:LV):bD:=lp1 0 (LP190_0_v0 xs k0)
theorem vc190_v0 (xs:(List LV)) (k0:LV) (K:KA):vcT C190 (L190_v0 xs k0) ann190_v0 f190 [.brw TVS xs,.fn 191 [.ref (.data TVS k0)]] [] (.dat az) K =
 (∃m_,True/\cr (s190_0_v0 xs k0) Z0 (xs.length:Int) (F.dn xs k0) (fun v0:Unit=>True) (bB (fun v0:Unit=>True->K (dI (-1:Int)) []) (fun q0:Int=>K (dI q0) [])) m_ (s190_0_v0 xs k0 Z0 ())):=by kernel_rfl
theorem lvc190_0_v0 (xs:(List LV)) (k0:LV)  (i0:Int) (v0:Unit) (m:Nat) (K:KX):lvT C190 (L190_v0 xs k0) ann190_v0 f190 0 0 (s190_0_v0 xs k0 i0 v0) m K =
 (cond (decide (i0<(xs.length:Int))) ((0<=i0)/\(i0<(xs.length:Int))/\(Sm TVS (nth (t:=TVS) xs i0))/\(Sm TVS k0)/\cond (decide ((nth (t:=TVS) xs i0)=k0)) (K .ret (⟨[(4,dI i0)],[]⟩:St)) (nxT (LP190_0_v0 xs k0) m K (s190_0_v0 xs k0 (wrap64 (i0+Z1)) ()))) (K (.exit 0) (⟨[],[]⟩:St))):=by kernel_rfl
def ann190_v1:=an [[kp 3],[kp 387],[kp 899],[kp 419],[kp 65955],[kp 16],[kp 387],[kp 16]] [[kp 0]]
abbrev s190_0_v1 (xs:(List LV)) (k0:LC) (i0:Int) (v0:Unit):St:=⟨[(0,.brw TVS xs),(1,.fn 139 [.ref (.data TCS k0)]),(7,dI (xs.length:Int)),(8,dI i0)],[]⟩
abbrev LP190_0_v1 (xs:(List LV)) (k0:LC) (m:Nat) (st_:St) (K:KX):Prop:=True/\cr (s190_0_v1 xs k0) Z0 (xs.length:Int) (F.de xs k0) (fun v0:Unit=>True) (bB (fun v0:Unit=>True->K (.exit 0) (⟨[],[]⟩:St)) (fun q0:Int=>K .ret (⟨[(4,dI q0)],[]⟩:St))) m st_
def L190_v1 (xs:(List LV)) (k0:LC):bD:=lp1 0 (LP190_0_v1 xs k0)
theorem vc190_v1 (xs:(List LV)) (k0:LC) (K:KA):vcT C190 (L190_v1 xs k0) ann190_v1 f190 [.brw TVS xs,.fn 139 [.ref (.data TCS k0)]] [] (.dat az) K =
 (∃m_,True/\cr (s190_0_v1 xs k0) Z0 (xs.length:Int) (F.de xs k0) (fun v0:Unit=>True) (bB (fun v0:Unit=>True->K (dI (-1:Int)) []) (fun q0:Int=>K (dI q0) [])) m_ (s190_0_v1 xs k0 Z0 ())):=by kernel_rfl
theorem lvc190_0_v1 (xs:(List LV)) (k0:LC)  (i0:Int) (v0:Unit) (m:Nat) (K:KX):lvT C190 (L190_v1 xs k0) ann190_v1 f190 0 0 (s190_0_v1 xs k0 i0 v0) m K =
 (cond (decide (i0<(xs.length:Int))) ((0<=i0)/\(i0<(xs.length:Int))/\(Sm TVS (nth (t:=TVS) xs i0))/\(Sm TCS k0)/\cond (!M.bI k0 (nth (t:=TVS) xs i0)) (K .ret (⟨[(4,dI i0)],[]⟩:St)) (nxT (LP190_0_v1 xs k0) m K (s190_0_v1 xs k0 (wrap64 (i0+Z1)) ()))) (K (.exit 0) (⟨[],[]⟩:St))):=by kernel_rfl
def ann190_v2:=an [[kp 3],[kp 387],[kp 899],[kp 419],[kp 65955],[kp 16],[kp 387],[kp 16]] [[kp 0]]
abbrev s190_0_v2 (xs:(List LV)) (k0:LI) (k1:LV) (i0:Int) (v0:Unit):St:=⟨[(0,.brw TVS xs),(1,.fn 202 [.ref (.data (Ty.sl az) k0),.ref (.data TVS k1)]),(7,dI (xs.length:Int)),(8,dI i0)],[]⟩
abbrev LP190_0_v2 (xs:(List LV)) (k0:LI) (k1:LV) (m:Nat) (st_:St) (K:KX):Prop:=True/\cr (s190_0_v2 xs k0 k1) Z0 (xs.length:Int) (F.bY xs k0 k1) (fun v0:Unit=>True) (bB (fun v0:Unit=>True->K (.exit 0) (⟨[],[]⟩:St)) (fun q0:Int=>K .ret (⟨[(4,dI q0)],[]⟩:St))) m st_
def L190_v2 (xs:(List LV)) (k0:LI) (k1:LV):bD:=lp1 0 (LP190_0_v2 xs k0 k1)
theorem vc190_v2 (xs:(List LV)) (k0:LI) (k1:LV) (K:KA):vcT C190 (L190_v2 xs k0 k1) ann190_v2 f190 [.brw TVS xs,.fn 202 [.ref (.data (Ty.sl az) k0),.ref (.data TVS k1)]] [] (.dat az) K =
 (∃m_,True/\cr (s190_0_v2 xs k0 k1) Z0 (xs.length:Int) (F.bY xs k0 k1) (fun v0:Unit=>True) (bB (fun v0:Unit=>True->K (dI (-1:Int)) []) (fun q0:Int=>K (dI q0) [])) m_ (s190_0_v2 xs k0 k1 Z0 ())):=by kernel_rfl
theorem lvc190_0_v2 (xs:(List LV)) (k0:LI) (k1:LV)  (i0:Int) (v0:Unit) (m:Nat) (K:KX):lvT C190 (L190_v2 xs k0 k1) ann190_v2 f190 0 0 (s190_0_v2 xs k0 k1 i0 v0) m K =
 (cond (decide (i0<(xs.length:Int))) ((0<=i0)/\(i0<(xs.length:Int))/\(Sm TVS (nth (t:=TVS) xs i0))/\(Sm (Ty.sl az) k0)/\(Sm TVS k1)/\(M.eV (nth (t:=TVS) xs i0) k0)/\cond (decide (M.taken (nth (t:=TVS) xs i0) k0=k1)) (K .ret (⟨[(4,dI i0)],[]⟩:St)) (nxT (LP190_0_v2 xs k0 k1) m K (s190_0_v2 xs k0 k1 (wrap64 (i0+Z1)) ()))) (K (.exit 0) (⟨[],[]⟩:St))):=by kernel_rfl
theorem con190_ok:aV P 190 c190:=bf C190 func190 (kC con139_ok (kC con191_ok (kC con202_ok kN))) fun args hp K h0=>by
 rcases h0 with h0 | h0 | h0
 ·obtain⟨a0,a1,rfl,rfl,h1⟩:=br h0
  obtain⟨xs,rfl,h2⟩:=bK h1
  obtain⟨cs1,rfl,h3⟩:=bP h2
  obtain⟨b1_0,rfl,h4⟩:=ew h3
  obtain⟨k0,rfl,h5⟩:=cY h4
  obtain⟨h_xs,h_k0,hK⟩:=h5
  have h:ok (F.jf xs k0) (fun r=>K (dI r) []):=aC (F.mL xs k0 h_xs h_k0) hK
  refine⟨rfl,ann190_v0,(L190_v0 xs k0),(.dat az),(bt (i0:=0) (by kernel_rfl) ?_),?_⟩
  ·rintro _ _ K ⟨hc0,i0,v0,rfl,hl0,rfl,hv0,h⟩
   exact cast (lvc190_0_v0 _ _ _ _ _ _).symm (bJ h (fun ht0 h=>⟨hl0,⟨ht0,⟨(aJ h_xs i0),⟨h_k0,(oC h (fun _ h=>h) fun _ h=>(aS (fun _ hm=>⟨hc0,hm⟩) _ rfl hl0 gy ht0 (bu h_xs) trivial h))⟩⟩⟩⟩) fun h=>(h trivial))
  ·rw[vc190_v0]
   exact(bq (fun m hm=>⟨trivial,hm⟩) Z0 _ rfl (Int.natCast_nonneg 0) trivial (bp h (fun v0 h hv0=>h) (fun q0 h=>h)))
 ·obtain⟨a0,a1,rfl,rfl,h1⟩:=br h0
  obtain⟨xs,rfl,h2⟩:=bK h1
  obtain⟨cs1,rfl,h3⟩:=bP h2
  obtain⟨b1_0,rfl,h4⟩:=ew h3
  obtain⟨k0,rfl,h5⟩:=cY h4
  obtain⟨h_xs,h_k0,hK⟩:=h5
  have h:ok (F.iV xs k0) (fun r=>K (dI r) []):=aC (F.mF xs k0 h_xs h_k0) hK
  refine⟨rfl,ann190_v1,(L190_v1 xs k0),(.dat az),(bt (i0:=0) (by kernel_rfl) ?_),?_⟩
  ·rintro _ _ K ⟨hc0,i0,v0,rfl,hl0,rfl,hv0,h⟩
   exact cast (lvc190_0_v1 _ _ _ _ _ _).symm (bJ h (fun ht0 h=>⟨hl0,⟨ht0,⟨(aJ h_xs i0),⟨h_k0,(oC h (fun _ h=>h) fun _ h=>(aS (fun _ hm=>⟨hc0,hm⟩) _ rfl hl0 gy ht0 (bu h_xs) trivial h))⟩⟩⟩⟩) fun h=>(h trivial))
  ·rw[vc190_v1]
   exact(bq (fun m hm=>⟨trivial,hm⟩) Z0 _ rfl (Int.natCast_nonneg 0) trivial (bp h (fun v0 h hv0=>h) (fun q0 h=>h)))
 ·obtain⟨a0,a1,rfl,rfl,h1⟩:=br h0
  obtain⟨xs,rfl,h2⟩:=bK h1
  obtain⟨cs1,rfl,h3⟩:=bP h2
  obtain⟨b1_0,b1_1,rfl,h4⟩:=yH h3
  obtain⟨k0,rfl,h5⟩:=cY h4
  obtain⟨k1,rfl,h6⟩:=cY h5
  obtain⟨h_xs,h_k0,h_k1,p0,hK⟩:=h6
  have h:ok (F.fC xs k0 k1) (fun r=>K (dI r) []):=aC (F.ja xs k0 k1 h_xs h_k0 h_k1 p0) hK
  refine⟨rfl,ann190_v2,(L190_v2 xs k0 k1),(.dat az),(bt (i0:=0) (by kernel_rfl) ?_),?_⟩
  ·rintro _ _ K ⟨hc0,i0,v0,rfl,hl0,rfl,hv0,h⟩
   exact cast (lvc190_0_v2 _ _ _ _ _ _ _).symm (bJ h (fun ht0 h=>⟨hl0,⟨ht0,⟨(aJ h_xs i0),⟨h_k0,⟨h_k1,(oG h fun _ h=>(oC h (fun _ h=>h) fun _ h=>(aS (fun _ hm=>⟨hc0,hm⟩) _ rfl hl0 gy ht0 (bu h_xs) trivial h)))⟩⟩⟩⟩⟩) fun h=>(h trivial))
  ·rw[vc190_v2]
   exact(bq (fun m hm=>⟨trivial,hm⟩) Z0 _ rfl (Int.natCast_nonneg 0) trivial (bp h (fun v0 h hv0=>h) (fun q0 h=>h)))
def c138:Con:=⟨[.lent TVS,.any],fun args hp K=>(args2 (fun a0 a1=>gf TVS a0 fun xs=>gK 139 a1 (nU (fun b1_0=>lC TCS b1_0 fun k0=>(Sm (Ty.sl TVS) xs)/\(Sm TCS k0)/\K (dB (List.any xs (fun e=>!M.bI k0 e))) []))) args hp)\/(args2 (fun a0 a1=>gf TVS a0 fun xs=>gK 202 a1 (Ez (fun b1_0 b1_1=>lC (Ty.sl az) b1_0 fun k0=>lC TVS b1_1 fun k1=>(Sm (Ty.sl TVS) xs)/\(Sm (Ty.sl az) k0)/\(Sm TVS k1)/\(∀e∈xs,M.eV e k0)/\K (dB (List.any xs (fun e=>decide (M.taken e k0=k1)))) []))) args hp),.plain,false⟩
abbrev C138:Ctx:=cx [(139,c139),(190,c190),(202,c202)] 9 [] 0 false
def ann138_v0:=an [[kp 3],[kp 16]] []
theorem vc138_v0 (xs:(List LV)) (k0:LC) (K:KA):vcT C138 ay ann138_v0 f138 [.brw TVS xs,.fn 139 [.ref (.data TCS k0)]] [] (.dat Ty.bool) K =
 (False\/((Sm (Ty.sl TVS) xs)/\(Sm TCS k0)/\K (dB (decide (Z0<=(M.idx (t:=TVS) (fun e=>!M.bI k0 e) xs)))) [])\/False):=by kernel_rfl
def ann138_v1:=an [[kp 3],[kp 16]] []
theorem vc138_v1 (xs:(List LV)) (k0:LI) (k1:LV) (K:KA):vcT C138 ay ann138_v1 f138 [.brw TVS xs,.fn 202 [.ref (.data (Ty.sl az) k0),.ref (.data TVS k1)]] [] (.dat Ty.bool) K =
 (False\/False\/((Sm (Ty.sl TVS) xs)/\(Sm (Ty.sl az) k0)/\(Sm TVS k1)/\(∀e∈xs,M.eV e k0)/\K (dB (decide (Z0<=(M.idx (t:=TVS) (fun e=>decide (M.taken e k0=k1)) xs)))) [])):=by kernel_rfl
theorem con138_ok:aV P 138 c138:=bf C138 func138 (kC con139_ok (kC con190_ok (kC con202_ok kN))) fun args hp K h0=>by
 rcases h0 with h0 | h0
 ·obtain⟨a0,a1,rfl,rfl,h1⟩:=br h0
  obtain⟨xs,rfl,h2⟩:=bK h1
  obtain⟨cs1,rfl,h3⟩:=bP h2
  obtain⟨b1_0,rfl,h4⟩:=ew h3
  obtain⟨k0,rfl,h5⟩:=cY h4
  obtain⟨h_xs,h_k0,hK⟩:=h5
  have h:ok (F.eA xs k0) (fun r=>K (dB r) []):=aC (F.kJ xs k0 h_xs h_k0) hK
  refine⟨rfl,ann138_v0,ay,(.dat Ty.bool),(aG (by kernel_rfl)),?_⟩
  ·rw[vc138_v0]
   exact(Or.inr (Or.inl (⟨h_xs,⟨h_k0,h⟩⟩)))
 ·obtain⟨a0,a1,rfl,rfl,h1⟩:=br h0
  obtain⟨xs,rfl,h2⟩:=bK h1
  obtain⟨cs1,rfl,h3⟩:=bP h2
  obtain⟨b1_0,b1_1,rfl,h4⟩:=yH h3
  obtain⟨k0,rfl,h5⟩:=cY h4
  obtain⟨k1,rfl,h6⟩:=cY h5
  obtain⟨h_xs,h_k0,h_k1,p0,hK⟩:=h6
  have h:ok (F.cT xs k0 k1) (fun r=>K (dB r) []):=aC (F.ij xs k0 k1 h_xs h_k0 h_k1 p0) hK
  refine⟨rfl,ann138_v1,ay,(.dat Ty.bool),(aG (by kernel_rfl)),?_⟩
  ·rw[vc138_v1]
   exact(Or.inr (Or.inr (⟨h_xs,⟨h_k0,⟨h_k1,⟨p0,h⟩⟩⟩⟩)))
def c76:Con:=⟨[.dat TCS,.dat (Ty.sl TVS)],fun args hp K=>g2 (pD TCS) (pD (Ty.sl TVS)) (fun columns rows=>(Sm TCS columns)/\(Sm (Ty.sl TVS) rows)/\K (dB (M.gp columns rows)) []) args hp,.plain,false⟩
abbrev C76:Ctx:=cx [(75,c75),(138,c138),(139,c139)] 13 [] 0 false
def ann76:=an [[.fixBox 2,kp 6],[kp 16]] []
theorem vc76 (columns:LC) (rows:(List LV)) (K:KA):vcT C76 ay ann76 f76 [.data TCS columns,.data (Ty.sl TVS) rows] [] (.dat Ty.bool) K =
 ((Sm TCS columns)/\cond ((M.bC columns)==true) (((Sm (Ty.sl TVS) rows)/\(Sm TCS columns)/\K (dB (!(List.any rows (fun e=>!M.bI columns e)))) [])\/False) (K (dB false) [])):=by kernel_rfl
theorem con76_ok:aV P 76 c76:=bf C76 func76 (kC con75_ok (kC con138_ok (kC con139_ok kN))) fun args hp K h0=>by
 obtain⟨columns,rows,rfl,rfl,h_columns,h_rows,hK⟩:=g2e h0
 have h:ok (F.qF columns rows) (fun r=>K (dB r) []):=aC (F.za columns rows h_columns h_rows) hK
 refine⟨rfl,ann76,ay,(.dat Ty.bool),(aG (by kernel_rfl)),?_⟩
 ·rw[vc76]
  exact⟨h_columns,(oC h (fun _ h=>(Or.inl (⟨h_rows,⟨h_columns,h⟩⟩))) fun _ h=>h)⟩
def c74:Con:=⟨[.dat ag],fun args hp K=>g1 (pD ag) (fun t=>(Sm ag t)/\K (dB (!M.dr t)) []) args hp,.plain,false⟩
abbrev C74:Ctx:=cx [(75,c75),(76,c76)] 21 [] 0 false
def ann74:=an [[.fixRow 1 ag,kp 2],[kp 4]] []
theorem vc74 (t:ag.D) (K:KA):vcT C74 ay ann74 f74 [.data ag t] [] (.dat Ty.bool) K =
 ((Sm TCS t.1)/\cond ((!(M.bC t.1))==false) (cond ((decide (Z6<(t.2.1.length:Int)))==false) ((Sm TCS t.1)/\(Sm (Ty.sl TVS) t.2.1)/\K (dB (!(M.gp t.1 t.2.1))) []) (K (dB true) [])) (K (dB true) [])):=by kernel_rfl
theorem con74_ok:aV P 74 c74:=bf C74 func74 (kC con75_ok (kC con76_ok kN)) fun args hp K h0=>by
 obtain⟨t,rfl,rfl,h_t,hK⟩:=g1e h0
 have h:ok (F.lq t) (fun r=>K (dB r) []):=aC (F.sW t h_t) hK
 refine⟨rfl,ann74,ay,(.dat Ty.bool),(aG (by kernel_rfl)),?_⟩
 ·rw[vc74]
  exact⟨h_t.1,(oC h (fun _ h=>(oC h (fun _ h=>⟨h_t.1,⟨h_t.2.1,h⟩⟩) fun _ h=>h)) fun _ h=>h)⟩
def c135:Con:=⟨[.lent ag,.any],fun args hp K=>args2 (fun a0 a1=>gf ag a0 fun xs=>gK 74 a1 (sg ((Sm TTb xs)/\K (dI (M.idx (t:=ag) (fun e=>!M.dr e) xs)) []))) args hp,.plain,false⟩
abbrev C135:Ctx:=cx [(74,c74)] 19 [] 0 false
def ann135:=an [[kp 3],[kp 387],[kp 899],[kp 419],[kp 65955],[kp 16],[kp 387],[kp 16]] [[kp 0]]
abbrev s135_0 (xs:LTb) (i0:Int) (v0:Unit):St:=⟨[(0,.brw ag xs),(1,.fn 74 []),(7,dI (xs.length:Int)),(8,dI i0)],[]⟩
abbrev LP135_0 (xs:LTb) (m:Nat) (st_:St) (K:KX):Prop:=True/\cr (s135_0 xs) Z0 (xs.length:Int) (F.cP xs) (fun v0:Unit=>True) (bB (fun v0:Unit=>True->K (.exit 0) (⟨[],[]⟩:St)) (fun q0:Int=>K .ret (⟨[(4,dI q0)],[]⟩:St))) m st_
def L135 (xs:LTb):bD:=lp1 0 (LP135_0 xs)
theorem vc135 (xs:LTb) (K:KA):vcT C135 (L135 xs) ann135 f135 [.brw ag xs,.fn 74 []] [] (.dat az) K =
 (∃m_,True/\cr (s135_0 xs) Z0 (xs.length:Int) (F.cP xs) (fun v0:Unit=>True) (bB (fun v0:Unit=>True->K (dI (-1:Int)) []) (fun q0:Int=>K (dI q0) [])) m_ (s135_0 xs Z0 ())):=by kernel_rfl
theorem lvc135_0 (xs:LTb)  (i0:Int) (v0:Unit) (m:Nat) (K:KX):lvT C135 (L135 xs) ann135 f135 0 0 (s135_0 xs i0 v0) m K =
 (cond (decide (i0<(xs.length:Int))) ((0<=i0)/\(i0<(xs.length:Int))/\(Sm ag (nT xs i0))/\cond (!M.dr (nT xs i0)) (K .ret (⟨[(4,dI i0)],[]⟩:St)) (nxT (LP135_0 xs) m K (s135_0 xs (wrap64 (i0+Z1)) ()))) (K (.exit 0) (⟨[],[]⟩:St))):=by kernel_rfl
theorem con135_ok:aV P 135 c135:=bf C135 func135 (kC con74_ok kN) fun args hp K h0=>by
 obtain⟨a0,a1,rfl,rfl,h1⟩:=br h0
 obtain⟨xs,rfl,h2⟩:=bK h1
 obtain⟨cs1,rfl,h3⟩:=bP h2
 obtain⟨rfl,h4⟩:=gB h3
 obtain⟨h_xs,hK⟩:=h4
 have h:ok (F.hY xs) (fun r=>K (dI r) []):=aC (F.kP xs h_xs) hK
 refine⟨rfl,ann135,(L135 xs),(.dat az),(bt (i0:=0) (by kernel_rfl) ?_),?_⟩
 ·rintro _ _ K ⟨hc0,i0,v0,rfl,hl0,rfl,hv0,h⟩
  exact cast (lvc135_0 _ _ _ _ _).symm (bJ h (fun ht0 h=>⟨hl0,⟨ht0,⟨(aJ h_xs i0),(oC h (fun _ h=>h) fun _ h=>(aS (fun _ hm=>⟨hc0,hm⟩) _ rfl hl0 gy ht0 (bu h_xs) trivial h))⟩⟩⟩) fun h=>(h trivial))
 ·rw[vc135]
  exact(bq (fun m hm=>⟨trivial,hm⟩) Z0 _ rfl (Int.natCast_nonneg 0) trivial (bp h (fun v0 h hv0=>h) (fun q0 h=>h)))
def c73:Con:=⟨[.lent ag,.any],fun args hp K=>args2 (fun a0 a1=>gf ag a0 fun xs=>gK 74 a1 (sg ((Sm TTb xs)/\K (dB (List.any xs (fun e=>!M.dr e))) []))) args hp,.plain,false⟩
abbrev C73:Ctx:=cx [(74,c74),(135,c135)] 9 [] 0 false
def ann73:=an [[kp 3],[kp 16]] []
theorem vc73 (xs:LTb) (K:KA):vcT C73 ay ann73 f73 [.brw ag xs,.fn 74 []] [] (.dat Ty.bool) K =
 ((Sm TTb xs)/\K (dB (decide (Z0<=(M.idx (t:=ag) (fun e=>!M.dr e) xs)))) []):=by kernel_rfl
theorem con73_ok:aV P 73 c73:=bf C73 func73 (kC con74_ok (kC con135_ok kN)) fun args hp K h0=>by
 obtain⟨a0,a1,rfl,rfl,h1⟩:=br h0
 obtain⟨xs,rfl,h2⟩:=bK h1
 obtain⟨cs1,rfl,h3⟩:=bP h2
 obtain⟨rfl,h4⟩:=gB h3
 obtain⟨h_xs,hK⟩:=h4
 have h:ok (F.dO xs) (fun r=>K (dB r) []):=aC (F.jD xs h_xs) hK
 refine⟨rfl,ann73,ay,(.dat Ty.bool),(aG (by kernel_rfl)),?_⟩
 ·rw[vc73]
  exact⟨h_xs,h⟩
def c28:Con:=⟨[.dat TTb],fun args hp K=>g1 (pD TTb) (fun tables=>(Sm TTb tables)/\K (dB (M.aH tables)) []) args hp,.plain,false⟩
abbrev C28:Ctx:=cx [(73,c73)] 11 [] 0 false
def ann28:=an [[kp 1],[kp 4]] []
theorem vc28 (tables:LTb) (K:KA):vcT C28 ay ann28 f28 [.data TTb tables] [] (.dat Ty.bool) K =
 (cond ((decide ((tables.length:Int)<=Z3))==true) ((Sm TTb tables)/\K (dB (!(List.any tables (fun e=>!M.dr e)))) []) (K (dB false) [])):=by kernel_rfl
theorem con28_ok:aV P 28 c28:=bf C28 func28 (kC con73_ok kN) fun args hp K h0=>by
 obtain⟨tables,rfl,rfl,h_tables,hK⟩:=g1e h0
 have h:ok (F.nk tables) (fun r=>K (dB r) []):=aC (F.vu tables h_tables) hK
 refine⟨rfl,ann28,ay,(.dat Ty.bool),(aG (by kernel_rfl)),?_⟩
 ·rw[vc28]
  exact(oC h (fun _ h=>⟨h_tables,h⟩) fun _ h=>h)
def c133:Con:=⟨[.dat (Ty.sl TVS),.dat TVS],fun args hp K=>g2 (pD (Ty.sl TVS)) (pD TVS) (fun rows row=>(Sm (Ty.sl TVS) rows)/\(Sm TVS row)/\K (dI (M.rowAt rows row)) []) args hp,.bor,false⟩
abbrev C133:Ctx:=cx [(190,c190),(191,c191)] 8 [] 0 false
def ann133:=an [[.fixBox 3,kp 9],[kp 16]] []
theorem vc133 (rows:(List LV)) (row:LV) (K:KA):vcT C133 ay ann133 f133 [.data (Ty.sl TVS) rows,.data TVS row] [] (.dat az) K =
 (((Sm (Ty.sl TVS) rows)/\(Sm TVS row)/\K (dI (M.idx (t:=TVS) (fun e=>decide (e=row)) rows)) [])\/False\/False):=by kernel_rfl
theorem con133_ok:aV P 133 c133:=bf C133 func133 (kC con190_ok (kC con191_ok kN)) fun args hp K h0=>by
 obtain⟨rows,row,rfl,rfl,h_rows,h_row,hK⟩:=g2e h0
 have h:ok (F.zo rows row) (fun r=>K (dI r) []):=aC (F.zW rows row h_rows h_row) hK
 refine⟨rfl,ann133,ay,(.dat az),(aG (by kernel_rfl)),?_⟩
 ·rw[vc133]
  exact(Or.inl (⟨h_rows,⟨h_row,h⟩⟩))
def c71:Con:=⟨[.dat TTb,.dat aB],fun args hp K=>g2 (pD TTb) (pD aB) (fun tables c=>(Sm TTb tables)/\(Sm aB c)/\K (dB (M.aU tables c)) []) args hp,.bor,false⟩
abbrev C71:Ctx:=cx [(28,c28),(100,c100),(132,c132),(133,c133)] 51 [] 0 false
def ann71:=an [[.fixRow 3 aB,kp 9],[kp 131081],[kp 16],[.fixRow 5 ag,kp 40],[kp 16]] []
abbrev S71_0 (tables:LTb) (c:aB.D) (K:KA):Prop:=cond ((!c.2.2.1)==true) ((Sm (Ty.sl TVS) (nT tables c.1).2.1)/\(Sm TVS c.2.1)/\K (dB (decide (Z0<=(M.rowAt (nT tables c.1).2.1 c.2.1)))) []) (K (dB false) [])
theorem vc71 (tables:LTb) (c:aB.D) (K:KA):vcT C71 ay ann71 f71 [.data TTb tables,.data aB c] [] (.dat Ty.bool) K =
 ((Sm TTb tables)/\cond ((!(M.aH tables))==false) (cond (!(M.inR c.1 Z0 (wrap64 ((tables.length:Int)-Z1)))) (K (dB false) []) ((0<=c.1)/\(c.1<(tables.length:Int))/\(Sm TCS (nT tables c.1).1)/\(Sm TVS c.2.1)/\cond ((M.bI (nT tables c.1).1 c.2.1)==true) (cond (c.2.2.1==true) (cond ((decide (((nT tables c.1).2.1.length:Int)<Z6))==false) (S71_0 tables c K) (K (dB true) [])) (S71_0 tables c K)) (K (dB false) []))) (K (dB false) [])):=by kernel_rfl
theorem con71_ok:aV P 71 c71:=bf C71 func71 (kC con28_ok (kC con100_ok (kC con132_ok (kC con133_ok kN)))) fun args hp K h0=>by
 obtain⟨tables,c,rfl,rfl,h_tables,h_c,hK⟩:=g2e h0
 have h:ok (F.nh tables c) (fun r=>K (dB r) []):=aC (F.vc tables c h_tables h_c) hK
 refine⟨rfl,ann71,ay,(.dat Ty.bool),(aG (by kernel_rfl)),?_⟩
 ·rw[vc71]
  exact⟨h_tables,(oC h (fun _ h=>(oC h (fun _ h=>h) fun b_2 h=>⟨(jO (bnf b_2)),⟨(nD (bnf b_2)),⟨(aJ h_tables c.1).1,⟨h_c.2.1,(oC h (fun _ h=>(oC h (fun b_4 h=>(oC h (fun _ h=>(fK (uef (unf (bet b_4))) h)) fun _ h=>h)) fun b_4 h=>(eL (uet (unt (bef b_4))) ⟨(aJ h_tables c.1).2.1,⟨h_c.2.1,h⟩⟩))) fun _ h=>h)⟩⟩⟩⟩)) fun _ h=>h)⟩
abbrev C156:Ctx:=cx [] 9 [] 400000 true
def T156:Inl:=xW C156 (fun _=>[]) (eG f156) f156.results.toList
theorem inlOk156:xU P 156 T156:=CS C156 func156 kN
def c87:Con:=⟨[.dat (Ty.sl TVS)],fun args hp K=>g1 (pD (Ty.sl TVS)) (fun rows=>(Sm (Ty.sl TVS) rows)/\(LD rows fun r=>K (.clp 0 (r.length:Int)) [(0,.arr .dp TVS r)])) args hp,.bor,false⟩
abbrev C87:Ctx:=cx [(134,c134)] 20 [(156,T156)] 0 true
def ann87:=an [[kp 1],[kp 9],[kp 456],[kp 968],[kp 488],[kp 456],[kp 456],[kp 4]] [[kp 8]]
abbrev s87_0 (rows:(List LV)) (i0:Int) (v0:(List LV)):St:=⟨[(3,.own 3 none),(6,.data (Ty.sl TVS) rows),(7,dI (rows.length:Int)),(8,dI i0)],[(3,.arr .dp TVS v0)]⟩
abbrev LP87_0 (rows:(List LV)) (m:Nat) (st_:St) (K:KX):Prop:=True/\cU (t:=TVS) (s87_0 rows) rows (F.gY rows) (fun v0:(List LV)=>True) (bB (fun v0:(List LV)=>True->K (.exit 0) (⟨[(3,.own 3 none)],[(3,.arr .dp TVS v0)]⟩:St)) (fun _=>False)) m st_
def L87 (rows:(List LV)):bD:=lp1 0 (LP87_0 rows)
theorem vc87 (rows:(List LV)) (K:KA):vcT C87 (L87 rows) ann87 f87 [.data (Ty.sl TVS) rows] [] .raw K =
 (∃m_,True/\cU (t:=TVS) (s87_0 rows) rows (F.gY rows) (fun v0:(List LV)=>True) (bB (fun v0:(List LV)=>True->(0<=Z0)/\(Z0<=(v0.length:Int))/\((v0.length:Int)<=(v0.length:Int))/\((v0.length:Int)=(v0.length:Int))/\(Z0=0)/\K (.clp 0 ((v0.take (v0.length:Int).toNat).length:Int)) [(0,.arr .dp TVS (v0.take (v0.length:Int).toNat))]) (fun _=>False)) m_ (s87_0 rows Z0 [])):=by kernel_rfl
theorem lvc87_0 (rows:(List LV))  (i0:Int) (v0:(List LV)) (m:Nat) (K:KX):lvT C87 (L87 rows) ann87 f87 0 0 (s87_0 rows i0 v0) m K =
 (cond (decide (i0<(rows.length:Int))) ((0<=i0)/\(i0<(rows.length:Int))/\(Sm TVS (nth (t:=TVS) rows i0))/\(LD (nth (t:=TVS) rows i0) fun r1=>((v0.length+[(aD r1 (some (Z0,(r1.length:Int))))].length) * 24<=lim)/\(nxT (LP87_0 rows) m K (s87_0 rows (wrap64 (i0+Z1)) (v0++[(aD r1 (some (Z0,(r1.length:Int))))]))))) (K (.exit 0) (⟨[(3,.own 3 none)],[(3,.arr .dp TVS v0)]⟩:St))):=by kernel_rfl
theorem con87_ok:aV P 87 c87:=bf C87 func87 (kC con134_ok (kI inlOk156 kN)) fun args hp K h0=>by
 obtain⟨rows,rfl,rfl,h_rows,hK⟩:=g1e h0
 have h:ok (F.nO rows) (fun r=>K (.clp 0 (r.length:Int)) [(0,.arr .dp TVS r)]):=aC (F.vG rows h_rows) (hK _ rfl)
 refine⟨rfl,ann87,(L87 rows),.raw,(bt (i0:=0) (by kernel_rfl) ?_),?_⟩
 ·rintro _ _ K ⟨hc0,i0,v0,rfl,hl0,rfl,hv0,h⟩
  exact cast (lvc87_0 _ _ _ _ _).symm (bW (t:=TVS) hl0 h (fun ht0 h=>⟨hl0,⟨ht0,⟨(aJ h_rows i0),(oL h fun _ _ h=>(oG h fun _ h=>(bU (t:=TVS) (fun _ hm=>⟨hc0,hm⟩) _ rfl hl0 ht0 (bu h_rows) trivial h)))⟩⟩⟩) fun h=>(h trivial))
 ·rw[vc87]
  exact(bN (t:=TVS) (fun m hm=>⟨trivial,hm⟩) _ rfl trivial (bp h (fun v0 h hv0=>⟨(Int.natCast_nonneg 0),⟨(Int.natCast_nonneg _),⟨(Int.le_refl _),⟨rfl,⟨rfl,h⟩⟩⟩⟩⟩) (fun _ h=>h.elim)))
abbrev C221:Ctx:=cx [] 9 [] 400000 true
def T221:Inl:=xW C221 (fun _=>[]) (eG f221) f221.results.toList
theorem inlOk221:xU P 221 T221:=CS C221 func221 kN
def c181:Con:=⟨[.dat TCS],fun args hp K=>g1 (pD TCS) (fun xs=>(Sm TCS xs)/\(LD xs fun r=>K (.clp 0 (r.length:Int)) [(0,.arr .sh ax r)])) args hp,.bor,false⟩
abbrev C181:Ctx:=cx [] 9 [(221,T221)] 0 true
def ann181:=an [[kp 1],[kp 33],[.clip 2,kp 4],[kp 4]] []
theorem vc181 (xs:LC) (K:KA):vcT C181 ay ann181 f181 [.data TCS xs] [] .raw K =
 (cond (decide ((xs.length:Int)=Z0)) (K (.clp 0 (([]:List ax.D).length:Int)) [(0,.arr .sh ax ([]:List ax.D))]) ((xs.length * 16<=lim)/\(0<=Z0)/\(Z0<=(xs.length:Int))/\((xs.length:Int)<=(xs.length:Int))/\((xs.length:Int)=(xs.length:Int))/\(Z0=0)/\K (.clp 0 ((xs.take (xs.length:Int).toNat).length:Int)) [(0,.arr .sh ax (xs.take (xs.length:Int).toNat))])):=by kernel_rfl
theorem con181_ok:aV P 181 c181:=bf C181 func181 (kI inlOk221 kN) fun args hp K h0=>by
 obtain⟨xs,rfl,rfl,h_xs,hK⟩:=g1e h0
 have h:ok (F.rX xs) (fun r=>K (.clp 0 (r.length:Int)) [(0,.arr .sh ax r)]):=aC (F.vf xs h_xs) (hK _ rfl)
 refine⟨rfl,ann181,ay,.raw,(aG (by kernel_rfl)),?_⟩
 ·rw[vc181]
  exact(oC h (fun _ h=>h) fun _ h=>⟨(DA h_xs rfl),⟨(Int.natCast_nonneg 0),⟨(Int.natCast_nonneg _),⟨(Int.le_refl _),⟨rfl,⟨rfl,h⟩⟩⟩⟩⟩⟩)
abbrev C116:Ctx:=cx [(87,c87),(181,c181)] 10 [] 200000 true
def T116:Inl:=xW C116 (fun _=>[]) (eG f116) f116.results.toList
theorem inlOk116:xU P 116 T116:=CS C116 func116 (kC con87_ok (kC con181_ok kN))
abbrev C117:Ctx:=cx [] 9 [] 400000 true
def T117:Inl:=xW C117 (fun _=>[]) (eG f117) f117.results.toList
theorem inlOk117:xU P 117 T117:=CS C117 func117 kN
def c54:Con:=⟨[.dat TTb],fun args hp K=>g1 (pD TTb) (fun tables=>(Sm TTb tables)/\(LD tables fun r=>K (.own 0 none) [(0,.arr .dp ag r)])) args hp,.bor,false⟩
abbrev C54:Ctx:=cx [] 20 [(116,T116),(117,T117)] 0 true
def ann54:=an [[kp 1],[kp 9],[kp 456],[kp 968],[.fixRow 5 ag,kp 488],[kp 456],[kp 456],[kp 4]] [[kp 8]]
abbrev s54_0 (tables:LTb) (i0:Int) (v0:LTb):St:=⟨[(3,.own 3 none),(6,.data TTb tables),(7,dI (tables.length:Int)),(8,dI i0)],[(3,.arr .dp ag v0)]⟩
abbrev LP54_0 (tables:LTb) (m:Nat) (st_:St) (K:KX):Prop:=True/\cU (t:=ag) (s54_0 tables) tables (F.fX tables) (fun v0:LTb=>True) (bB (fun v0:LTb=>True->K (.exit 0) (⟨[(3,.own 3 none)],[(3,.arr .dp ag v0)]⟩:St)) (fun _=>False)) m st_
def L54 (tables:LTb):bD:=lp1 0 (LP54_0 tables)
theorem vc54 (tables:LTb) (K:KA):vcT C54 (L54 tables) ann54 f54 [.data TTb tables] [] .own K =
 (∃m_,True/\cU (t:=ag) (s54_0 tables) tables (F.fX tables) (fun v0:LTb=>True) (bB (fun v0:LTb=>True->(0<=Z0)/\(Z0<=(v0.length:Int))/\((v0.length:Int)<=(v0.length:Int))/\((v0.length:Int)=(v0.length:Int))/\(Z0=0)/\(((v0.take (v0.length:Int).toNat).length:Int)=((v0.take (v0.length:Int).toNat).length:Int))/\K (.own 0 none) [(0,.arr .dp ag (v0.take (v0.length:Int).toNat))]) (fun _=>False)) m_ (s54_0 tables Z0 [])):=by kernel_rfl
theorem lvc54_0 (tables:LTb)  (i0:Int) (v0:LTb) (m:Nat) (K:KX):lvT C54 (L54 tables) ann54 f54 0 0 (s54_0 tables i0 v0) m K =
 (cond (decide (i0<(tables.length:Int))) ((0<=i0)/\(i0<(tables.length:Int))/\(Sm TCS (nT tables i0).1)/\(LD (nT tables i0).1 fun r1=>(Sm (Ty.sl TVS) (nT tables i0).2.1)/\(LD (nT tables i0).2.1 fun r2=>((v0.length+[((aD r1 (some (Z0,(r1.length:Int)))),((aD r2 (some (Z0,(r2.length:Int)))),()))].length) * 48<=lim)/\(nxT (LP54_0 tables) m K (s54_0 tables (wrap64 (i0+Z1)) (v0++[((aD r1 (some (Z0,(r1.length:Int)))),((aD r2 (some (Z0,(r2.length:Int)))),()))])))))) (K (.exit 0) (⟨[(3,.own 3 none)],[(3,.arr .dp ag v0)]⟩:St))):=by kernel_rfl
theorem con54_ok:aV P 54 c54:=bf C54 func54 (kI inlOk116 (kI inlOk117 kN)) fun args hp K h0=>by
 obtain⟨tables,rfl,rfl,h_tables,hK⟩:=g1e h0
 have h:ok (F.kU tables) (fun r=>K (.own 0 none) [(0,.arr .dp ag r)]):=aC (F.sH tables h_tables) (hK _ rfl)
 refine⟨rfl,ann54,(L54 tables),.own,(bt (i0:=0) (by kernel_rfl) ?_),?_⟩
 ·rintro _ _ K ⟨hc0,i0,v0,rfl,hl0,rfl,hv0,h⟩
  exact cast (lvc54_0 _ _ _ _ _).symm (bW (t:=ag) hl0 h (fun ht0 h=>⟨hl0,⟨ht0,⟨(aJ h_tables i0).1,(oL h fun _ _ h=>⟨(aJ h_tables i0).2.1,(oL h fun _ _ h=>(oG h fun _ h=>(bU (t:=ag) (fun _ hm=>⟨hc0,hm⟩) _ rfl hl0 ht0 (bu h_tables) trivial h)))⟩)⟩⟩⟩) fun h=>(h trivial))
 ·rw[vc54]
  exact(bN (t:=ag) (fun m hm=>⟨trivial,hm⟩) _ rfl trivial (bp h (fun v0 h hv0=>⟨(Int.natCast_nonneg 0),⟨(Int.natCast_nonneg _),⟨(Int.le_refl _),⟨rfl,⟨rfl,⟨rfl,h⟩⟩⟩⟩⟩⟩) (fun _ h=>h.elim)))
def T88:Inl:=Iw
theorem inlOk88:xU P 88 T88:=⟨Go.Proofs.enters_of func88 (by kernel_rfl) rfl,IB Go.Proofs.CU⟩
def c72:Con:=⟨[.dat TTb,.dat aB],fun args hp K=>g2 (pD TTb) (pD aB) (fun tables c=>(Sm TTb tables)/\(Sm aB c)/\(M.aU tables c)/\(LD (M.bE tables c) fun r=>K (.own 0 none) [(0,.arr .dp ag r)])) args hp,.bor,false⟩
abbrev C72:Ctx:=cx [(54,c54),(87,c87),(133,c133),(134,c134)] 55 [(88,T88)] 0 true
def ann72:=an [[.fixRow 3 aB,kp 9],[kp 40],[kp 104],[kp 32872],[kp 96],[kp 224],[kp 96],[kp 32],[kp 16]] []
theorem vc72 (tables:LTb) (c:aB.D) (K:KA):vcT C72 ay ann72 f72 [.data TTb tables,.data aB c] [] .raw K =
 ((Sm TTb tables)/\(LD tables fun r1=>(0<=c.1)/\(c.1<(r1.length:Int))/\cond c.2.2.1 ((Sm TVS c.2.1)/\(LD c.2.1 fun r2=>(((nT r1 c.1).2.1.length+[(aD r2 (some (Z0,(r2.length:Int))))].length) * 24<=lim)/\(c.1=c.1)/\(let y1:LTb:=((r1.set c.1.toNat ((nT r1 c.1).1,([],()))).set c.1.toNat ((nT (r1.set c.1.toNat ((nT r1 c.1).1,([],()))) c.1).1,(((nT r1 c.1).2.1++[(aD r2 (some (Z0,(r2.length:Int))))]),())));(Sm (Ty.sl TVS) (nT y1 c.1).2.1)/\(LD (nT y1 c.1).2.1 fun r3=>(let y2:LTb:=(y1.set c.1.toNat ((nT y1 c.1).1,((aD r3 (some (Z0,(r3.length:Int)))),())));K (.own 0 none) [(0,.arr .dp ag y2)]))))) ((Sm (Ty.sl TVS) (nT r1 c.1).2.1)/\(Sm TVS c.2.1)/\(0<=(M.rowAt (nT r1 c.1).2.1 c.2.1))/\((M.rowAt (nT r1 c.1).2.1 c.2.1)<=wrap64 ((M.rowAt (nT r1 c.1).2.1 c.2.1)+Z1))/\(wrap64 ((M.rowAt (nT r1 c.1).2.1 c.2.1)+Z1)<=((nT r1 c.1).2.1.length:Int))/\(c.1=c.1)/\(let y3:LTb:=((r1.set c.1.toNat ((nT r1 c.1).1,([],()))).set c.1.toNat ((nT (r1.set c.1.toNat ((nT r1 c.1).1,([],()))) c.1).1,(((nT r1 c.1).2.1.take (M.rowAt (nT r1 c.1).2.1 c.2.1).toNat++(nT r1 c.1).2.1.drop (wrap64 ((M.rowAt (nT r1 c.1).2.1 c.2.1)+Z1)).toNat),())));(Sm (Ty.sl TVS) (nT y3 c.1).2.1)/\(LD (nT y3 c.1).2.1 fun r3=>(let y2:LTb:=(y3.set c.1.toNat ((nT y3 c.1).1,((aD r3 (some (Z0,(r3.length:Int)))),())));K (.own 0 none) [(0,.arr .dp ag y2)])))))):=by kernel_rfl
theorem con72_ok:aV P 72 c72:=bf C72 func72 (kC con54_ok (kC con87_ok (kC con133_ok (kC con134_ok (kI inlOk88 kN))))) fun args hp K h0=>by
 obtain⟨tables,c,rfl,rfl,h_tables,h_c,p0,hK⟩:=g2e h0
 have h:ok (F.jJ tables c) (fun r=>K (.own 0 none) [(0,.arr .dp ag r)]):=aC (F.rO tables c h_tables h_c p0) (hK _ rfl)
 refine⟨rfl,ann72,ay,.raw,(aG (by kernel_rfl)),?_⟩
 ·rw[vc72]
  exact⟨h_tables,(oL h fun _ _ h=>(oG h fun _ h=>(oG h fun _ h=>(oC h (fun _ h=>⟨h_c.2.1,(oL h fun _ _ h=>(oG h fun _ h=>⟨rfl,(have h:=di h _ rfl;(oG h fun _ h=>(oL h fun _ _ h=>(have h:=di h _ rfl;h))))⟩))⟩) fun _ h=>(oG h fun _ h=>⟨h_c.2.1,(oG h fun _ h=>(oG h fun _ h=>(oG h fun _ h=>⟨rfl,(have h:=di h _ rfl;(oG h fun _ h=>(oL h fun _ _ h=>(have h:=di h _ rfl;h))))⟩)))⟩)))))⟩
def c27:Con:=⟨[.dat TTb,.dat aB],fun args hp K=>g2 (pD TTb) (pD aB) (fun tables c=>(Sm TTb tables)/\(Sm aB c)/\(LD (cond (M.aU tables c) (M.bE tables c) [],M.aU tables c) fun r=>K (.tup [.own 0 none,dB r.2]) [(0,.arr .dp ag r.1)])) args hp,.bor,false⟩
abbrev C27:Ctx:=cx [(71,c71),(72,c72)] 13 [] 0 true
def ann27:=an [[.fixRow 3 aB,kp 9],[kp 521],[kp 48],[kp 48]] []
theorem vc27 (tables:LTb) (c:aB.D) (K:KA):vcT C27 ay ann27 f27 [.data TTb tables,.data aB c] [] .raw K =
 ((Sm TTb tables)/\(Sm aB c)/\cond (!(M.aU tables c)) (K (.tup [.own 0 none,dB false]) [(0,.arr .dp ag [])]) ((Sm TTb tables)/\(Sm aB c)/\(M.aU tables c)/\(LD (M.bE tables c) fun r1=>K (.tup [.own 0 none,dB true]) [(0,.arr .dp ag r1)]))):=by kernel_rfl
theorem con27_ok:aV P 27 c27:=bf C27 func27 (kC con71_ok (kC con72_ok kN)) fun args hp K h0=>by
 obtain⟨tables,c,rfl,rfl,h_tables,h_c,hK⟩:=g2e h0
 have h:ok (F.jK tables c) (fun r=>K (.tup [.own 0 none,dB r.2]) [(0,.arr .dp ag r.1)]):=aC (F.rQ tables c h_tables h_c) (hK _ rfl)
 refine⟨rfl,ann27,ay,.raw,(aG (by kernel_rfl)),?_⟩
 ·rw[vc27]
  exact⟨h_tables,⟨h_c,(oC h (fun _ h=>h) fun _ h=>⟨h_tables,⟨h_c,(oG h fun _ h=>(oL h fun _ _ h=>h))⟩⟩)⟩⟩
def c165:Con:=⟨[.dat aE],fun args hp K=>g1 (pD aE) (fun p=>(Sm aE p)/\K (dI (M.takes p)) []) args hp,.plain,false⟩
abbrev C165:Ctx:=cx [] 13 [] 0 false
def ann165:=an [[.fixRow 1 aE,kp 2],[kp 16],[kp 48],[kp 48],[kp 48],[kp 48],[kp 4],[kp 1040],[kp 1024],[kp 4],[kp 4]] []
abbrev S165_0 (p:aE.D) (K:KA):Prop:=cond (decide (p.1=(7:Int))) (cond (decide (p.1=(7:Int))) (K (dI Z1) []) (K (dI Z0) [])) (cond (decide (p.1=(8:Int))) (K (dI Z1) []) (K (dI Z0) []))
theorem vc165 (p:aE.D) (K:KA):vcT C165 ay ann165 f165 [.data aE p] [] (.dat az) K =
 (cond (decide (p.1=Z3)) (cond (decide (p.1=Z3)) (K (dI Z2) []) (S165_0 p K)) (cond (decide (p.1=Z4)) (cond (decide (p.1=Z4)) (K (dI Z2) []) (S165_0 p K)) (cond (decide (p.1=Z5)) (cond (decide (p.1=Z5)) (K (dI Z2) []) (S165_0 p K)) (cond (decide (p.1=Z6)) (K (dI Z2) []) (S165_0 p K))))):=by kernel_rfl
theorem con165_ok:aV P 165 c165:=bf C165 func165 kN fun args hp K h0=>by
 obtain⟨p,rfl,rfl,h_p,hK⟩:=g1e h0
 have h:ok (F.lA p) (fun r=>K (dI r) []):=aC (F.sO p h_p) hK
 refine⟨rfl,ann165,ay,(.dat az),(aG (by kernel_rfl)),?_⟩
 ·rw[vc165]
  exact(oC h (fun b_1 h=>(eL b_1 h)) fun _ h=>(oC h (fun b_6 h=>(eL b_6 h)) fun _ h=>(oC h (fun b_8 h=>(eL b_8 h)) fun _ h=>(oC h (fun _ h=>h) fun _ h=>(oC h (fun b_11 h=>(eL b_11 h)) fun _ h=>(oC h (fun _ h=>h) fun _ h=>h))))))
def c170:Con:=⟨[.dat az],fun args hp K=>g1 (pD az) (fun truth=>(LD (M.valueOf truth) fun r=>K (.data aa r) [])) args hp,.plain,false⟩
abbrev C170:Ctx:=cx [(132,c132)] 9 [] 0 false
def ann170:=an [[kp 5],[kp 37],[kp 4],[kp 4]] []
theorem vc170 (truth:Int) (K:KA):vcT C170 ay ann170 f170 [dI truth] [] (.dat aa) K =
 (cond (!(M.inR truth Z0 Z1)) (K (.data aa (Z0,(Z0,((⟨#[]⟩:ByteArray),())))) []) (K (.data aa (Z3,(truth,((⟨#[]⟩:ByteArray),())))) [])):=by kernel_rfl
theorem con170_ok:aV P 170 c170:=bf C170 func170 (kC con132_ok kN) fun args hp K h0=>by
 obtain⟨truth,rfl,rfl,hK⟩:=g1e h0
 have h:ok (F.oU truth) (fun r=>K (.data aa r) []):=aC (F.xg truth) (hK _ rfl)
 refine⟨rfl,ann170,ay,(.dat aa),(aG (by kernel_rfl)),?_⟩
 ·rw[vc170]
  exact(oC h (fun _ h=>h) fun _ h=>h)
def c216:Con:=⟨[.dat (Ty.sl az)],fun args hp K=>g1 (pD (Ty.sl az)) (fun vals=>(Sm (Ty.sl az) vals)/\K (dI (M.orI vals)) []) args hp,.plain,false⟩
abbrev C216:Ctx:=cx [] 18 [] 0 false
def ann216:=an [[kp 1],[kp 9],[kp 456],[kp 968],[kp 488],[kp 16872],[kp 4],[kp 456],[kp 4]] [[kp 8]]
abbrev s216_0 (vals:LI) (i0:Int) (v0:Unit):St:=⟨[(3,dI Z0),(6,.data (Ty.sl az) vals),(7,dI (vals.length:Int)),(8,dI i0)],[]⟩
abbrev LP216_0 (vals:LI) (m:Nat) (st_:St) (K:KX):Prop:=True/\cU (t:=az) (s216_0 vals) vals (F.iw vals) (fun v0:Unit=>True) (bB (fun v0:Unit=>True->K (.exit 0) (⟨[(3,dI Z0)],[]⟩:St)) (fun q0:Int=>K .ret (⟨[(2,dI q0)],[]⟩:St))) m st_
def L216 (vals:LI):bD:=lp1 0 (LP216_0 vals)
theorem vc216 (vals:LI) (K:KA):vcT C216 (L216 vals) ann216 f216 [.data (Ty.sl az) vals] [] (.dat az) K =
 (∃m_,True/\cU (t:=az) (s216_0 vals) vals (F.iw vals) (fun v0:Unit=>True) (bB (fun v0:Unit=>True->K (dI Z0) []) (fun q0:Int=>K (dI q0) [])) m_ (s216_0 vals Z0 ())):=by kernel_rfl
theorem lvc216_0 (vals:LI)  (i0:Int) (v0:Unit) (m:Nat) (K:KX):lvT C216 (L216 vals) ann216 f216 0 0 (s216_0 vals i0 v0) m K =
 (cond (decide (i0<(vals.length:Int))) ((0<=i0)/\(i0<(vals.length:Int))/\cond (!decide ((nI vals i0)=Z0)) (K .ret (⟨[(2,dI (nI vals i0))],[]⟩:St)) (nxT (LP216_0 vals) m K (s216_0 vals (wrap64 (i0+Z1)) ()))) (K (.exit 0) (⟨[(3,dI Z0)],[]⟩:St))):=by kernel_rfl
theorem con216_ok:aV P 216 c216:=bf C216 func216 kN fun args hp K h0=>by
 obtain⟨vals,rfl,rfl,h_vals,hK⟩:=g1e h0
 have h:ok (F.th vals) (fun r=>K (dI r) []):=aC (F.zL vals h_vals) hK
 refine⟨rfl,ann216,(L216 vals),(.dat az),(bt (i0:=0) (by kernel_rfl) ?_),?_⟩
 ·rintro _ _ K ⟨hc0,i0,v0,rfl,hl0,rfl,hv0,h⟩
  exact cast (lvc216_0 _ _ _ _ _).symm (bW (t:=az) hl0 h (fun ht0 h=>⟨hl0,⟨ht0,(oC h (fun _ h=>h) fun _ h=>(bU (t:=az) (fun _ hm=>⟨hc0,hm⟩) _ rfl hl0 ht0 (bu h_vals) trivial h))⟩⟩) fun h=>(h trivial))
 ·rw[vc216]
  exact(bN (t:=az) (fun m hm=>⟨trivial,hm⟩) _ rfl trivial (bp h (fun v0 h hv0=>h) (fun q0 h=>h)))
def c247:Con:=⟨[.dat az],fun args hp K=>g1 (pD az) (fun x=>K (dB false) []) args hp,.plain,false⟩
abbrev C247:Ctx:=cx [] 6 [] 0 false
def ann247:=an [[kp 1],[kp 4]] []
theorem vc247 (x:Int) (K:KA):vcT C247 ay ann247 f247 [dI x] [] (.dat Ty.bool) K =
 (K (dB (!decide (x=x))) []):=by kernel_rfl
theorem con247_ok:aV P 247 c247:=bf C247 func247 kN fun args hp K h0=>by
 obtain⟨x,rfl,rfl,hK⟩:=g1e h0
 have h:ok (F.cmp_isNaN_int x) (fun r=>K (dB r) []):=aC (F.vD x) hK
 refine⟨rfl,ann247,ay,(.dat Ty.bool),(aG (by kernel_rfl)),?_⟩
 ·rw[vc247]
  exact h
def c219:Con:=⟨[.dat az,.dat az],fun args hp K=>g2 (pD az) (pD az) (fun x y=>K (dI (M.tU x y)) []) args hp,.plain,false⟩
abbrev C219:Ctx:=cx [(247,c247)] 20 [] 0 false
def ann219:=an [[kp 3],[kp 35],[kp 99],[kp 2115],[kp 4096],[kp 16],[kp 16],[kp 8195],[kp 16],[kp 65539],[kp 16],[kp 524288],[kp 16],[kp 16]] []
theorem vc219 (x:Int) (y:Int) (K:KA):vcT C219 ay ann219 f219 [dI x,dI y] [] (.dat az) K =
 (cond false (cond false (K (dI Z0) []) (K (dI (-1:Int)) [])) (cond false (K (dI Z1) []) (cond (decide (x<y)) (K (dI (-1:Int)) []) (cond (decide (y<x)) (K (dI Z1) []) (K (dI Z0) []))))):=by kernel_rfl
theorem con219_ok:aV P 219 c219:=bf C219 func219 (kC con247_ok kN) fun args hp K h0=>by
 obtain⟨x,y,rfl,rfl,hK⟩:=g2e h0
 have h:ok (F.kM x y) (fun r=>K (dI r) []):=aC (F.tn x y) hK
 refine⟨rfl,ann219,ay,(.dat az),(aG (by kernel_rfl)),?_⟩
 ·rw[vc219]
  exact(oC h (fun b_1 h=>(eL b_1 h)) fun b_1 h=>(fK b_1 (oC h (fun _ h=>h) fun _ h=>(oC h (fun _ h=>h) fun _ h=>h))))
def c256:Con:=⟨[.dat Ty.str],fun args hp K=>g1 (pD Ty.str) (fun x=>(Sm Ty.str x)/\K (dB false) []) args hp,.plain,false⟩
abbrev C256:Ctx:=cx [] 6 [] 0 false
def ann256:=an [[kp 1],[kp 4]] []
theorem vc256 (x:ByteArray) (K:KA):vcT C256 ay ann256 f256 [.data Ty.str x] [] (.dat Ty.bool) K =
 (K (dB (!decide (x=x))) []):=by kernel_rfl
theorem con256_ok:aV P 256 c256:=bf C256 func256 kN fun args hp K h0=>by
 obtain⟨x,rfl,rfl,h_x,hK⟩:=g1e h0
 have h:ok (F.cmp_isNaN_string x) (fun r=>K (dB r) []):=aC (F.rW x h_x) hK
 refine⟨rfl,ann256,ay,(.dat Ty.bool),(aG (by kernel_rfl)),?_⟩
 ·rw[vc256]
  exact h
def c246:Con:=⟨[.dat Ty.str,.dat Ty.str],fun args hp K=>g2 (pD Ty.str) (pD Ty.str) (fun x y=>(Sm Ty.str x)/\(Sm Ty.str y)/\K (dI (M.tw x y)) []) args hp,.plain,false⟩
abbrev C246:Ctx:=cx [(256,c256)] 20 [] 0 false
def ann246:=an [[kp 3],[kp 35],[kp 99],[kp 2115],[kp 4096],[kp 16],[kp 16],[kp 8195],[kp 16],[kp 65539],[kp 16],[kp 524288],[kp 16],[kp 16]] []
theorem vc246 (x:ByteArray) (y:ByteArray) (K:KA):vcT C246 ay ann246 f246 [.data Ty.str x,.data Ty.str y] [] (.dat az) K =
 ((Sm Ty.str x)/\(Sm Ty.str y)/\cond false (cond false (K (dI Z0) []) (K (dI (-1:Int)) [])) (cond false (K (dI Z1) []) (cond (Op.bytesLess x.toList y.toList) (K (dI (-1:Int)) []) (cond (!(Op.bytesLess x.toList y.toList||decide (x=y))) (K (dI Z1) []) (K (dI Z0) []))))):=by kernel_rfl
theorem con246_ok:aV P 246 c246:=bf C246 func246 (kC con256_ok kN) fun args hp K h0=>by
 obtain⟨x,y,rfl,rfl,h_x,h_y,hK⟩:=g2e h0
 have h:ok (F.iP x y) (fun r=>K (dI r) []):=aC (F.qi x y h_x h_y) hK
 refine⟨rfl,ann246,ay,(.dat az),(aG (by kernel_rfl)),?_⟩
 ·rw[vc246]
  exact⟨h_x,⟨h_y,(oC h (fun b_1 h=>(eL b_1 h)) fun b_1 h=>(fK b_1 (oC h (fun _ h=>h) fun _ h=>(oC h (fun _ h=>h) fun _ h=>h))))⟩⟩
def c218:Con:=⟨[.dat aa,.dat aa],fun args hp K=>g2 (pD aa) (pD aa) (fun v w=>(Sm aa v)/\(Sm aa w)/\K (dI (M.order v w)) []) args hp,.plain,false⟩
abbrev C218:Ctx:=cx [(216,c216),(219,c219),(246,c246)] 22 [] 0 false
def ann218:=an [[.fixRow 2 aa,.fixRow 3 aa,kp 12],[kp 16]] []
theorem vc218 (v:aa.D) (w:aa.D) (K:KA):vcT C218 ay ann218 f218 [.data aa v,.data aa w] [] (.dat az) K =
 ((Sm Ty.str v.2.2.1)/\(Sm Ty.str w.2.2.1)/\(Sm (Ty.sl az) [(M.tU v.1 w.1),(M.tU v.2.1 w.2.1),(M.tw v.2.2.1 w.2.2.1)])/\K (dI (M.orI [(M.tU v.1 w.1),(M.tU v.2.1 w.2.1),(M.tw v.2.2.1 w.2.2.1)])) []):=by kernel_rfl
theorem con218_ok:aV P 218 c218:=bf C218 func218 (kC con216_ok (kC con219_ok (kC con246_ok kN))) fun args hp K h0=>by
 obtain⟨v,w,rfl,rfl,h_v,h_w,hK⟩:=g2e h0
 have h:ok (F.jP v w) (fun r=>K (dI r) []):=aC (F.rV v w h_v h_w) hK
 refine⟨rfl,ann218,ay,(.dat az),(aG (by kernel_rfl)),?_⟩
 ·rw[vc218]
  exact⟨h_v.2.2.1,⟨h_w.2.2.1,(oG h fun _ h=>h)⟩⟩
def c243:Con:=⟨[.dat Ty.bool],fun args hp K=>g1 (pD Ty.bool) (fun b=>K (dI (M.bool b)) []) args hp,.plain,false⟩
abbrev C243:Ctx:=cx [] 4 [] 0 false
def ann243:=an [[kp 1],[kp 8],[kp 4],[kp 4]] []
theorem vc243 (b:Bool) (K:KA):vcT C243 ay ann243 f243 [dB b] [] (.dat az) K =
 (cond b (K (dI Z1) []) (K (dI Z0) [])):=by kernel_rfl
theorem con243_ok:aV P 243 c243:=bf C243 func243 kN fun args hp K h0=>by
 obtain⟨b,rfl,rfl,hK⟩:=g1e h0
 have h:ok (F.oT b) (fun r=>K (dI r) []):=aC (F.wV b) hK
 refine⟨rfl,ann243,ay,(.dat az),(aG (by kernel_rfl)),?_⟩
 ·rw[vc243]
  exact(oC h (fun _ h=>h) fun _ h=>h)
def c238:Con:=⟨[.dat az,.dat aa,.dat aa],fun args hp K=>g3 (pD az) (pD aa) (pD aa) (fun kind a b=>(Sm aa a)/\(Sm aa b)/\K (dI (M.compare kind a b)) []) args hp,.plain,false⟩
abbrev C238:Ctx:=cx [(131,c131),(132,c132),(218,c218),(243,c243)] 71 [] 0 false
def ann238:=an [[.fixRow 4 aa,.fixRow 5 aa,kp 49],[kp 305],[kp 64],[kp 4194353],[kp 64],[kp 2147483697],[kp 64],[kp 129],[kp 64]] []
abbrev S238_0 (kind:Int) (a:aa.D) (b:aa.D) (K:KA):Prop:=cond ((decide (kind=Z4))==true) (K (dI (M.bool (decide ((M.order a b)<=Z0)))) []) (K (dI (M.bool false)) [])
abbrev S238_1 (kind:Int) (a:aa.D) (b:aa.D) (K:KA):Prop:=cond ((decide (kind=Z3))==true) (cond ((decide ((M.order a b)<Z0))==false) (S238_0 kind a b K) (K (dI (M.bool true)) [])) (S238_0 kind a b K)
abbrev S238_2 (kind:Int) (a:aa.D) (b:aa.D) (K:KA):Prop:=cond ((decide (kind=Z2))==true) (cond ((!decide ((M.order a b)=Z0))==false) (S238_1 kind a b K) (K (dI (M.bool true)) [])) (S238_1 kind a b K)
theorem vc238 (kind:Int) (a:aa.D) (b:aa.D) (K:KA):vcT C238 ay ann238 f238 [dI kind,.data aa a,.data aa b] [] (.dat az) K =
 (cond ((!(M.inR kind Z1 Z4))==false) ((Sm aa a)/\cond ((!(M.aN a))==false) ((Sm aa b)/\cond (!(M.aN b)) (K (dI (-1:Int)) []) (cond ((decide (a.1=Z0))==false) (cond (decide (b.1=Z0)) (K (dI Z2) []) (cond (!decide (a.1=b.1)) (K (dI (-1:Int)) []) ((Sm aa a)/\(Sm aa b)/\cond ((decide (kind=Z1))==true) (cond ((decide ((M.order a b)=Z0))==false) (S238_2 kind a b K) (K (dI (M.bool true)) [])) (S238_2 kind a b K)))) (K (dI Z2) []))) (K (dI (-1:Int)) [])) (K (dI (-1:Int)) [])):=by kernel_rfl
theorem con238_ok:aV P 238 c238:=bf C238 func238 (kC con131_ok (kC con132_ok (kC con218_ok (kC con243_ok kN)))) fun args hp K h0=>by
 obtain⟨kind,a,b,rfl,rfl,h_a,h_b,hK⟩:=g3e h0
 have h:ok (F.oY kind a b) (fun r=>K (dI r) []):=aC (F.wF kind a b h_a h_b) hK
 refine⟨rfl,ann238,ay,(.dat az),(aG (by kernel_rfl)),?_⟩
 ·rw[vc238]
  exact(oC h (fun _ h=>⟨h_a,(oC h (fun _ h=>⟨h_b,(oC h (fun _ h=>h) fun _ h=>(oC h (fun _ h=>(oC h (fun _ h=>h) fun _ h=>(oC h (fun _ h=>h) fun _ h=>⟨h_a,⟨h_b,(oC h (fun b_7 h=>(oC h (fun _ h=>(fK (uef (mC (bet b_7) (by decide))) (fK (uef (mC (bet b_7) (by decide))) (fK (uef (mC (bet b_7) (by decide))) h)))) fun _ h=>h)) fun _ h=>(oC h (fun b_19 h=>(oC h (fun _ h=>(fK (uef (mC (bet b_19) (by decide))) (fK (uef (mC (bet b_19) (by decide))) h))) fun _ h=>h)) fun _ h=>(oC h (fun b_25 h=>(oC h (fun _ h=>(fK (uef (mC (bet b_25) (by decide))) h)) fun _ h=>h)) fun _ h=>(oC h (fun _ h=>h) fun _ h=>h))))⟩⟩))) fun _ h=>h))⟩) fun _ h=>h)⟩) fun _ h=>h)
def c260:Con:=⟨[.dat az],fun args hp K=>g1 (pD az) (fun n=>K (dB (M.inR n 0 2)) []) args hp,.plain,false⟩
abbrev C260:Ctx:=cx [(132,c132)] 5 [] 0 false
def ann260:=an [[kp 1],[kp 4]] []
theorem vc260 (n:Int) (K:KA):vcT C260 ay ann260 f260 [dI n] [] (.dat Ty.bool) K =
 (K (dB (M.inR n Z0 Z2)) []):=by kernel_rfl
theorem con260_ok:aV P 260 c260:=bf C260 func260 (kC con132_ok kN) fun args hp K h0=>by
 obtain⟨n,rfl,rfl,hK⟩:=g1e h0
 have h:ok (F.tF n) (fun r=>K (dB r) []):=aC (F.wH n) hK
 refine⟨rfl,ann260,ay,(.dat Ty.bool),(aG (by kernel_rfl)),?_⟩
 ·rw[vc260]
  exact h
def c254:Con:=⟨[.dat az,.dat az,.dat az],fun args hp K=>g3 (pD az) (pD az) (pD az) (fun a b alone=>(0<=alone/\alone<=1)/\K (dI (M.fold a b alone)) []) args hp,.plain,false⟩
abbrev C254:Ctx:=cx [(260,c260)] 35 [] 0 false
def ann254:=an [[kp 7],[kp 135],[kp 64],[kp 65543],[kp 64],[kp 67108868],[kp 64],[kp 64]] []
theorem vc254 (a:Int) (b:Int) (alone:Int) (K:KA):vcT C254 ay ann254 f254 [dI a,dI b,dI alone] [] (.dat az) K =
 (cond ((!(M.inR a 0 2))==false) (cond (!(M.inR b 0 2)) (K (dI (-1:Int)) []) (cond ((decide (a=alone))==false) (cond (decide (b=alone)) (K (dI alone) []) (cond ((decide (a=Z2))==false) (cond (decide (b=Z2)) (K (dI Z2) []) (K (dI (wrap64 (Z1-alone))) [])) (K (dI Z2) []))) (K (dI alone) []))) (K (dI (-1:Int)) [])):=by kernel_rfl
theorem con254_ok:aV P 254 c254:=bf C254 func254 (kC con260_ok kN) fun args hp K h0=>by
 obtain⟨a,b,alone,rfl,rfl,p0,hK⟩:=g3e h0
 have h:ok (F.vz a b alone) (fun r=>K (dI r) []):=aC (F.AX a b alone p0) hK
 refine⟨rfl,ann254,ay,(.dat az),(aG (by kernel_rfl)),?_⟩
 ·rw[vc254]
  exact(oC h (fun _ h=>(oC h (fun _ h=>h) fun _ h=>(oC h (fun _ h=>(oC h (fun _ h=>h) fun _ h=>(oC h (fun _ h=>(oC h (fun _ h=>h) fun _ h=>h)) fun _ h=>h))) fun _ h=>h))) fun _ h=>h)
def c239:Con:=⟨[.dat az,.dat az],fun args hp K=>g2 (pD az) (pD az) (fun a b=>K (dI (M.qw a b)) []) args hp,.plain,false⟩
abbrev C239:Ctx:=cx [(254,c254)] 8 [] 0 false
def ann239:=an [[kp 3],[kp 16]] []
theorem vc239 (a:Int) (b:Int) (K:KA):vcT C239 ay ann239 f239 [dI a,dI b] [] (.dat az) K =
 ((0<=Z0/\Z0<=1)/\K (dI (M.fold a b Z0)) []):=by kernel_rfl
theorem con239_ok:aV P 239 c239:=bf C239 func239 (kC con254_ok kN) fun args hp K h0=>by
 obtain⟨a,b,rfl,rfl,hK⟩:=g2e h0
 have h:ok (F.sR a b) (fun r=>K (dI r) []):=aC (F.zG a b) hK
 refine⟨rfl,ann239,ay,(.dat az),(aG (by kernel_rfl)),?_⟩
 ·rw[vc239]
  exact(oG h fun _ h=>h)
def c240:Con:=⟨[.dat aa],fun args hp K=>g1 (pD aa) (fun v=>(Sm aa v)/\K (dI (M.bV v)) []) args hp,.plain,false⟩
abbrev C240:Ctx:=cx [(131,c131)] 17 [] 0 false
def ann240:=an [[.fixRow 1 aa,kp 2],[kp 10],[kp 4],[kp 130],[kp 4],[kp 2050],[kp 4],[kp 4]] []
theorem vc240 (v:aa.D) (K:KA):vcT C240 ay ann240 f240 [.data aa v] [] (.dat az) K =
 ((Sm aa v)/\cond (!(M.aN v)) (K (dI (-1:Int)) []) (cond (decide (v.1=Z0)) (K (dI Z2) []) (cond (decide (v.1=Z3)) (K (dI v.2.1) []) (K (dI (-1:Int)) [])))):=by kernel_rfl
theorem con240_ok:aV P 240 c240:=bf C240 func240 (kC con131_ok kN) fun args hp K h0=>by
 obtain⟨v,rfl,rfl,h_v,hK⟩:=g1e h0
 have h:ok (F.pW v) (fun r=>K (dI r) []):=aC (F.wK v h_v) hK
 refine⟨rfl,ann240,ay,(.dat az),(aG (by kernel_rfl)),?_⟩
 ·rw[vc240]
  exact⟨h_v,(oC h (fun _ h=>h) fun _ h=>(oC h (fun _ h=>h) fun _ h=>(oC h (fun _ h=>h) fun _ h=>h)))⟩
def c241:Con:=⟨[.dat az,.dat az],fun args hp K=>g2 (pD az) (pD az) (fun a b=>K (dI (M.xZ a b)) []) args hp,.plain,false⟩
abbrev C241:Ctx:=cx [(254,c254)] 8 [] 0 false
def ann241:=an [[kp 3],[kp 16]] []
theorem vc241 (a:Int) (b:Int) (K:KA):vcT C241 ay ann241 f241 [dI a,dI b] [] (.dat az) K =
 ((0<=Z1/\Z1<=1)/\K (dI (M.fold a b Z1)) []):=by kernel_rfl
theorem con241_ok:aV P 241 c241:=bf C241 func241 (kC con254_ok kN) fun args hp K h0=>by
 obtain⟨a,b,rfl,rfl,hK⟩:=g2e h0
 have h:ok (F.vT a b) (fun r=>K (dI r) []):=aC (F.Bb a b) hK
 refine⟨rfl,ann241,ay,(.dat az),(aG (by kernel_rfl)),?_⟩
 ·rw[vc241]
  exact(oG h fun _ h=>h)
def c242:Con:=⟨[.dat az],fun args hp K=>g1 (pD az) (fun a=>K (dI (M.ri a)) []) args hp,.plain,false⟩
abbrev C242:Ctx:=cx [] 10 [] 0 false
def ann242:=an [[kp 1],[kp 8],[kp 24],[kp 4],[kp 72],[kp 4],[kp 256],[kp 4],[kp 4]] []
theorem vc242 (a:Int) (K:KA):vcT C242 ay ann242 f242 [dI a] [] (.dat az) K =
 (cond (decide (a=Z0)) (K (dI Z1) []) (cond (decide (a=Z1)) (K (dI Z0) []) (cond (decide (a=Z2)) (K (dI Z2) []) (K (dI (-1:Int)) [])))):=by kernel_rfl
theorem con242_ok:aV P 242 c242:=bf C242 func242 kN fun args hp K h0=>by
 obtain⟨a,rfl,rfl,hK⟩:=g1e h0
 have h:ok (F.tj a) (fun r=>K (dI r) []):=aC (F.Ab a) hK
 refine⟨rfl,ann242,ay,(.dat az),(aG (by kernel_rfl)),?_⟩
 ·rw[vc242]
  exact(oC h (fun _ h=>h) fun _ h=>(oC h (fun _ h=>h) fun _ h=>(oC h (fun _ h=>h) fun _ h=>h)))
def c212:Con:=⟨[.dat aE,.dat TVS,.lent aa],fun args hp K=>g3 (pD aE) (pD TVS) (pB aa) (fun p row inp=>(Sm aE p)/\(Sm TVS row)/\(Sm TVS inp)/\((inp.length:Int)=M.takes p)/\(M.mZ p row.length)/\(1<=p.1/\p.1<=8)/\(LD (M.gO p row inp) fun r=>K (.data aa r) [])) args hp,.plain,false⟩
abbrev C212:Ctx:=cx [(131,c131),(170,c170),(238,c238),(239,c239),(240,c240),(241,c241),(242,c242),(243,c243)] 103 [] 0 false
def ann212:=an [[.fixRow 3 aE,kp 78],[kp 590],[kp 1614],[kp 64],[kp 16974],[kp 64],[kp 2097740],[.fixRow 7 aa,kp 196],[.keep [6,7,49]],[kp 64],[kp 64],[kp 4503599627371084],[kp 64],[.keep [2,6,9,64]],[kp 64],[.keep [2,6,9,76]],[kp 64],[.keep [2,6,88]],[kp 64],[kp 64]] []
theorem vc212 (p:aE.D) (row:LV) (inp:LV) (K:KA):vcT C212 ay ann212 f212 [.data aE p,.data TVS row,.brw aa inp] [] (.dat aa) K =
 (cond (decide (p.1=Z1)) (K (.data aa p.2.2.1) []) (cond (decide (p.1=Z2)) ((0<=p.2.1)/\(p.2.1<(row.length:Int))/\K (.data aa (nV row p.2.1)) []) (cond (decide (p.1=Z3)) ((0<=Z0)/\(Z0<(inp.length:Int))/\(0<=Z1)/\(Z1<(inp.length:Int))/\(0<=Z0)/\(Z0<(inp.length:Int))/\cond ((decide ((nV inp Z0).1=Z0))==false) ((0<=Z1)/\(Z1<(inp.length:Int))/\cond ((decide ((nV inp Z1).1=Z0))==false) ((Sm aa (Z1,(wrap64 ((nV inp Z0).2.1+(nV inp Z1).2.1),((⟨#[]⟩:ByteArray),()))))/\cond (!(M.aN (Z1,(wrap64 ((nV inp Z0).2.1+(nV inp Z1).2.1),((⟨#[]⟩:ByteArray),()))))) (K (.data aa (Z0,(Z0,((⟨#[]⟩:ByteArray),())))) []) (K (.data aa (Z1,(wrap64 ((nV inp Z0).2.1+(nV inp Z1).2.1),((⟨#[]⟩:ByteArray),())))) [])) (K (.data aa (Z0,(Z0,((⟨#[]⟩:ByteArray),())))) [])) (K (.data aa (Z0,(Z0,((⟨#[]⟩:ByteArray),())))) [])) (cond (decide (p.1=Z4)) ((0<=Z0)/\(Z0<(inp.length:Int))/\(0<=Z1)/\(Z1<(inp.length:Int))/\(Sm aa (nV inp Z0))/\(Sm aa (nV inp Z1))/\(LD (M.valueOf (M.compare p.2.1 (nV inp Z0) (nV inp Z1))) fun r1=>K (.data aa r1) [])) (cond (decide (p.1=Z5)) ((0<=Z0)/\(Z0<(inp.length:Int))/\(0<=Z1)/\(Z1<(inp.length:Int))/\(Sm aa (nV inp Z0))/\(Sm aa (nV inp Z1))/\(LD (M.valueOf (M.qw (M.bV (nV inp Z0)) (M.bV (nV inp Z1)))) fun r2=>K (.data aa r2) [])) (cond (decide (p.1=Z6)) ((0<=Z0)/\(Z0<(inp.length:Int))/\(0<=Z1)/\(Z1<(inp.length:Int))/\(Sm aa (nV inp Z0))/\(Sm aa (nV inp Z1))/\(LD (M.valueOf (M.xZ (M.bV (nV inp Z0)) (M.bV (nV inp Z1)))) fun r3=>K (.data aa r3) [])) (cond (decide (p.1=(7:Int))) ((0<=Z0)/\(Z0<(inp.length:Int))/\(Sm aa (nV inp Z0))/\(LD (M.valueOf (M.ri (M.bV (nV inp Z0)))) fun r4=>K (.data aa r4) [])) ((0<=Z0)/\(Z0<(inp.length:Int))/\(LD (M.valueOf (M.bool (decide ((nV inp Z0).1=Z0)))) fun r5=>K (.data aa r5) []))))))))):=by kernel_rfl
theorem con212_ok:aV P 212 c212:=bf C212 func212 (kC con131_ok (kC con170_ok (kC con238_ok (kC con239_ok (kC con240_ok (kC con241_ok (kC con242_ok (kC con243_ok kN)))))))) fun args hp K h0=>by
 obtain⟨p,row,inp,rfl,rfl,h_p,h_row,h_inp,p0,p1,p2,hK⟩:=g3e h0
 have h:ok (F.ld p row inp) (fun r=>K (.data aa r) []):=aC (F.tg p row inp h_p h_row h_inp p0 p1 p2) (hK _ rfl)
 refine⟨rfl,ann212,ay,(.dat aa),(aG (by kernel_rfl)),?_⟩
 ·rw[vc212]
  exact(oC h (fun _ h=>h) fun _ h=>(oC h (fun _ h=>(oG h fun _ h=>(oG h fun _ h=>h))) fun _ h=>(oC h (fun _ h=>⟨(Int.natCast_nonneg 0),(oG h fun g1 h=>⟨(Int.natCast_nonneg 1),(oG h fun g2 h=>⟨(Int.natCast_nonneg 0),⟨g1,(oC h (fun _ h=>⟨(Int.natCast_nonneg 1),⟨g2,(oC h (fun _ h=>⟨(show Sm aa _ from⟨trivial,(show Sm (Ty.pair az (Ty.pair Ty.str Ty.unit)) _ from⟨trivial,(show Sm (Ty.pair Ty.str Ty.unit) _ from⟨(Nat.le_of_ble_eq_true rfl),trivial⟩)⟩)⟩),(oC h (fun _ h=>h) fun _ h=>h)⟩) fun _ h=>h)⟩⟩) fun _ h=>h)⟩⟩)⟩)⟩) fun _ h=>(oC h (fun _ h=>⟨(Int.natCast_nonneg 0),(oG h fun _ h=>⟨(Int.natCast_nonneg 1),(oG h fun _ h=>⟨(aJ h_inp Z0),⟨(aJ h_inp Z1),(oL h fun _ _ h=>h)⟩⟩)⟩)⟩) fun _ h=>(oC h (fun _ h=>⟨(Int.natCast_nonneg 0),(oG h fun _ h=>⟨(Int.natCast_nonneg 1),(oG h fun _ h=>⟨(aJ h_inp Z0),⟨(aJ h_inp Z1),(oL h fun _ _ h=>h)⟩⟩)⟩)⟩) fun _ h=>(oC h (fun _ h=>⟨(Int.natCast_nonneg 0),(oG h fun _ h=>⟨(Int.natCast_nonneg 1),(oG h fun _ h=>⟨(aJ h_inp Z0),⟨(aJ h_inp Z1),(oL h fun _ _ h=>h)⟩⟩)⟩)⟩) fun _ h=>(oC h (fun _ h=>⟨(Int.natCast_nonneg 0),(oG h fun _ h=>⟨(aJ h_inp Z0),(oL h fun _ _ h=>h)⟩)⟩) fun _ h=>⟨(Int.natCast_nonneg 0),(oG h fun _ h=>(oL h fun _ _ h=>h))⟩)))))))
def c169:Con:=⟨[.dat TVS,.dat TPS],fun args hp K=>g2 (pD TVS) (pD TPS) (fun row e=>(Sm TVS row)/\(Sm TPS e)/\(M.jw row.length e)/\(LD (M.dY row e) fun r=>K (.data aa r) [])) args hp,.plain,false⟩
abbrev C169:Ctx:=cx [(165,c165),(212,c212)] 37 [] 0 false
def ann169:=an [[kp 19],[kp 51],[kp 7217],[kp 15409],[.fixRow 7 aE,kp 7345],[kp 7601],[.fixRow 9 aa,kp 7985],[kp 7217],[kp 7217],[kp 16]] [[kp 48]]
abbrev s169_0 (row:LV) (e:LPt) (i0:Int) (v0:LV):St:=⟨[(0,.data TVS row),(4,.ptr 4 0),(5,.own 5 none),(10,.data TPS e),(11,dI (e.length:Int)),(12,dI i0)],[(4,.box [dI Z0,dI Z0,.data Ty.str (⟨#[]⟩:ByteArray)]),(5,.arr .sh aa v0)]⟩
abbrev LP169_0 (row:LV) (e:LPt) (m:Nat) (st_:St) (K:KX):Prop:=True/\cU (t:=aE) (s169_0 row e) e (F.dN row e) (fun v0:LV=>True) (bB (fun v0:LV=>True->K (.exit 0) (⟨[(4,.ptr 4 0),(5,.own 5 none)],[(4,.box [dI Z0,dI Z0,.data Ty.str (⟨#[]⟩:ByteArray)]),(5,.arr .sh aa v0)]⟩:St)) (fun _=>False)) m st_
def L169 (row:LV) (e:LPt):bD:=lp1 0 (LP169_0 row e)
theorem vc169 (row:LV) (e:LPt) (K:KA):vcT C169 (L169 row e) ann169 f169 [.data TVS row,.data TPS e] [] (.dat aa) K =
 (∃m_,True/\cU (t:=aE) (s169_0 row e) e (F.dN row e) (fun v0:LV=>True) (bB (fun v0:LV=>True->(0<=Z0)/\(Z0<(v0.length:Int))/\K (.data aa (nV v0 Z0)) []) (fun _=>False)) m_ (s169_0 row e Z0 [])):=by kernel_rfl
abbrev S169l0_0 (row:LV) (e:LPt)  (i0:Int) (v0:LV) (m:Nat) (K:KX):Prop:=(Sm aE (nP e i0))/\(Sm TVS row)/\(Sm TVS (aD v0 (some (wrap64 ((v0.length:Int)-(M.takes (nP e i0))),(v0.length:Int)))))/\(((aD v0 (some (wrap64 ((v0.length:Int)-(M.takes (nP e i0))),(v0.length:Int)))).length:Int)=M.takes (nP e i0))/\(M.mZ (nP e i0) row.length)/\(1<=(nP e i0).1/\(nP e i0).1<=8)/\(LD (M.gO (nP e i0) row (aD v0 (some (wrap64 ((v0.length:Int)-(M.takes (nP e i0))),(v0.length:Int))))) fun r1=>(0<=Z0)/\(Z0<=wrap64 ((v0.length:Int)-(M.takes (nP e i0))))/\(wrap64 ((v0.length:Int)-(M.takes (nP e i0)))<=(v0.length:Int))/\(wrap64 ((v0.length:Int)-(M.takes (nP e i0)))=wrap64 ((v0.length:Int)-(M.takes (nP e i0))))/\(Z0=0)/\(((wrap64 ((v0.length:Int)-(M.takes (nP e i0)))).toNat+[r1].length) * 32<=lim)/\(nxT (LP169_0 row e) m K (s169_0 row e (wrap64 (i0+Z1)) (v0.take (wrap64 ((v0.length:Int)-(M.takes (nP e i0)))).toNat++[r1]))))
theorem lvc169_0 (row:LV) (e:LPt)  (i0:Int) (v0:LV) (m:Nat) (K:KX):lvT C169 (L169 row e) ann169 f169 0 0 (s169_0 row e i0 v0) m K =
 (cond (decide (i0<(e.length:Int))) ((0<=i0)/\(i0<(e.length:Int))/\(Sm aE (nP e i0))/\(0<=wrap64 ((v0.length:Int)-(M.takes (nP e i0))))/\(wrap64 ((v0.length:Int)-(M.takes (nP e i0)))<=(v0.length:Int))/\((v0.length:Int)<=(v0.length:Int))/\((v0.length:Int)=(v0.length:Int))/\Q0 (S169l0_0  row e i0 v0 m K)) (K (.exit 0) (⟨[(4,.ptr 4 0),(5,.own 5 none)],[(4,.box [dI Z0,dI Z0,.data Ty.str (⟨#[]⟩:ByteArray)]),(5,.arr .sh aa v0)]⟩:St))):=by kernel_rfl
theorem con169_ok:aV P 169 c169:=bf C169 func169 (kC con165_ok (kC con212_ok kN)) fun args hp K h0=>by
 obtain⟨row,e,rfl,rfl,h_row,h_e,p0,hK⟩:=g2e h0
 have h:ok (F.mq row e) (fun r=>K (.data aa r) []):=aC (F.tL row e h_row h_e p0) (hK _ rfl)
 refine⟨rfl,ann169,(L169 row e),(.dat aa),(bt (i0:=0) (by kernel_rfl) ?_),?_⟩
 ·rintro _ _ K ⟨hc0,i0,v0,rfl,hl0,rfl,hv0,h⟩
  exact cast (lvc169_0 _ _ _ _ _ _).symm (bW (t:=aE) hl0 h (fun ht0 h=>⟨hl0,⟨ht0,⟨(aJ h_e i0),(oG h fun _ h=>(oG h fun g1 h=>⟨(Int.le_refl _),⟨rfl,(q0 (⟨(aJ h_e i0),⟨h_row,(oG h fun _ h=>(oG h fun _ h=>(oG h fun _ h=>(oG h fun _ h=>(oL h fun _ _ h=>⟨(Int.natCast_nonneg 0),(oG h fun _ h=>⟨g1,⟨rfl,⟨rfl,(oG h fun _ h=>(bU (t:=aE) (fun _ hm=>⟨hc0,hm⟩) _ rfl hl0 ht0 (bu h_e) trivial h))⟩⟩⟩)⟩)))))⟩⟩))⟩⟩))⟩⟩⟩) fun h=>(h trivial))
 ·rw[vc169]
  exact(bN (t:=aE) (fun m hm=>⟨trivial,hm⟩) _ rfl trivial (bp h (fun v0 h hv0=>⟨(Int.natCast_nonneg 0),(oG h fun _ h=>h)⟩) (fun _ h=>h.elim)))
def c201:Con:=⟨[.dat (Ty.sl az),.any],fun args hp K=>g2 (pD (Ty.sl az)) (pR TVS) (fun list key=>(Sm (Ty.sl az) list)/\(Sm TVS key)/\(LD (list,key) fun r=>K (.fn 202 [.ref (.data (Ty.sl az) r.1),.ref (.data TVS r.2)]) [])) args hp,.plain,false⟩
abbrev C201:Ctx:=cx [(202,c202)] 5 [] 0 false
def ann201:=an [[.fixBox 2,kp 6],[kp 8]] []
theorem vc201 (list:LI) (key:LV) (K:KA):vcT C201 ay ann201 f201 [.data (Ty.sl az) list,.ref (.data TVS key)] [] .raw K =
 (K (.fn 202 [.ref (.data (Ty.sl az) list),.ref (.data TVS key)]) []):=by kernel_rfl
theorem con201_ok:aV P 201 c201:=bf C201 func201 (kC con202_ok kN) fun args hp K h0=>by
 obtain⟨list,key,rfl,rfl,h_list,h_key,hK⟩:=g2e h0
 have h:ok (F.mD list key) (fun r=>K (.fn 202 [.ref (.data (Ty.sl az) r.1),.ref (.data TVS r.2)]) []):=aC (F.qh list key h_list h_key) (hK _ rfl)
 refine⟨rfl,ann201,ay,.raw,(aG (by kernel_rfl)),?_⟩
 ·rw[vc201]
  exact h
def c155:Con:=⟨[.dat ah,.dat TTb,.dat az],fun args hp K=>g3 (pD ah) (pD TTb) (pD az) (fun b tables n=>(Sm ah b)/\(Sm TTb tables)/\((M.aH tables&&M.aO tables b)=true)/\(0<=n/\n<((M.cJ tables b).length:Int))/\K (dB (M.breaks tables b n)) []) args hp,.plain,false⟩
abbrev C155:Ctx:=cx [(138,c138),(169,c169),(170,c170),(198,c198),(199,c199),(201,c201)] 63 [] 0 false
def ann155:=an [[.fixRow 3 ah,kp 14],[kp 142],[kp 2097294],[kp 64],[.fixBox 8,kp 270],[kp 8589934862],[kp 64],[kp 526],[kp 137438953998],[kp 64],[kp 64]] []
theorem vc155 (b:ah.D) (tables:LTb) (n:Int) (K:KA):vcT C155 ay ann155 f155 [.data ah b,.data TTb tables,dI n] [] (.dat Ty.bool) K =
 ((0<=b.2.1)/\(b.2.1<(tables.length:Int))/\(0<=n)/\(n<((nT tables b.2.1).2.1.length:Int))/\cond (decide (b.1=Z3)) ((Sm TVS (nth (t:=TVS) (nT tables b.2.1).2.1 n))/\(Sm TPS b.2.2.2.2.2.2.1)/\(M.jw (nth (t:=TVS) (nT tables b.2.1).2.1 n).length b.2.2.2.2.2.2.1)/\(LD (M.dY (nth (t:=TVS) (nT tables b.2.1).2.1 n) b.2.2.2.2.2.2.1) fun r1=>(LD (M.valueOf Z0) fun r2=>K (dB (Ty.beq aa r1 r2)) []))) ((Sm TVS (nth (t:=TVS) (nT tables b.2.1).2.1 n))/\(Sm (Ty.sl az) b.2.2.1)/\(M.eV (nth (t:=TVS) (nT tables b.2.1).2.1 n) b.2.2.1)/\(LD (M.taken (nth (t:=TVS) (nT tables b.2.1).2.1 n) b.2.2.1) fun r3=>(((Sm TVS r3)/\cond (List.any r3 (fun e=>decide (e.1=0))) (K (dB false) []) (cond (decide (b.1=Z1)) ((0<=b.2.1)/\(b.2.1<(tables.length:Int))/\(0<=Z0)/\(Z0<=n)/\(n<=((nT tables b.2.1).2.1.length:Int))/\(n=n)/\(Sm (Ty.sl az) b.2.2.1)/\(Sm TVS r3)/\(LD (b.2.2.1,r3) fun r4=>(False\/((Sm (Ty.sl TVS) (aD (nT tables b.2.1).2.1 (some (Z0,n))))/\(Sm (Ty.sl az) r4.1)/\(Sm TVS r4.2)/\(∀e∈(aD (nT tables b.2.1).2.1 (some (Z0,n))),M.eV e r4.1)/\K (dB (List.any (aD (nT tables b.2.1).2.1 (some (Z0,n))) (fun e=>decide (M.taken e r4.1=r4.2)))) [])))) ((0<=b.2.2.2.1)/\(b.2.2.2.1<(tables.length:Int))/\(Sm (Ty.sl az) b.2.2.2.2.1)/\(Sm TVS r3)/\(LD (b.2.2.2.2.1,r3) fun r5=>(False\/((Sm (Ty.sl TVS) (nT tables b.2.2.2.1).2.1)/\(Sm (Ty.sl az) r5.1)/\(Sm TVS r5.2)/\(∀e∈(nT tables b.2.2.2.1).2.1,M.eV e r5.1)/\K (dB (!(List.any (nT tables b.2.2.2.1).2.1 (fun e=>decide (M.taken e r5.1=r5.2))))) []))))))\/False)))):=by kernel_rfl
theorem con155_ok:aV P 155 c155:=bf C155 func155 (kC con138_ok (kC con169_ok (kC con170_ok (kC con198_ok (kC con199_ok (kC con201_ok kN)))))) fun args hp K h0=>by
 obtain⟨b,tables,n,rfl,rfl,h_b,h_tables,p0,p1,hK⟩:=g3e h0
 have h:ok (F.jH b tables n) (fun r=>K (dB r) []):=aC (F.rS b tables n h_b h_tables p0 p1) hK
 refine⟨rfl,ann155,ay,(.dat Ty.bool),(aG (by kernel_rfl)),?_⟩
 ·rw[vc155]
  exact(oG h fun g1 h=>(oG h fun g2 h=>(oG h fun _ h=>(oG h fun _ h=>(oC h (fun _ h=>⟨(aJ (aJ h_tables b.2.1).2.1 n),⟨h_b.2.2.2.2.2.2.1,(oG h fun _ h=>(oL h fun _ _ h=>(oL h fun _ _ h=>h)))⟩⟩) fun _ h=>⟨(aJ (aJ h_tables b.2.1).2.1 n),⟨h_b.2.2.1,(oG h fun _ h=>(oL h fun _ er3 h=>(Or.inl (⟨(gH er3 (M.gd (aJ (aJ h_tables b.2.1).2.1 n) h_b.2.2.1)),(oC h (fun _ h=>h) fun _ h=>(oC h (fun _ h=>⟨g1,⟨g2,⟨(Int.natCast_nonneg 0),(oG h fun _ h=>(oG h fun _ h=>⟨rfl,⟨h_b.2.2.1,⟨(gH er3 (M.gd (aJ (aJ h_tables b.2.1).2.1 n) h_b.2.2.1)),(oL h fun _ er4 h=>(Or.inr (⟨(ta (aJ h_tables b.2.1).2.1 _),⟨(by rw[er4];exact h_b.2.2.1),⟨(by rw[er4];exact(gH er3 (M.gd (aJ (aJ h_tables b.2.1).2.1 n) h_b.2.2.1))),(oG h fun _ h=>h)⟩⟩⟩)))⟩⟩⟩))⟩⟩⟩) fun _ h=>(oG h fun _ h=>(oG h fun _ h=>⟨h_b.2.2.2.2.1,⟨(gH er3 (M.gd (aJ (aJ h_tables b.2.1).2.1 n) h_b.2.2.1)),(oL h fun _ er5 h=>(Or.inr (⟨(aJ h_tables b.2.2.2.1).2.1,⟨(by rw[er5];exact h_b.2.2.2.2.1),⟨(by rw[er5];exact(gH er3 (M.gd (aJ (aJ h_tables b.2.1).2.1 n) h_b.2.2.1))),(oG h fun _ h=>h)⟩⟩⟩)))⟩⟩))))⟩))))⟩⟩)))))
def c86:Con:=⟨[.dat ah,.dat TTb],fun args hp K=>g2 (pD ah) (pD TTb) (fun b tables=>(Sm ah b)/\(Sm TTb tables)/\((M.aH tables&&M.aO tables b)=true)/\K (dI (M.broken tables b)) []) args hp,.bor,false⟩
abbrev C86:Ctx:=cx [(155,c155)] 22 [] 0 false
def ann86:=an [[.fixRow 2 ah,kp 6],[kp 12294],[kp 28678],[kp 12326],[kp 536614],[kp 16],[kp 12294],[kp 16]] [[kp 0]]
abbrev s86_0 (b:ah.D) (tables:LTb) (i0:Int) (v0:Unit):St:=⟨[(1,.data TTb tables),(2,.adr ah b),(12,dI ((nT tables b.2.1).2.1.length:Int)),(13,dI i0)],[]⟩
abbrev LP86_0 (b:ah.D) (tables:LTb) (m:Nat) (st_:St) (K:KX):Prop:=True/\cr (s86_0 b tables) Z0 ((nT tables b.2.1).2.1.length:Int) (F.fo b tables) (fun v0:Unit=>True) (bB (fun v0:Unit=>True->K (.exit 0) (⟨[],[]⟩:St)) (fun q0:Int=>K .ret (⟨[(4,dI q0)],[]⟩:St))) m st_
def L86 (b:ah.D) (tables:LTb):bD:=lp1 0 (LP86_0 b tables)
theorem vc86 (b:ah.D) (tables:LTb) (K:KA):vcT C86 (L86 b tables) ann86 f86 [.data ah b,.data TTb tables] [] (.dat az) K =
 ((0<=b.2.1)/\(b.2.1<(tables.length:Int))/\(∃m_,True/\cr (s86_0 b tables) Z0 ((nT tables b.2.1).2.1.length:Int) (F.fo b tables) (fun v0:Unit=>True) (bB (fun v0:Unit=>True->K (dI (-1:Int)) []) (fun q0:Int=>K (dI q0) [])) m_ (s86_0 b tables Z0 ()))):=by kernel_rfl
theorem lvc86_0 (b:ah.D) (tables:LTb)  (i0:Int) (v0:Unit) (m:Nat) (K:KX):lvT C86 (L86 b tables) ann86 f86 0 0 (s86_0 b tables i0 v0) m K =
 (cond (decide (i0<((nT tables b.2.1).2.1.length:Int))) ((Sm ah b)/\(Sm TTb tables)/\((M.aH tables&&M.aO tables b)=true)/\(0<=i0/\i0<((M.cJ tables b).length:Int))/\cond (M.breaks tables b i0) (K .ret (⟨[(4,dI i0)],[]⟩:St)) (nxT (LP86_0 b tables) m K (s86_0 b tables (wrap64 (i0+Z1)) ()))) (K (.exit 0) (⟨[],[]⟩:St))):=by kernel_rfl
theorem con86_ok:aV P 86 c86:=bf C86 func86 (kC con155_ok kN) fun args hp K h0=>by
 obtain⟨b,tables,rfl,rfl,h_b,h_tables,p0,hK⟩:=g2e h0
 have h:ok (F.jV b tables) (fun r=>K (dI r) []):=aC (F.rP b tables h_b h_tables p0) hK
 refine⟨rfl,ann86,(L86 b tables),(.dat az),(bt (i0:=0) (by kernel_rfl) ?_),?_⟩
 ·rintro _ _ K ⟨hc0,i0,v0,rfl,hl0,rfl,hv0,h⟩
  exact cast (lvc86_0 _ _ _ _ _ _).symm (bJ h (fun ht0 h=>⟨h_b,⟨h_tables,(oG h fun _ h=>(oG h fun _ h=>(oC h (fun _ h=>h) fun _ h=>(aS (fun _ hm=>⟨hc0,hm⟩) _ rfl hl0 gy ht0 (bu (aJ h_tables b.2.1).2.1) trivial h))))⟩⟩) fun h=>(h trivial))
 ·rw[vc86]
  exact(oG h fun _ h=>(oG h fun _ h=>(bq (fun m hm=>⟨trivial,hm⟩) Z0 _ rfl (Int.natCast_nonneg 0) trivial (bp h (fun v0 h hv0=>h) (fun q0 h=>h)))))
def c119:Con:=⟨[.dat ah,.any],fun args hp K=>g2 (pD ah) (pR TTb) (fun b tables=>(Sm ah b)/\(Sm TTb tables)/\((M.aH tables&&M.aO tables b)=true)/\K (dB (decide (0<=M.broken tables b))) []) args hp,.plain,false⟩
abbrev C119:Ctx:=cx [(86,c86)] 8 [] 0 false
def ann119:=an [[.fixRow 2 ah,kp 6],[kp 8]] []
theorem vc119 (b:ah.D) (tables:LTb) (K:KA):vcT C119 ay ann119 f119 [.data ah b,.ref (.data TTb tables)] [] (.dat Ty.bool) K =
 ((Sm ah b)/\(Sm TTb tables)/\((M.aH tables&&M.aO tables b)=true)/\K (dB (decide (Z0<=(M.broken tables b)))) []):=by kernel_rfl
theorem con119_ok:aV P 119 c119:=bf C119 func119 (kC con86_ok kN) fun args hp K h0=>by
 obtain⟨b,tables,rfl,rfl,h_b,h_tables,p0,hK⟩:=g2e h0
 have h:ok (F.wC b tables) (fun r=>K (dB r) []):=aC (F.zg b tables h_b h_tables p0) hK
 refine⟨rfl,ann119,ay,(.dat Ty.bool),(aG (by kernel_rfl)),?_⟩
 ·rw[vc119]
  exact⟨h_b,⟨h_tables,⟨p0,h⟩⟩⟩
def c166:Con:=⟨[.dat aE,.dat TCS],fun args hp K=>g2 (pD aE) (pD TCS) (fun p columns=>(Sm aE p)/\(Sm TCS columns)/\K (dB (M.lE p columns)) []) args hp,.plain,false⟩
abbrev C166:Ctx:=cx [(131,c131),(132,c132)] 63 [] 0 false
def ann166:=an [[.fixRow 2 aE,kp 6],[kp 70],[kp 198],[kp 16],[kp 8388678],[kp 16],[kp 137438953540],[kp 16],[.keep [2,6,48]],[.keep [2,6,48]],[.keep [2,6,48]],[.keep [2,6,48]],[.keep [2,48]],[kp 16],[kp 16]] []
abbrev S166_0 (p:aE.D) (columns:LC) (K:KA):Prop:=cond ((decide (p.2.1=Z0))==true) (K (dB (Ty.beq aa p.2.2.1 (Z0,(Z0,((⟨#[]⟩:ByteArray),()))))) []) (K (dB false) [])
theorem vc166 (p:aE.D) (columns:LC) (K:KA):vcT C166 ay ann166 f166 [.data aE p,.data TCS columns] [] (.dat Ty.bool) K =
 (cond (decide (p.1=Z1)) (cond ((decide (p.2.1=Z0))==true) ((Sm aa p.2.2.1)/\cond ((M.aN p.2.2.1)==true) (K (dB (!decide (p.2.2.1.1=Z0))) []) (K (dB false) [])) (K (dB false) [])) (cond (decide (p.1=Z2)) (cond ((M.inR p.2.1 Z0 (wrap64 ((columns.length:Int)-Z1)))==true) (K (dB (Ty.beq aa p.2.2.1 (Z0,(Z0,((⟨#[]⟩:ByteArray),()))))) []) (K (dB false) [])) (cond (decide (p.1=Z4)) (cond ((M.inR p.2.1 Z1 Z4)==true) (K (dB (Ty.beq aa p.2.2.1 (Z0,(Z0,((⟨#[]⟩:ByteArray),()))))) []) (K (dB false) [])) (cond (decide (p.1=Z3)) (cond (decide (p.1=Z3)) (S166_0 p columns K) (K (dB false) [])) (cond (decide (p.1=Z5)) (cond (decide (p.1=Z5)) (S166_0 p columns K) (K (dB false) [])) (cond (decide (p.1=Z6)) (cond (decide (p.1=Z6)) (S166_0 p columns K) (K (dB false) [])) (cond (decide (p.1=(7:Int))) (cond (decide (p.1=(7:Int))) (S166_0 p columns K) (K (dB false) [])) (cond (decide (p.1=(8:Int))) (S166_0 p columns K) (K (dB false) []))))))))):=by kernel_rfl
theorem con166_ok:aV P 166 c166:=bf C166 func166 (kC con131_ok (kC con132_ok kN)) fun args hp K h0=>by
 obtain⟨p,columns,rfl,rfl,h_p,h_columns,hK⟩:=g2e h0
 have h:ok (F.kT p columns) (fun r=>K (dB r) []):=aC (F.tc p columns h_p h_columns) hK
 refine⟨rfl,ann166,ay,(.dat Ty.bool),(aG (by kernel_rfl)),?_⟩
 ·rw[vc166]
  exact(oC h (fun _ h=>(oC h (fun _ h=>⟨h_p.2.2.1,(oC h (fun _ h=>h) fun _ h=>h)⟩) fun _ h=>h)) fun _ h=>(oC h (fun _ h=>(oC h (fun _ h=>h) fun _ h=>h)) fun _ h=>(oC h (fun _ h=>(oC h (fun _ h=>h) fun _ h=>h)) fun _ h=>(oC h (fun b_8 h=>(eL b_8 (oC h (fun _ h=>h) fun _ h=>h))) fun _ h=>(oC h (fun b_11 h=>(eL b_11 (oC h (fun _ h=>h) fun _ h=>h))) fun _ h=>(oC h (fun b_14 h=>(eL b_14 (oC h (fun _ h=>h) fun _ h=>h))) fun _ h=>(oC h (fun b_17 h=>(eL b_17 (oC h (fun _ h=>h) fun _ h=>h))) fun _ h=>(oC h (fun _ h=>(oC h (fun _ h=>h) fun _ h=>h)) fun _ h=>h))))))))
def c210:Con:=⟨[.dat az,.any],fun args hp K=>g2 (pD az) (pR az) (fun k kind=>K (dB (!decide (k=kind))) []) args hp,.plain,false⟩
abbrev C210:Ctx:=cx [] 7 [] 0 false
def ann210:=an [[kp 3],[kp 8]] []
theorem vc210 (k:Int) (kind:Int) (K:KA):vcT C210 ay ann210 f210 [dI k,.ref (dI kind)] [] (.dat Ty.bool) K =
 (K (dB (!decide (k=kind))) []):=by kernel_rfl
theorem con210_ok:aV P 210 c210:=bf C210 func210 kN fun args hp K h0=>by
 obtain⟨k,kind,rfl,rfl,hK⟩:=g2e h0
 have h:ok (F.mA k kind) (fun r=>K (dB r) []):=aC (F.qg k kind) hK
 refine⟨rfl,ann210,ay,(.dat Ty.bool),(aG (by kernel_rfl)),?_⟩
 ·rw[vc210]
  exact h
def c222:Con:=⟨[.dat az,.any],fun args hp K=>g2 (pD az) (pA ag) (fun n t=>(Sm ag t)/\K (dB (!M.inR n 0 (t.1.length-1))) []) args hp,.plain,false⟩
abbrev C222:Ctx:=cx [(132,c132)] 11 [] 0 false
def ann222:=an [[kp 3],[kp 8]] []
theorem vc222 (n:Int) (t:ag.D) (K:KA):vcT C222 ay ann222 f222 [dI n,.adr ag t] [] (.dat Ty.bool) K =
 (K (dB (!(M.inR n Z0 (wrap64 ((t.1.length:Int)-Z1))))) []):=by kernel_rfl
theorem con222_ok:aV P 222 c222:=bf C222 func222 (kC con132_ok kN) fun args hp K h0=>by
 obtain⟨n,t,rfl,rfl,h_t,hK⟩:=g2e h0
 have h:ok (F.nL n t) (fun r=>K (dB r) []):=aC (F.uS n t h_t) hK
 refine⟨rfl,ann222,ay,(.dat Ty.bool),(aG (by kernel_rfl)),?_⟩
 ·rw[vc222]
  exact h
def c237:Con:=⟨[.lent az,.any],fun args hp K=>(args2 (fun a0 a1=>gf az a0 fun xs=>gK 222 a1 (nU (fun b1_0=>CE ag b1_0 fun k0=>(Sm (Ty.sl az) xs)/\(Sm ag k0)/\K (dI (M.idx (t:=az) (fun e=>!M.inR e 0 (k0.1.length-1)) xs)) []))) args hp)\/(args2 (fun a0 a1=>gf az a0 fun xs=>gK 210 a1 (nU (fun b1_0=>lC az b1_0 fun k0=>(Sm (Ty.sl az) xs)/\K (dI (M.idx (t:=az) (fun e=>!decide (e=k0)) xs)) []))) args hp),.plain,false⟩
abbrev C237:Ctx:=cx [(210,c210),(222,c222)] 19 [] 0 false
def ann237_v0:=an [[kp 3],[kp 387],[kp 899],[kp 419],[kp 65955],[kp 16],[kp 387],[kp 16]] [[kp 0]]
abbrev s237_0_v0 (xs:LI) (k0:ag.D) (i0:Int) (v0:Unit):St:=⟨[(0,.brw az xs),(1,.fn 222 [.adr ag k0]),(7,dI (xs.length:Int)),(8,dI i0)],[]⟩
abbrev LP237_0_v0 (xs:LI) (k0:ag.D) (m:Nat) (st_:St) (K:KX):Prop:=True/\cr (s237_0_v0 xs k0) Z0 (xs.length:Int) (F.cX xs k0) (fun v0:Unit=>True) (bB (fun v0:Unit=>True->K (.exit 0) (⟨[],[]⟩:St)) (fun q0:Int=>K .ret (⟨[(4,dI q0)],[]⟩:St))) m st_
def L237_v0 (xs:LI) (k0:ag.D):bD:=lp1 0 (LP237_0_v0 xs k0)
theorem vc237_v0 (xs:LI) (k0:ag.D) (K:KA):vcT C237 (L237_v0 xs k0) ann237_v0 f237 [.brw az xs,.fn 222 [.adr ag k0]] [] (.dat az) K =
 (∃m_,True/\cr (s237_0_v0 xs k0) Z0 (xs.length:Int) (F.cX xs k0) (fun v0:Unit=>True) (bB (fun v0:Unit=>True->K (dI (-1:Int)) []) (fun q0:Int=>K (dI q0) [])) m_ (s237_0_v0 xs k0 Z0 ())):=by kernel_rfl
theorem lvc237_0_v0 (xs:LI) (k0:ag.D)  (i0:Int) (v0:Unit) (m:Nat) (K:KX):lvT C237 (L237_v0 xs k0) ann237_v0 f237 0 0 (s237_0_v0 xs k0 i0 v0) m K =
 (cond (decide (i0<(xs.length:Int))) ((0<=i0)/\(i0<(xs.length:Int))/\(Sm ag k0)/\cond (!M.inR (nI xs i0) 0 (k0.1.length-1)) (K .ret (⟨[(4,dI i0)],[]⟩:St)) (nxT (LP237_0_v0 xs k0) m K (s237_0_v0 xs k0 (wrap64 (i0+Z1)) ()))) (K (.exit 0) (⟨[],[]⟩:St))):=by kernel_rfl
def ann237_v1:=an [[kp 3],[kp 387],[kp 899],[kp 419],[kp 65955],[kp 16],[kp 387],[kp 16]] [[kp 0]]
abbrev s237_0_v1 (xs:LI) (k0:Int) (i0:Int) (v0:Unit):St:=⟨[(0,.brw az xs),(1,.fn 210 [.ref (dI k0)]),(7,dI (xs.length:Int)),(8,dI i0)],[]⟩
abbrev LP237_0_v1 (xs:LI) (k0:Int) (m:Nat) (st_:St) (K:KX):Prop:=True/\cr (s237_0_v1 xs k0) Z0 (xs.length:Int) (F.cu xs k0) (fun v0:Unit=>True) (bB (fun v0:Unit=>True->K (.exit 0) (⟨[],[]⟩:St)) (fun q0:Int=>K .ret (⟨[(4,dI q0)],[]⟩:St))) m st_
def L237_v1 (xs:LI) (k0:Int):bD:=lp1 0 (LP237_0_v1 xs k0)
theorem vc237_v1 (xs:LI) (k0:Int) (K:KA):vcT C237 (L237_v1 xs k0) ann237_v1 f237 [.brw az xs,.fn 210 [.ref (dI k0)]] [] (.dat az) K =
 (∃m_,True/\cr (s237_0_v1 xs k0) Z0 (xs.length:Int) (F.cu xs k0) (fun v0:Unit=>True) (bB (fun v0:Unit=>True->K (dI (-1:Int)) []) (fun q0:Int=>K (dI q0) [])) m_ (s237_0_v1 xs k0 Z0 ())):=by kernel_rfl
theorem lvc237_0_v1 (xs:LI) (k0:Int)  (i0:Int) (v0:Unit) (m:Nat) (K:KX):lvT C237 (L237_v1 xs k0) ann237_v1 f237 0 0 (s237_0_v1 xs k0 i0 v0) m K =
 (cond (decide (i0<(xs.length:Int))) ((0<=i0)/\(i0<(xs.length:Int))/\cond (!decide ((nI xs i0)=k0)) (K .ret (⟨[(4,dI i0)],[]⟩:St)) (nxT (LP237_0_v1 xs k0) m K (s237_0_v1 xs k0 (wrap64 (i0+Z1)) ()))) (K (.exit 0) (⟨[],[]⟩:St))):=by kernel_rfl
theorem con237_ok:aV P 237 c237:=bf C237 func237 (kC con210_ok (kC con222_ok kN)) fun args hp K h0=>by
 rcases h0 with h0 | h0
 ·obtain⟨a0,a1,rfl,rfl,h1⟩:=br h0
  obtain⟨xs,rfl,h2⟩:=bK h1
  obtain⟨cs1,rfl,h3⟩:=bP h2
  obtain⟨b1_0,rfl,h4⟩:=ew h3
  obtain⟨k0,rfl,h5⟩:=sN h4
  obtain⟨h_xs,h_k0,hK⟩:=h5
  have h:ok (F.iQ xs k0) (fun r=>K (dI r) []):=aC (F.mc xs k0 h_xs h_k0) hK
  refine⟨rfl,ann237_v0,(L237_v0 xs k0),(.dat az),(bt (i0:=0) (by kernel_rfl) ?_),?_⟩
  ·rintro _ _ K ⟨hc0,i0,v0,rfl,hl0,rfl,hv0,h⟩
   exact cast (lvc237_0_v0 _ _ _ _ _ _).symm (bJ h (fun ht0 h=>⟨hl0,⟨ht0,⟨h_k0,(oC h (fun _ h=>h) fun _ h=>(aS (fun _ hm=>⟨hc0,hm⟩) _ rfl hl0 gy ht0 (bu h_xs) trivial h))⟩⟩⟩) fun h=>(h trivial))
  ·rw[vc237_v0]
   exact(bq (fun m hm=>⟨trivial,hm⟩) Z0 _ rfl (Int.natCast_nonneg 0) trivial (bp h (fun v0 h hv0=>h) (fun q0 h=>h)))
 ·obtain⟨a0,a1,rfl,rfl,h1⟩:=br h0
  obtain⟨xs,rfl,h2⟩:=bK h1
  obtain⟨cs1,rfl,h3⟩:=bP h2
  obtain⟨b1_0,rfl,h4⟩:=ew h3
  obtain⟨k0,rfl,h5⟩:=cY h4
  obtain⟨h_xs,hK⟩:=h5
  have h:ok (F.ga xs k0) (fun r=>K (dI r) []):=aC (F.jC xs k0 h_xs) hK
  refine⟨rfl,ann237_v1,(L237_v1 xs k0),(.dat az),(bt (i0:=0) (by kernel_rfl) ?_),?_⟩
  ·rintro _ _ K ⟨hc0,i0,v0,rfl,hl0,rfl,hv0,h⟩
   exact cast (lvc237_0_v1 _ _ _ _ _ _).symm (bJ h (fun ht0 h=>⟨hl0,⟨ht0,(oC h (fun _ h=>h) fun _ h=>(aS (fun _ hm=>⟨hc0,hm⟩) _ rfl hl0 gy ht0 (bu h_xs) trivial h))⟩⟩) fun h=>(h trivial))
  ·rw[vc237_v1]
   exact(bq (fun m hm=>⟨trivial,hm⟩) Z0 _ rfl (Int.natCast_nonneg 0) trivial (bp h (fun v0 h hv0=>h) (fun q0 h=>h)))
def c209:Con:=⟨[.lent az,.any],fun args hp K=>(args2 (fun a0 a1=>gf az a0 fun xs=>gK 222 a1 (nU (fun b1_0=>CE ag b1_0 fun k0=>(Sm (Ty.sl az) xs)/\(Sm ag k0)/\K (dB (List.any xs (fun e=>!M.inR e 0 (k0.1.length-1)))) []))) args hp)\/(args2 (fun a0 a1=>gf az a0 fun xs=>gK 210 a1 (nU (fun b1_0=>lC az b1_0 fun k0=>(Sm (Ty.sl az) xs)/\K (dB (List.any xs (fun e=>!decide (e=k0)))) []))) args hp),.plain,false⟩
abbrev C209:Ctx:=cx [(210,c210),(222,c222),(237,c237)] 9 [] 0 false
def ann209_v0:=an [[kp 3],[kp 16]] []
theorem vc209_v0 (xs:LI) (k0:ag.D) (K:KA):vcT C209 ay ann209_v0 f209 [.brw az xs,.fn 222 [.adr ag k0]] [] (.dat Ty.bool) K =
 (((Sm (Ty.sl az) xs)/\(Sm ag k0)/\K (dB (decide (Z0<=(M.idx (t:=az) (fun e=>!M.inR e 0 (k0.1.length-1)) xs)))) [])\/False):=by kernel_rfl
def ann209_v1:=an [[kp 3],[kp 16]] []
theorem vc209_v1 (xs:LI) (k0:Int) (K:KA):vcT C209 ay ann209_v1 f209 [.brw az xs,.fn 210 [.ref (dI k0)]] [] (.dat Ty.bool) K =
 (False\/((Sm (Ty.sl az) xs)/\K (dB (decide (Z0<=(M.idx (t:=az) (fun e=>!decide (e=k0)) xs)))) [])):=by kernel_rfl
theorem con209_ok:aV P 209 c209:=bf C209 func209 (kC con210_ok (kC con222_ok (kC con237_ok kN))) fun args hp K h0=>by
 rcases h0 with h0 | h0
 ·obtain⟨a0,a1,rfl,rfl,h1⟩:=br h0
  obtain⟨xs,rfl,h2⟩:=bK h1
  obtain⟨cs1,rfl,h3⟩:=bP h2
  obtain⟨b1_0,rfl,h4⟩:=ew h3
  obtain⟨k0,rfl,h5⟩:=sN h4
  obtain⟨h_xs,h_k0,hK⟩:=h5
  have h:ok (F.eH xs k0) (fun r=>K (dB r) []):=aC (F.kB xs k0 h_xs h_k0) hK
  refine⟨rfl,ann209_v0,ay,(.dat Ty.bool),(aG (by kernel_rfl)),?_⟩
  ·rw[vc209_v0]
   exact(Or.inl (⟨h_xs,⟨h_k0,h⟩⟩))
 ·obtain⟨a0,a1,rfl,rfl,h1⟩:=br h0
  obtain⟨xs,rfl,h2⟩:=bK h1
  obtain⟨cs1,rfl,h3⟩:=bP h2
  obtain⟨b1_0,rfl,h4⟩:=ew h3
  obtain⟨k0,rfl,h5⟩:=cY h4
  obtain⟨h_xs,hK⟩:=h5
  have h:ok (F.dj xs k0) (fun r=>K (dB r) []):=aC (F.iM xs k0 h_xs) hK
  refine⟨rfl,ann209_v1,ay,(.dat Ty.bool),(aG (by kernel_rfl)),?_⟩
  ·rw[vc209_v1]
   exact(Or.inr (⟨h_xs,h⟩))
def c208:Con:=⟨[.dat az,.any],fun args hp K=>g2 (pD az) (pQ az) (fun kind ins=>(Sm (Ty.sl az) ins)/\K (dB (List.all ins (fun k=>decide (k=kind)))) []) args hp,.plain,false⟩
abbrev C208:Ctx:=cx [(209,c209),(210,c210)] 8 [] 0 false
def ann208:=an [[.fixBox 2,kp 6],[kp 8]] []
theorem vc208 (kind:Int) (ins:LI) (K:KA):vcT C208 ay ann208 f208 [dI kind,.ref (.brw az ins)] [] (.dat Ty.bool) K =
 (False\/((Sm (Ty.sl az) ins)/\K (dB (!(List.any ins (fun e=>!decide (e=kind))))) [])):=by kernel_rfl
theorem con208_ok:aV P 208 c208:=bf C208 func208 (kC con209_ok (kC con210_ok kN)) fun args hp K h0=>by
 obtain⟨kind,ins,rfl,rfl,h_ins,hK⟩:=g2e h0
 have h:ok (F.jU kind ins) (fun r=>K (dB r) []):=aC (F.rU kind ins h_ins) hK
 refine⟨rfl,ann208,ay,(.dat Ty.bool),(aG (by kernel_rfl)),?_⟩
 ·rw[vc208]
  exact(Or.inr (⟨h_ins,h⟩))
def c167:Con:=⟨[.dat aE,.dat TCS,.lent az],fun args hp K=>g3 (pD aE) (pD TCS) (pB az) (fun p columns inp=>(Sm aE p)/\(Sm TCS columns)/\(Sm (Ty.sl az) inp)/\(M.lE p columns=true)/\((inp.length:Int)=M.takes p)/\(LD (M.cN p columns inp) fun r=>K (.tup [dI r.1,dB r.2]) [])) args hp,.plain,false⟩
abbrev C167:Ctx:=cx [(208,c208)] 42 [] 0 false
def ann167:=an [[.fixRow 3 aE,.fixBox 5,kp 42],[kp 298],[kp 2346],[kp 6442],[kp 192],[kp 133418],[kp 192],[kp 33556768],[kp 192],[kp 536873248],[kp 192],[.keep [8,38]],[kp 192],[kp 192]] []
theorem vc167 (p:aE.D) (columns:LC) (inp:LI) (K:KA):vcT C167 ay ann167 f167 [.data aE p,.data TCS columns,.brw az inp] [] (.tup [az,Ty.bool]) K =
 (cond (decide (p.1=Z1)) (K (.tup [dI p.2.2.1.1,dB true]) []) (cond (decide (p.1=Z2)) ((0<=p.2.1)/\(p.2.1<(columns.length:Int))/\K (.tup [dI (nC columns p.2.1).1,dB true]) []) (cond (decide (p.1=Z3)) ((Sm (Ty.sl az) inp)/\K (.tup [dI Z1,dB (List.all inp (fun k=>decide (k=Z1)))]) []) (cond (decide (p.1=Z4)) ((0<=Z0)/\(Z0<(inp.length:Int))/\(0<=Z1)/\(Z1<(inp.length:Int))/\K (.tup [dI Z3,dB (decide ((nI inp Z0)=(nI inp Z1)))]) []) (cond (decide (p.1=(8:Int))) (K (.tup [dI Z3,dB true]) []) ((Sm (Ty.sl az) inp)/\K (.tup [dI Z3,dB (List.all inp (fun k=>decide (k=Z3)))]) [])))))):=by kernel_rfl
theorem con167_ok:aV P 167 c167:=bf C167 func167 (kC con208_ok kN) fun args hp K h0=>by
 obtain⟨p,columns,inp,rfl,rfl,h_p,h_columns,h_inp,p0,p1,hK⟩:=g3e h0
 have h:ok (F.mm p columns inp) (fun r=>K (.tup [dI r.1,dB r.2]) []):=aC (F.uH p columns inp h_p h_columns h_inp p0 p1) (hK _ rfl)
 refine⟨rfl,ann167,ay,(.tup [az,Ty.bool]),(aG (by kernel_rfl)),?_⟩
 ·rw[vc167]
  exact(oC h (fun _ h=>h) fun _ h=>(oC h (fun _ h=>(oG h fun _ h=>(oG h fun _ h=>h))) fun _ h=>(oC h (fun _ h=>⟨h_inp,h⟩) fun _ h=>(oC h (fun _ h=>⟨(Int.natCast_nonneg 0),(oG h fun _ h=>⟨(Int.natCast_nonneg 1),(oG h fun _ h=>h)⟩)⟩) fun _ h=>(oC h (fun _ h=>h) fun _ h=>⟨h_inp,h⟩)))))
def c99:Con:=⟨[.dat TCS,.dat TPS],fun args hp K=>g2 (pD TCS) (pD TPS) (fun columns e=>(Sm TCS columns)/\(Sm TPS e)/\K (dI (M.dw columns e)) []) args hp,.plain,false⟩
abbrev C99:Ctx:=cx [(75,c75),(165,c165),(166,c166),(167,c167)] 67 [] 0 false
def ann99:=an [[kp 3],[kp 262147],[kp 16],[kp 35],[kp 3670049],[kp 7864353],[.fixRow 7 aE,kp 3670177],[kp 3670433],[kp 68723147169],[kp 16],[kp 3671841],[kp 1125899910513441],[kp 16],[kp 3670049],[kp 3670049],[.keep [5,63]],[kp 16],[kp 16]] [[kp 32]]
abbrev s99_0 (columns:LC) (e:LPt) (i0:Int) (v0:LI):St:=⟨[(0,.data TCS columns),(5,.own 5 none),(19,.data TPS e),(20,dI (e.length:Int)),(21,dI i0)],[(5,.arr .sh az v0)]⟩
abbrev LP99_0 (columns:LC) (e:LPt) (m:Nat) (st_:St) (K:KX):Prop:=True/\cU (t:=aE) (s99_0 columns e) e (F.dZ columns e) (fun v0:LI=>True) (bB (fun v0:LI=>True->K (.exit 0) (⟨[(5,.own 5 none)],[(5,.arr .sh az v0)]⟩:St)) (fun q0:Unit=>K .ret (⟨[(4,dI (-1:Int))],[]⟩:St))) m st_
def L99 (columns:LC) (e:LPt):bD:=lp1 0 (LP99_0 columns e)
theorem vc99 (columns:LC) (e:LPt) (K:KA):vcT C99 (L99 columns e) ann99 f99 [.data TCS columns,.data TPS e] [] (.dat az) K =
 ((Sm TCS columns)/\cond ((!(M.bC columns))==false) (cond (decide ((12:Int)<(e.length:Int))) (K (dI (-1:Int)) []) (∃m_,True/\cU (t:=aE) (s99_0 columns e) e (F.dZ columns e) (fun v0:LI=>True) (bB (fun v0:LI=>True->cond (!decide ((v0.length:Int)=Z1)) (K (dI (-1:Int)) []) ((0<=Z0)/\(Z0<(v0.length:Int))/\K (dI (nI v0 Z0)) [])) (fun q0:Unit=>K (dI (-1:Int)) [])) m_ (s99_0 columns e Z0 []))) (K (dI (-1:Int)) [])):=by kernel_rfl
theorem lvc99_0 (columns:LC) (e:LPt)  (i0:Int) (v0:LI) (m:Nat) (K:KX):lvT C99 (L99 columns e) ann99 f99 0 0 (s99_0 columns e i0 v0) m K =
 (cond (decide (i0<(e.length:Int))) ((0<=i0)/\(i0<(e.length:Int))/\(Sm aE (nP e i0))/\(Sm aE (nP e i0))/\(Sm TCS columns)/\cond ((!(M.lE (nP e i0) columns))==false) (cond (decide ((v0.length:Int)<(M.takes (nP e i0)))) (K .ret (⟨[(4,dI (-1:Int))],[]⟩:St)) ((0<=wrap64 ((v0.length:Int)-(M.takes (nP e i0))))/\(wrap64 ((v0.length:Int)-(M.takes (nP e i0)))<=(v0.length:Int))/\((v0.length:Int)<=(v0.length:Int))/\((v0.length:Int)=(v0.length:Int))/\(Sm aE (nP e i0))/\(Sm TCS columns)/\(Sm (Ty.sl az) (aD v0 (some (wrap64 ((v0.length:Int)-(M.takes (nP e i0))),(v0.length:Int)))))/\(M.lE (nP e i0) columns=true)/\(((aD v0 (some (wrap64 ((v0.length:Int)-(M.takes (nP e i0))),(v0.length:Int)))).length:Int)=M.takes (nP e i0))/\(LD (M.cN (nP e i0) columns (aD v0 (some (wrap64 ((v0.length:Int)-(M.takes (nP e i0))),(v0.length:Int))))) fun r1=>cond (!r1.2) (K .ret (⟨[(4,dI (-1:Int))],[]⟩:St)) ((0<=Z0)/\(Z0<=wrap64 ((v0.length:Int)-(M.takes (nP e i0))))/\(wrap64 ((v0.length:Int)-(M.takes (nP e i0)))<=(v0.length:Int))/\(wrap64 ((v0.length:Int)-(M.takes (nP e i0)))=wrap64 ((v0.length:Int)-(M.takes (nP e i0))))/\(Z0=0)/\(((wrap64 ((v0.length:Int)-(M.takes (nP e i0)))).toNat+[r1.1].length) * 8<=lim)/\(nxT (LP99_0 columns e) m K (s99_0 columns e (wrap64 (i0+Z1)) (v0.take (wrap64 ((v0.length:Int)-(M.takes (nP e i0)))).toNat++[r1.1]))))))) (K .ret (⟨[(4,dI (-1:Int))],[]⟩:St))) (K (.exit 0) (⟨[(5,.own 5 none)],[(5,.arr .sh az v0)]⟩:St))):=by kernel_rfl
theorem con99_ok:aV P 99 c99:=bf C99 func99 (kC con75_ok (kC con165_ok (kC con166_ok (kC con167_ok kN)))) fun args hp K h0=>by
 obtain⟨columns,e,rfl,rfl,h_columns,h_e,hK⟩:=g2e h0
 have h:ok (F.nE columns e) (fun r=>K (dI r) []):=aC (F.vi columns e h_columns h_e) hK
 refine⟨rfl,ann99,(L99 columns e),(.dat az),(bt (i0:=0) (by kernel_rfl) ?_),?_⟩
 ·rintro _ _ K ⟨hc0,i0,v0,rfl,hl0,rfl,hv0,h⟩
  exact cast (lvc99_0 _ _ _ _ _ _).symm (bW (t:=aE) hl0 h (fun ht0 h=>⟨hl0,⟨ht0,⟨(aJ h_e i0),⟨(aJ h_e i0),⟨h_columns,(oC h (fun b_37 h=>(oC h (fun _ h=>h) fun _ h=>(oG h fun _ h=>(oG h fun g1 h=>⟨(Int.le_refl _),⟨rfl,⟨(aJ h_e i0),⟨h_columns,(oG h fun _ h=>⟨(bnf (bgt b_37)),(oG h fun _ h=>(oL h fun _ _ h=>(oC h (fun _ h=>h) fun _ h=>⟨(Int.natCast_nonneg 0),(oG h fun _ h=>⟨g1,⟨rfl,⟨rfl,(oG h fun _ h=>(bU (t:=aE) (fun _ hm=>⟨hc0,hm⟩) _ rfl hl0 ht0 (bu h_e) trivial h))⟩⟩⟩)⟩)))⟩)⟩⟩⟩⟩)))) fun _ h=>h)⟩⟩⟩⟩⟩) fun h=>(h trivial))
 ·rw[vc99]
  exact⟨h_columns,(oC h (fun _ h=>(oC h (fun _ h=>h) fun _ h=>(bN (t:=aE) (fun m hm=>⟨trivial,hm⟩) _ rfl trivial (bp h (fun v0 h hv0=>(oC h (fun _ h=>h) fun _ h=>⟨(Int.natCast_nonneg 0),(oG h fun _ h=>h)⟩)) (fun q0 h=>h))))) fun _ h=>h)⟩
def c194:Con:=⟨[.dat ag,.dat (Ty.sl az)],fun args hp K=>g2 (pD ag) (pD (Ty.sl az)) (fun t list=>(Sm ag t)/\(Sm (Ty.sl az) list)/\K (dB (M.bX t.1 list)) []) args hp,.plain,false⟩
abbrev C194:Ctx:=cx [(132,c132),(209,c209),(222,c222)] 14 [] 0 false
def ann194:=an [[.fixRow 2 ag,kp 6],[kp 16]] []
theorem vc194 (t:ag.D) (list:LI) (K:KA):vcT C194 ay ann194 f194 [.data ag t,.data (Ty.sl az) list] [] (.dat Ty.bool) K =
 (cond ((M.inR (list.length:Int) Z1 Z4)==true) (((Sm (Ty.sl az) list)/\(Sm ag t)/\K (dB (!(List.any list (fun e=>!M.inR e 0 (t.1.length-1))))) [])\/False) (K (dB false) [])):=by kernel_rfl
theorem con194_ok:aV P 194 c194:=bf C194 func194 (kC con132_ok (kC con209_ok (kC con222_ok kN))) fun args hp K h0=>by
 obtain⟨t,list,rfl,rfl,h_t,h_list,hK⟩:=g2e h0
 have h:ok (F.qU t list) (fun r=>K (dB r) []):=aC (F.zb t list h_t h_list) hK
 refine⟨rfl,ann194,ay,(.dat Ty.bool),(aG (by kernel_rfl)),?_⟩
 ·rw[vc194]
  exact(oC h (fun _ h=>(Or.inl (⟨h_list,⟨h_t,h⟩⟩))) fun _ h=>h)
def c141:Con:=⟨[.dat TTb,.dat ah],fun args hp K=>g2 (pD TTb) (pD ah) (fun tables b=>(Sm TTb tables)/\(Sm ah b)/\K (dB (M.aO tables b)) []) args hp,.plain,false⟩
abbrev C141:Ctx:=cx [(99,c99),(132,c132),(194,c194)] 141 [] 0 false
def ann141:=an [[.fixRow 3 ah,kp 9],[kp 32777],[kp 16],[.fixRow 5 ag,kp 41],[kp 105],[kp 68719476841],[kp 206158430313],[kp 16],[kp 4503668346847337],[kp 16],[.keep [0,3,5,69]],[.keep [0,3,5,110]],[kp 16],[.keep [0,3,5,112,113,114]],[.keep [0,3,5,112,113,114,115]],[.keep [0,3,5,7,8,112,113,114]],[.keep [0,3,5,112,113,114,139]],[kp 16],[.keep [0,3,5,112,113,114]],[kp 16],[kp 16]] [[],[kp 0]]
abbrev s141_1 (tables:LTb) (b:ah.D) (i1:Int) (v1:Unit):St:=⟨[(0,.data TTb tables),(3,.adr ah b),(5,.adr ag (nT tables b.2.1)),(112,.data (Ty.sl az) b.2.2.1),(113,dI (b.2.2.1.length:Int)),(114,dI i1)],[]⟩
abbrev LP141_1 (tables:LTb) (b:ah.D) (m:Nat) (st_:St) (K:KX):Prop:=True/\cr (s141_1 tables b) Z0 (b.2.2.1.length:Int) (F.fE tables b) (fun v1:Unit=>True) (bB (fun v1:Unit=>True->K (.exit 1) (⟨[],[]⟩:St)) (fun q1:Unit=>K .ret (⟨[(4,dB false)],[]⟩:St))) m st_
def L141 (tables:LTb) (b:ah.D):bD:=lp1 1 (LP141_1 tables b)
abbrev S141_0 (tables:LTb) (b:ah.D) (K:KA):Prop:=cond (decide (b.1=Z2)) (cond ((!(M.inR b.2.2.2.1 Z0 (wrap64 ((tables.length:Int)-Z1))))==false) (cond ((decide (Z0<(b.2.2.2.2.2.2.1.length:Int)))==false) ((Sm ag (nT tables b.2.1))/\(Sm (Ty.sl az) b.2.2.1)/\cond ((!(M.bX (nT tables b.2.1).1 b.2.2.1))==false) ((0<=b.2.2.2.1)/\(b.2.2.2.1<(tables.length:Int))/\(Sm ag (nT tables b.2.2.2.1))/\(Sm (Ty.sl az) b.2.2.2.2.1)/\cond ((!(M.bX (nT tables b.2.2.2.1).1 b.2.2.2.2.1))==false) (cond (!decide ((b.2.2.2.2.1.length:Int)=(b.2.2.1.length:Int))) (K (dB false) []) (∃m_,True/\cr (s141_1 tables b) Z0 (b.2.2.1.length:Int) (F.fE tables b) (fun v1:Unit=>True) (bB (fun v1:Unit=>True->K (dB true) []) (fun q1:Unit=>K (dB false) [])) m_ (s141_1 tables b Z0 ()))) (K (dB false) [])) (K (dB false) [])) (K (dB false) [])) (K (dB false) [])) (K (dB false) [])
abbrev S141_1 (tables:LTb) (b:ah.D) (K:KA):Prop:=cond (decide (b.1=Z1)) ((Sm ag (nT tables b.2.1))/\(Sm (Ty.sl az) b.2.2.1)/\cond ((M.bX (nT tables b.2.1).1 b.2.2.1)==true) (K (dB false) []) (K (dB false) [])) (cond (decide (b.1=Z3)) ((Sm TCS (nT tables b.2.1).1)/\(Sm TPS b.2.2.2.2.2.2.1)/\cond ((decide ((M.dw (nT tables b.2.1).1 b.2.2.2.2.2.2.1)=Z3))==true) (K (dB false) []) (K (dB false) [])) (S141_0 tables b K))
theorem vc141 (tables:LTb) (b:ah.D) (K:KA):vcT C141 (L141 tables b) ann141 f141 [.data TTb tables,.data ah b] [] (.dat Ty.bool) K =
 (cond (!(M.inR b.2.1 Z0 (wrap64 ((tables.length:Int)-Z1)))) (K (dB false) []) ((0<=b.2.1)/\(b.2.1<(tables.length:Int))/\cond ((decide (b.2.2.2.1=Z0))==true) (cond ((decide ((b.2.2.2.2.1.length:Int)=Z0))==true) (cond (decide (b.1=Z1)) ((Sm ag (nT tables b.2.1))/\(Sm (Ty.sl az) b.2.2.1)/\cond ((M.bX (nT tables b.2.1).1 b.2.2.1)==true) (cond ((!b.2.2.2.2.2.1)==true) (K (dB (decide ((b.2.2.2.2.2.2.1.length:Int)=Z0))) []) (K (dB false) [])) (K (dB false) [])) (cond (decide (b.1=Z3)) ((Sm TCS (nT tables b.2.1).1)/\(Sm TPS b.2.2.2.2.2.2.1)/\cond ((decide ((M.dw (nT tables b.2.1).1 b.2.2.2.2.2.2.1)=Z3))==true) (cond ((!b.2.2.2.2.2.1)==true) (K (dB (decide ((b.2.2.1.length:Int)=Z0))) []) (K (dB false) [])) (K (dB false) [])) (S141_0 tables b K))) (S141_1 tables b K)) (S141_1 tables b K))):=by kernel_rfl
theorem lvc141_0 (tables:LTb) (b:ah.D)  (i1:Int) (v1:Unit) (m:Nat) (K:KX):lvT C141 (L141 tables b) ann141 f141 0 1 (s141_1 tables b i1 v1) m K =
 (cond (decide (i1<(b.2.2.1.length:Int))) ((0<=i1)/\(i1<(b.2.2.1.length:Int))/\(0<=(nI b.2.2.1 i1))/\((nI b.2.2.1 i1)<((nT tables b.2.1).1.length:Int))/\(0<=b.2.2.2.1)/\(b.2.2.2.1<(tables.length:Int))/\(0<=i1)/\(i1<(b.2.2.2.2.1.length:Int))/\(0<=(nI b.2.2.2.2.1 i1))/\((nI b.2.2.2.2.1 i1)<((nT tables b.2.2.2.1).1.length:Int))/\cond (!decide ((nC (nT tables b.2.1).1 (nI b.2.2.1 i1)).1=(nC (nT tables b.2.2.2.1).1 (nI b.2.2.2.2.1 i1)).1)) (K .ret (⟨[(4,dB false)],[]⟩:St)) (nxT (LP141_1 tables b) m K (s141_1 tables b (wrap64 (i1+Z1)) ()))) (K (.exit 1) (⟨[],[]⟩:St))):=by kernel_rfl
theorem con141_ok:aV P 141 c141:=bf C141 func141 (kC con99_ok (kC con132_ok (kC con194_ok kN))) fun args hp K h0=>by
 obtain⟨tables,b,rfl,rfl,h_tables,h_b,hK⟩:=g2e h0
 have h:ok (F.qm tables b) (fun r=>K (dB r) []):=aC (F.yE tables b h_tables h_b) hK
 refine⟨rfl,ann141,(L141 tables b),(.dat Ty.bool),(bt (i0:=1) (by kernel_rfl) ?_),?_⟩
 ·rintro _ _ K ⟨hc1,i1,v1,rfl,hl1,rfl,hv1,h⟩
  exact cast (lvc141_0 _ _ _ _ _ _).symm (bJ h (fun ht1 h=>⟨hl1,⟨ht1,(oG h fun _ h=>(oG h fun _ h=>(oG h fun _ h=>(oG h fun _ h=>⟨hl1,(oG h fun _ h=>(oG h fun _ h=>(oG h fun _ h=>(oC h (fun _ h=>h) fun _ h=>(aS (fun _ hm=>⟨hc1,hm⟩) _ rfl hl1 gy ht1 (bu h_b.2.2.1) trivial h)))))⟩))))⟩⟩) fun h=>(h trivial))
 ·rw[vc141]
  exact(oC h (fun _ h=>h) fun b_1 h=>⟨(jO (bnf b_1)),⟨(nD (bnf b_1)),(oC h (fun _ h=>(oC h (fun _ h=>(oC h (fun _ h=>⟨(aJ h_tables b.2.1),⟨h_b.2.2.1,(oC h (fun _ h=>(oC h (fun _ h=>h) fun _ h=>h)) fun _ h=>h)⟩⟩) fun _ h=>(oC h (fun _ h=>⟨(aJ h_tables b.2.1).1,⟨h_b.2.2.2.2.2.2.1,(oC h (fun _ h=>(oC h (fun _ h=>h) fun _ h=>h)) fun _ h=>h)⟩⟩) fun _ h=>(oC h (fun _ h=>(oC h (fun b_11 h=>(oC h (fun _ h=>⟨(aJ h_tables b.2.1),⟨h_b.2.2.1,(oC h (fun _ h=>⟨(jO (bnf (bgt b_11))),⟨(nD (bnf (bgt b_11))),⟨(aJ h_tables b.2.2.2.1),⟨h_b.2.2.2.2.1,(oC h (fun _ h=>(oC h (fun _ h=>h) fun _ h=>(bq (fun m hm=>⟨trivial,hm⟩) Z0 _ rfl (Int.natCast_nonneg 0) trivial (bp h (fun v1 h hv1=>h) (fun q1 h=>h))))) fun _ h=>h)⟩⟩⟩⟩) fun _ h=>h)⟩⟩) fun _ h=>h)) fun _ h=>h)) fun _ h=>h)))) fun _ h=>(oC h (fun _ h=>⟨(aJ h_tables b.2.1),⟨h_b.2.2.1,(oC h (fun _ h=>h) fun _ h=>h)⟩⟩) fun _ h=>(oC h (fun _ h=>⟨(aJ h_tables b.2.1).1,⟨h_b.2.2.2.2.2.2.1,(oC h (fun _ h=>h) fun _ h=>h)⟩⟩) fun _ h=>(oC h (fun _ h=>(oC h (fun b_51 h=>(oC h (fun _ h=>⟨(aJ h_tables b.2.1),⟨h_b.2.2.1,(oC h (fun _ h=>⟨(jO (bnf (bgt b_51))),⟨(nD (bnf (bgt b_51))),⟨(aJ h_tables b.2.2.2.1),⟨h_b.2.2.2.2.1,(oC h (fun _ h=>(oC h (fun _ h=>h) fun _ h=>(bq (fun m hm=>⟨trivial,hm⟩) Z0 _ rfl (Int.natCast_nonneg 0) trivial (bp h (fun v1 h hv1=>h) (fun q1 h=>h))))) fun _ h=>h)⟩⟩⟩⟩) fun _ h=>h)⟩⟩) fun _ h=>h)) fun _ h=>h)) fun _ h=>h))))) fun _ h=>(oC h (fun _ h=>⟨(aJ h_tables b.2.1),⟨h_b.2.2.1,(oC h (fun _ h=>h) fun _ h=>h)⟩⟩) fun _ h=>(oC h (fun _ h=>⟨(aJ h_tables b.2.1).1,⟨h_b.2.2.2.2.2.2.1,(oC h (fun _ h=>h) fun _ h=>h)⟩⟩) fun _ h=>(oC h (fun _ h=>(oC h (fun b_61 h=>(oC h (fun _ h=>⟨(aJ h_tables b.2.1),⟨h_b.2.2.1,(oC h (fun _ h=>⟨(jO (bnf (bgt b_61))),⟨(nD (bnf (bgt b_61))),⟨(aJ h_tables b.2.2.2.1),⟨h_b.2.2.2.2.1,(oC h (fun _ h=>(oC h (fun _ h=>h) fun _ h=>(bq (fun m hm=>⟨trivial,hm⟩) Z0 _ rfl (Int.natCast_nonneg 0) trivial (bp h (fun v1 h hv1=>h) (fun q1 h=>h))))) fun _ h=>h)⟩⟩⟩⟩) fun _ h=>h)⟩⟩) fun _ h=>h)) fun _ h=>h)) fun _ h=>h))))⟩⟩)
def c140:Con:=⟨[.dat ah,.any],fun args hp K=>g2 (pD ah) (pR TTb) (fun b tables=>(Sm ah b)/\(Sm TTb tables)/\K (dB (!M.aO tables b)) []) args hp,.plain,false⟩
abbrev C140:Ctx:=cx [(141,c141)] 8 [] 0 false
def ann140:=an [[.fixRow 2 ah,kp 6],[kp 8]] []
theorem vc140 (b:ah.D) (tables:LTb) (K:KA):vcT C140 ay ann140 f140 [.data ah b,.ref (.data TTb tables)] [] (.dat Ty.bool) K =
 ((Sm TTb tables)/\(Sm ah b)/\K (dB (!(M.aO tables b))) []):=by kernel_rfl
theorem con140_ok:aV P 140 c140:=bf C140 func140 (kC con141_ok kN) fun args hp K h0=>by
 obtain⟨b,tables,rfl,rfl,h_b,h_tables,hK⟩:=g2e h0
 have h:ok (F.qZ b tables) (fun r=>K (dB r) []):=aC (F.uD b tables h_b h_tables) hK
 refine⟨rfl,ann140,ay,(.dat Ty.bool),(aG (by kernel_rfl)),?_⟩
 ·rw[vc140]
  exact⟨h_tables,⟨h_b,h⟩⟩
def c84:Con:=⟨[.dat (Ty.sl ah),.any],fun args hp K=>(args2 (fun a0 a1=>eP (Ty.sl ah) a0 fun xs=>gK 119 a1 (nU (fun b1_0=>lC TTb b1_0 fun k0=>(Sm (Ty.sl ah) xs)/\(Sm TTb k0)/\(∀e∈xs,(M.aH k0&&M.aO k0 e)=true)/\K (dI (M.idx (t:=ah) (fun e=>decide (0<=M.broken k0 e)) xs)) []))) args hp)\/(args2 (fun a0 a1=>eP (Ty.sl ah) a0 fun xs=>gK 140 a1 (nU (fun b1_0=>lC TTb b1_0 fun k0=>(Sm (Ty.sl ah) xs)/\(Sm TTb k0)/\K (dI (M.idx (t:=ah) (fun e=>!M.aO k0 e) xs)) []))) args hp),.bor,false⟩
abbrev C84:Ctx:=cx [(119,c119),(140,c140)] 19 [] 0 false
def ann84_v0:=an [[kp 3],[kp 387],[kp 899],[kp 419],[kp 65955],[kp 16],[kp 387],[kp 16]] [[kp 0]]
abbrev s84_0_v0 (xs:(List ah.D)) (k0:LTb) (i0:Int) (v0:Unit):St:=⟨[(0,.data (Ty.sl ah) xs),(1,.fn 119 [.ref (.data TTb k0)]),(7,dI (xs.length:Int)),(8,dI i0)],[]⟩
abbrev LP84_0_v0 (xs:(List ah.D)) (k0:LTb) (m:Nat) (st_:St) (K:KX):Prop:=True/\cr (s84_0_v0 xs k0) Z0 (xs.length:Int) (F.dH xs k0) (fun v0:Unit=>True) (bB (fun v0:Unit=>True->K (.exit 0) (⟨[],[]⟩:St)) (fun q0:Int=>K .ret (⟨[(4,dI q0)],[]⟩:St))) m st_
def L84_v0 (xs:(List ah.D)) (k0:LTb):bD:=lp1 0 (LP84_0_v0 xs k0)
theorem vc84_v0 (xs:(List ah.D)) (k0:LTb) (K:KA):vcT C84 (L84_v0 xs k0) ann84_v0 f84 [.data (Ty.sl ah) xs,.fn 119 [.ref (.data TTb k0)]] [] (.dat az) K =
 (∃m_,True/\cr (s84_0_v0 xs k0) Z0 (xs.length:Int) (F.dH xs k0) (fun v0:Unit=>True) (bB (fun v0:Unit=>True->K (dI (-1:Int)) []) (fun q0:Int=>K (dI q0) [])) m_ (s84_0_v0 xs k0 Z0 ())):=by kernel_rfl
theorem lvc84_0_v0 (xs:(List ah.D)) (k0:LTb)  (i0:Int) (v0:Unit) (m:Nat) (K:KX):lvT C84 (L84_v0 xs k0) ann84_v0 f84 0 0 (s84_0_v0 xs k0 i0 v0) m K =
 (cond (decide (i0<(xs.length:Int))) ((0<=i0)/\(i0<(xs.length:Int))/\(Sm ah (nth (t:=ah) xs i0))/\(Sm TTb k0)/\((M.aH k0&&M.aO k0 (nth (t:=ah) xs i0))=true)/\cond (decide (0<=M.broken k0 (nth (t:=ah) xs i0))) (K .ret (⟨[(4,dI i0)],[]⟩:St)) (nxT (LP84_0_v0 xs k0) m K (s84_0_v0 xs k0 (wrap64 (i0+Z1)) ()))) (K (.exit 0) (⟨[],[]⟩:St))):=by kernel_rfl
def ann84_v1:=an [[kp 3],[kp 387],[kp 899],[kp 419],[kp 65955],[kp 16],[kp 387],[kp 16]] [[kp 0]]
abbrev s84_0_v1 (xs:(List ah.D)) (k0:LTb) (i0:Int) (v0:Unit):St:=⟨[(0,.data (Ty.sl ah) xs),(1,.fn 140 [.ref (.data TTb k0)]),(7,dI (xs.length:Int)),(8,dI i0)],[]⟩
abbrev LP84_0_v1 (xs:(List ah.D)) (k0:LTb) (m:Nat) (st_:St) (K:KX):Prop:=True/\cr (s84_0_v1 xs k0) Z0 (xs.length:Int) (F.cS xs k0) (fun v0:Unit=>True) (bB (fun v0:Unit=>True->K (.exit 0) (⟨[],[]⟩:St)) (fun q0:Int=>K .ret (⟨[(4,dI q0)],[]⟩:St))) m st_
def L84_v1 (xs:(List ah.D)) (k0:LTb):bD:=lp1 0 (LP84_0_v1 xs k0)
theorem vc84_v1 (xs:(List ah.D)) (k0:LTb) (K:KA):vcT C84 (L84_v1 xs k0) ann84_v1 f84 [.data (Ty.sl ah) xs,.fn 140 [.ref (.data TTb k0)]] [] (.dat az) K =
 (∃m_,True/\cr (s84_0_v1 xs k0) Z0 (xs.length:Int) (F.cS xs k0) (fun v0:Unit=>True) (bB (fun v0:Unit=>True->K (dI (-1:Int)) []) (fun q0:Int=>K (dI q0) [])) m_ (s84_0_v1 xs k0 Z0 ())):=by kernel_rfl
theorem lvc84_0_v1 (xs:(List ah.D)) (k0:LTb)  (i0:Int) (v0:Unit) (m:Nat) (K:KX):lvT C84 (L84_v1 xs k0) ann84_v1 f84 0 0 (s84_0_v1 xs k0 i0 v0) m K =
 (cond (decide (i0<(xs.length:Int))) ((0<=i0)/\(i0<(xs.length:Int))/\(Sm ah (nth (t:=ah) xs i0))/\(Sm TTb k0)/\cond (!M.aO k0 (nth (t:=ah) xs i0)) (K .ret (⟨[(4,dI i0)],[]⟩:St)) (nxT (LP84_0_v1 xs k0) m K (s84_0_v1 xs k0 (wrap64 (i0+Z1)) ()))) (K (.exit 0) (⟨[],[]⟩:St))):=by kernel_rfl
theorem con84_ok:aV P 84 c84:=bf C84 func84 (kC con119_ok (kC con140_ok kN)) fun args hp K h0=>by
 rcases h0 with h0 | h0
 ·obtain⟨a0,a1,rfl,rfl,h1⟩:=br h0
  obtain⟨xs,rfl,h2⟩:=bg h1
  obtain⟨cs1,rfl,h3⟩:=bP h2
  obtain⟨b1_0,rfl,h4⟩:=ew h3
  obtain⟨k0,rfl,h5⟩:=cY h4
  obtain⟨h_xs,h_k0,p0,hK⟩:=h5
  have h:ok (F.jE xs k0) (fun r=>K (dI r) []):=aC (F.nj xs k0 h_xs h_k0 p0) hK
  refine⟨rfl,ann84_v0,(L84_v0 xs k0),(.dat az),(bt (i0:=0) (by kernel_rfl) ?_),?_⟩
  ·rintro _ _ K ⟨hc0,i0,v0,rfl,hl0,rfl,hv0,h⟩
   exact cast (lvc84_0_v0 _ _ _ _ _ _).symm (bJ h (fun ht0 h=>⟨hl0,⟨ht0,⟨(aJ h_xs i0),⟨h_k0,(oG h fun _ h=>(oC h (fun _ h=>h) fun _ h=>(aS (fun _ hm=>⟨hc0,hm⟩) _ rfl hl0 gy ht0 (bu h_xs) trivial h)))⟩⟩⟩⟩) fun h=>(h trivial))
  ·rw[vc84_v0]
   exact(bq (fun m hm=>⟨trivial,hm⟩) Z0 _ rfl (Int.natCast_nonneg 0) trivial (bp h (fun v0 h hv0=>h) (fun q0 h=>h)))
 ·obtain⟨a0,a1,rfl,rfl,h1⟩:=br h0
  obtain⟨xs,rfl,h2⟩:=bg h1
  obtain⟨cs1,rfl,h3⟩:=bP h2
  obtain⟨b1_0,rfl,h4⟩:=ew h3
  obtain⟨k0,rfl,h5⟩:=cY h4
  obtain⟨h_xs,h_k0,hK⟩:=h5
  have h:ok (F.iB xs k0) (fun r=>K (dI r) []):=aC (F.lM xs k0 h_xs h_k0) hK
  refine⟨rfl,ann84_v1,(L84_v1 xs k0),(.dat az),(bt (i0:=0) (by kernel_rfl) ?_),?_⟩
  ·rintro _ _ K ⟨hc0,i0,v0,rfl,hl0,rfl,hv0,h⟩
   exact cast (lvc84_0_v1 _ _ _ _ _ _).symm (bJ h (fun ht0 h=>⟨hl0,⟨ht0,⟨(aJ h_xs i0),⟨h_k0,(oC h (fun _ h=>h) fun _ h=>(aS (fun _ hm=>⟨hc0,hm⟩) _ rfl hl0 gy ht0 (bu h_xs) trivial h))⟩⟩⟩⟩) fun h=>(h trivial))
  ·rw[vc84_v1]
   exact(bq (fun m hm=>⟨trivial,hm⟩) Z0 _ rfl (Int.natCast_nonneg 0) trivial (bp h (fun v0 h hv0=>h) (fun q0 h=>h)))
def c118:Con:=⟨[.dat (Ty.sl ah),.any],fun args hp K=>(args2 (fun a0 a1=>eP (Ty.sl ah) a0 fun xs=>gK 119 a1 (nU (fun b1_0=>lC TTb b1_0 fun k0=>(Sm (Ty.sl ah) xs)/\(Sm TTb k0)/\(∀e∈xs,(M.aH k0&&M.aO k0 e)=true)/\K (dB (List.any xs (fun e=>decide (0<=M.broken k0 e)))) []))) args hp)\/(args2 (fun a0 a1=>eP (Ty.sl ah) a0 fun xs=>gK 140 a1 (nU (fun b1_0=>lC TTb b1_0 fun k0=>(Sm (Ty.sl ah) xs)/\(Sm TTb k0)/\K (dB (List.any xs (fun e=>!M.aO k0 e))) []))) args hp),.bor,false⟩
abbrev C118:Ctx:=cx [(84,c84),(119,c119),(140,c140)] 9 [] 0 false
def ann118_v0:=an [[kp 3],[kp 16]] []
theorem vc118_v0 (xs:(List ah.D)) (k0:LTb) (K:KA):vcT C118 ay ann118_v0 f118 [.data (Ty.sl ah) xs,.fn 119 [.ref (.data TTb k0)]] [] (.dat Ty.bool) K =
 (((Sm (Ty.sl ah) xs)/\(Sm TTb k0)/\(∀e∈xs,(M.aH k0&&M.aO k0 e)=true)/\K (dB (decide (Z0<=(M.idx (t:=ah) (fun e=>decide (0<=M.broken k0 e)) xs)))) [])\/False):=by kernel_rfl
def ann118_v1:=an [[kp 3],[kp 16]] []
theorem vc118_v1 (xs:(List ah.D)) (k0:LTb) (K:KA):vcT C118 ay ann118_v1 f118 [.data (Ty.sl ah) xs,.fn 140 [.ref (.data TTb k0)]] [] (.dat Ty.bool) K =
 (False\/((Sm (Ty.sl ah) xs)/\(Sm TTb k0)/\K (dB (decide (Z0<=(M.idx (t:=ah) (fun e=>!M.aO k0 e) xs)))) [])):=by kernel_rfl
theorem con118_ok:aV P 118 c118:=bf C118 func118 (kC con84_ok (kC con119_ok (kC con140_ok kN))) fun args hp K h0=>by
 rcases h0 with h0 | h0
 ·obtain⟨a0,a1,rfl,rfl,h1⟩:=br h0
  obtain⟨xs,rfl,h2⟩:=bg h1
  obtain⟨cs1,rfl,h3⟩:=bP h2
  obtain⟨b1_0,rfl,h4⟩:=ew h3
  obtain⟨k0,rfl,h5⟩:=cY h4
  obtain⟨h_xs,h_k0,p0,hK⟩:=h5
  have h:ok (F.fe xs k0) (fun r=>K (dB r) []):=aC (F.lH xs k0 h_xs h_k0 p0) hK
  refine⟨rfl,ann118_v0,ay,(.dat Ty.bool),(aG (by kernel_rfl)),?_⟩
  ·rw[vc118_v0]
   exact(Or.inl (⟨h_xs,⟨h_k0,⟨p0,h⟩⟩⟩))
 ·obtain⟨a0,a1,rfl,rfl,h1⟩:=br h0
  obtain⟨xs,rfl,h2⟩:=bg h1
  obtain⟨cs1,rfl,h3⟩:=bP h2
  obtain⟨b1_0,rfl,h4⟩:=ew h3
  obtain⟨k0,rfl,h5⟩:=cY h4
  obtain⟨h_xs,h_k0,hK⟩:=h5
  have h:ok (F.dX xs k0) (fun r=>K (dB r) []):=aC (F.jT xs k0 h_xs h_k0) hK
  refine⟨rfl,ann118_v1,ay,(.dat Ty.bool),(aG (by kernel_rfl)),?_⟩
  ·rw[vc118_v1]
   exact(Or.inr (⟨h_xs,⟨h_k0,h⟩⟩))
def c55:Con:=⟨[.dat TTb,.dat (Ty.sl ah)],fun args hp K=>g2 (pD TTb) (pD (Ty.sl ah)) (fun tables bonds=>(Sm TTb tables)/\(Sm (Ty.sl ah) bonds)/\(∀e∈bonds,(M.aH tables&&M.aO tables e)=true)/\K (dB (!List.any bonds (fun e=>decide (0<=M.broken tables e)))) []) args hp,.bor,false⟩
abbrev C55:Ctx:=cx [(118,c118),(119,c119)] 9 [] 0 false
def ann55:=an [[.fixBox 2,kp 6],[kp 16]] []
theorem vc55 (tables:LTb) (bonds:(List ah.D)) (K:KA):vcT C55 ay ann55 f55 [.data TTb tables,.data (Ty.sl ah) bonds] [] (.dat Ty.bool) K =
 (((Sm (Ty.sl ah) bonds)/\(Sm TTb tables)/\(∀e∈bonds,(M.aH tables&&M.aO tables e)=true)/\K (dB (!(List.any bonds (fun e=>decide (0<=M.broken tables e))))) [])\/False):=by kernel_rfl
theorem con55_ok:aV P 55 c55:=bf C55 func55 (kC con118_ok (kC con119_ok kN)) fun args hp K h0=>by
 obtain⟨tables,bonds,rfl,rfl,h_tables,h_bonds,p0,hK⟩:=g2e h0
 have h:ok (F.At tables bonds) (fun r=>K (dB r) []):=aC (F.BE tables bonds h_tables h_bonds p0) hK
 refine⟨rfl,ann55,ay,(.dat Ty.bool),(aG (by kernel_rfl)),?_⟩
 ·rw[vc55]
  exact(Or.inl (⟨h_bonds,⟨h_tables,⟨p0,h⟩⟩⟩))
def c77:Con:=⟨[.dat TTb,.dat (Ty.sl ah)],fun args hp K=>g2 (pD TTb) (pD (Ty.sl ah)) (fun tables bonds=>(Sm TTb tables)/\(Sm (Ty.sl ah) bonds)/\K (dB (M.aH tables&&List.all bonds (M.aO tables))) []) args hp,.plain,false⟩
abbrev C77:Ctx:=cx [(28,c28),(118,c118),(140,c140)] 13 [] 0 false
def ann77:=an [[.fixBox 2,kp 6],[kp 16]] []
theorem vc77 (tables:LTb) (bonds:(List ah.D)) (K:KA):vcT C77 ay ann77 f77 [.data TTb tables,.data (Ty.sl ah) bonds] [] (.dat Ty.bool) K =
 ((Sm TTb tables)/\cond ((M.aH tables)==true) (False\/((Sm (Ty.sl ah) bonds)/\(Sm TTb tables)/\K (dB (!(List.any bonds (fun e=>!M.aO tables e)))) [])) (K (dB false) [])):=by kernel_rfl
theorem con77_ok:aV P 77 c77:=bf C77 func77 (kC con28_ok (kC con118_ok (kC con140_ok kN))) fun args hp K h0=>by
 obtain⟨tables,bonds,rfl,rfl,h_tables,h_bonds,hK⟩:=g2e h0
 have h:ok (F.pe tables bonds) (fun r=>K (dB r) []):=aC (F.wX tables bonds h_tables h_bonds) hK
 refine⟨rfl,ann77,ay,(.dat Ty.bool),(aG (by kernel_rfl)),?_⟩
 ·rw[vc77]
  exact⟨h_tables,(oC h (fun _ h=>(Or.inr (⟨h_bonds,⟨h_tables,h⟩⟩))) fun _ h=>h)⟩
def c29:Con:=⟨[.dat TTb,.dat (Ty.sl ah)],fun args hp K=>g2 (pD TTb) (pD (Ty.sl ah)) (fun tables bonds=>(Sm TTb tables)/\(Sm (Ty.sl ah) bonds)/\K (dB (M.bQ tables bonds)) []) args hp,.bor,false⟩
abbrev C29:Ctx:=cx [(55,c55),(77,c77)] 23 [] 0 false
def ann29:=an [[kp 3],[kp 16]] []
theorem vc29 (tables:LTb) (bonds:(List ah.D)) (K:KA):vcT C29 ay ann29 f29 [.data TTb tables,.data (Ty.sl ah) bonds] [] (.dat Ty.bool) K =
 (cond ((decide ((bonds.length:Int)=Z0))==false) (cond ((decide ((bonds.length:Int)<=Z4))==true) ((Sm TTb tables)/\(Sm (Ty.sl ah) bonds)/\cond ((M.aH tables&&List.all bonds (M.aO tables))==true) ((Sm TTb tables)/\(Sm (Ty.sl ah) bonds)/\(∀e∈bonds,(M.aH tables&&M.aO tables e)=true)/\K (dB (!List.any bonds (fun e=>decide (0<=M.broken tables e)))) []) (K (dB false) [])) (K (dB false) [])) (K (dB true) [])):=by kernel_rfl
theorem con29_ok:aV P 29 c29:=bf C29 func29 (kC con55_ok (kC con77_ok kN)) fun args hp K h0=>by
 obtain⟨tables,bonds,rfl,rfl,h_tables,h_bonds,hK⟩:=g2e h0
 have h:ok (F.mw tables bonds) (fun r=>K (dB r) []):=aC (F.tS tables bonds h_tables h_bonds) hK
 refine⟨rfl,ann29,ay,(.dat Ty.bool),(aG (by kernel_rfl)),?_⟩
 ·rw[vc29]
  exact(oC h (fun _ h=>(oC h (fun _ h=>⟨h_tables,⟨h_bonds,(oC h (fun _ h=>⟨h_tables,⟨h_bonds,(oG h fun _ h=>h)⟩⟩) fun _ h=>h)⟩⟩) fun _ h=>h)) fun _ h=>h)
abbrev C65:Ctx:=cx [] 11 [] 200000 false
def T65:Inl:=xW C65 (fun _=>[]) (eG f65) f65.results.toList
theorem inlOk65:xU P 65 T65:=CS C65 func65 kN
def c143:Con:=⟨[.dat az,.dat az,.dat az],fun args hp K=>g3 (pD az) (pD az) (pD az) (fun n low high=>K (dB (M.inR n low high)) []) args hp,.plain,false⟩
abbrev C143:Ctx:=cx [] 15 [] 0 false
def ann143:=an [[kp 7],[kp 64]] []
theorem vc143 (n:Int) (low:Int) (high:Int) (K:KA):vcT C143 ay ann143 f143 [dI n,dI low,dI high] [] (.dat Ty.bool) K =
 (cond ((decide (low<=n))==true) (K (dB (decide (n<=high))) []) (K (dB false) [])):=by kernel_rfl
theorem con143_ok:aV P 143 c143:=bf C143 func143 kN fun args hp K h0=>by
 obtain⟨n,low,high,rfl,rfl,hK⟩:=g3e h0
 have h:ok (F.vO n low high) (fun r=>K (dB r) []):=aC (F.By n low high) hK
 refine⟨rfl,ann143,ay,(.dat Ty.bool),(aG (by kernel_rfl)),?_⟩
 ·rw[vc143]
  exact(oC h (fun _ h=>h) fun _ h=>h)
def c178:Con:=⟨[.dat TCS],fun args hp K=>g1 (pD TCS) (fun columns=>(Sm TCS columns)/\K (dB (M.bC columns)) []) args hp,.plain,false⟩
abbrev C178:Ctx:=cx [(143,c143)] 20 [] 0 false
def ann178:=an [[kp 1],[kp 9],[kp 137],[kp 9],[kp 65545],[kp 4],[kp 4]] [[kp 1]]
abbrev s178_0 (columns:LC) (i0:Int) (v0:Unit):St:=⟨[(0,.data TCS columns),(3,dI i0)],[]⟩
abbrev LP178_0 (columns:LC) (m:Nat) (st_:St) (K:KX):Prop:=True/\cU (t:=ax) (s178_0 columns) columns (F.gw columns) (fun v0:Unit=>True) (bB (fun v0:Unit=>True->K (.exit 0) (⟨[(0,.data TCS columns)],[]⟩:St)) (fun q0:Unit=>K .ret (⟨[(2,dB false)],[]⟩:St))) m st_
def L178 (columns:LC):bD:=lp1 0 (LP178_0 columns)
theorem vc178 (columns:LC) (K:KA):vcT C178 (L178 columns) ann178 f178 [.data TCS columns] [] (.dat Ty.bool) K =
 (∃m_,True/\cU (t:=ax) (s178_0 columns) columns (F.gw columns) (fun v0:Unit=>True) (bB (fun v0:Unit=>True->K (dB (decide ((columns.length:Int)<=Z4))) []) (fun q0:Unit=>K (dB false) [])) m_ (s178_0 columns Z0 ())):=by kernel_rfl
theorem lvc178_0 (columns:LC)  (i0:Int) (v0:Unit) (m:Nat) (K:KX):lvT C178 (L178 columns) ann178 f178 0 0 (s178_0 columns i0 v0) m K =
 (cond (decide (i0<(columns.length:Int))) ((0<=i0)/\(i0<(columns.length:Int))/\cond (!(M.inR (nC columns i0).1 Z1 Z3)) (K .ret (⟨[(2,dB false)],[]⟩:St)) (nxT (LP178_0 columns) m K (s178_0 columns (wrap64 (i0+Z1)) ()))) (K (.exit 0) (⟨[(0,.data TCS columns)],[]⟩:St))):=by kernel_rfl
theorem con178_ok:aV P 178 c178:=bf C178 func178 (kC con143_ok kN) fun args hp K h0=>by
 obtain⟨columns,rfl,rfl,h_columns,hK⟩:=g1e h0
 have h:ok (F.mI columns) (fun r=>K (dB r) []):=aC (F.tO columns h_columns) hK
 refine⟨rfl,ann178,(L178 columns),(.dat Ty.bool),(bt (i0:=0) (by kernel_rfl) ?_),?_⟩
 ·rintro _ _ K ⟨hc0,i0,v0,rfl,hl0,rfl,hv0,h⟩
  exact cast (lvc178_0 _ _ _ _ _).symm (bW (t:=ax) hl0 h (fun ht0 h=>⟨hl0,⟨ht0,(oC h (fun _ h=>h) fun _ h=>(bU (t:=ax) (fun _ hm=>⟨hc0,hm⟩) _ rfl hl0 ht0 (bu h_columns) trivial h))⟩⟩) fun h=>(h trivial))
 ·rw[vc178]
  exact(bN (t:=ax) (fun m hm=>⟨trivial,hm⟩) _ rfl trivial (bp h (fun v0 h hv0=>h) (fun q0 h=>h)))
def c249:Con:=⟨[.dat Ty.str],fun args hp K=>g1 (pD Ty.str) (fun s=>(Sm Ty.str s)/\K (dB (M.text s)) []) args hp,.plain,false⟩
abbrev C249:Ctx:=cx [] 23 [] 0 false
def ann249:=an [[kp 1],[kp 9],[kp 137],[kp 9],[kp 524297],[kp 4],[kp 4]] [[kp 1]]
abbrev s249_0 (s:ByteArray) (i0:Int) (v0:Unit):St:=⟨[(0,.data Ty.str s),(3,dI i0)],[]⟩
abbrev LP249_0 (s:ByteArray) (m:Nat) (st_:St) (K:KX):Prop:=True/\cr (s249_0 s) Z0 (s.size:Int) (F.jg s) (fun v0:Unit=>True) (bB (fun v0:Unit=>True->K (.exit 0) (⟨[(0,.data Ty.str s)],[]⟩:St)) (fun q0:Unit=>K .ret (⟨[(2,dB false)],[]⟩:St))) m st_
def L249 (s:ByteArray):bD:=lp1 0 (LP249_0 s)
theorem vc249 (s:ByteArray) (K:KA):vcT C249 (L249 s) ann249 f249 [.data Ty.str s] [] (.dat Ty.bool) K =
 (∃m_,True/\cr (s249_0 s) Z0 (s.size:Int) (F.jg s) (fun v0:Unit=>True) (bB (fun v0:Unit=>True->K (dB (decide ((s.size:Int)<=Z6))) []) (fun q0:Unit=>K (dB false) [])) m_ (s249_0 s Z0 ())):=by kernel_rfl
theorem lvc249_0 (s:ByteArray)  (i0:Int) (v0:Unit) (m:Nat) (K:KX):lvT C249 (L249 s) ann249 f249 0 0 (s249_0 s i0 v0) m K =
 (cond (decide (i0<(s.size:Int))) ((0<=i0)/\(i0<(s.size:Int))/\cond ((decide (((s.get! i0.toNat).toNat:Int)<(97:Int)))==false) ((0<=i0)/\(i0<(s.size:Int))/\cond (decide ((122:Int)<((s.get! i0.toNat).toNat:Int))) (K .ret (⟨[(2,dB false)],[]⟩:St)) (nxT (LP249_0 s) m K (s249_0 s (wrap64 (i0+Z1)) ()))) (K .ret (⟨[(2,dB false)],[]⟩:St))) (K (.exit 0) (⟨[(0,.data Ty.str s)],[]⟩:St))):=by kernel_rfl
theorem con249_ok:aV P 249 c249:=bf C249 func249 kN fun args hp K h0=>by
 obtain⟨s,rfl,rfl,h_s,hK⟩:=g1e h0
 have h:ok (F.qn s) (fun r=>K (dB r) []):=aC (F.yo s h_s) hK
 refine⟨rfl,ann249,(L249 s),(.dat Ty.bool),(bt (i0:=0) (by kernel_rfl) ?_),?_⟩
 ·rintro _ _ K ⟨hc0,i0,v0,rfl,hl0,rfl,hv0,h⟩
  exact cast (lvc249_0 _ _ _ _ _).symm (bJ h (fun ht0 h=>⟨hl0,⟨ht0,(oC h (fun _ h=>⟨hl0,⟨ht0,(oC h (fun _ h=>h) fun _ h=>(aS (fun _ hm=>⟨hc0,hm⟩) _ rfl hl0 gy ht0 (HB h_s) trivial h))⟩⟩) fun _ h=>h)⟩⟩) fun h=>(h trivial))
 ·rw[vc249]
  exact(bq (fun m hm=>⟨trivial,hm⟩) Z0 _ rfl (Int.natCast_nonneg 0) trivial (bp h (fun v0 h hv0=>h) (fun q0 h=>h)))
def c223:Con:=⟨[.dat aa],fun args hp K=>g1 (pD aa) (fun v=>(Sm aa v)/\K (dB (M.aN v)) []) args hp,.plain,false⟩
abbrev C223:Ctx:=cx [(143,c143),(249,c249)] 45 [] 0 false
def ann223:=an [[.fixRow 1 aa,kp 2],[kp 18],[kp 50],[kp 4],[kp 32786],[kp 4],[kp 33554450],[kp 4],[.keep [1,35]],[kp 4],[kp 4]] []
theorem vc223 (v:aa.D) (K:KA):vcT C223 ay ann223 f223 [.data aa v] [] (.dat Ty.bool) K =
 (cond (decide (v.1=Z0)) (cond ((decide (v.2.1=Z0))==true) (K (dB (decide (v.2.2.1=(⟨#[]⟩:ByteArray)))) []) (K (dB false) [])) (cond (decide (v.1=Z1)) (cond ((M.inR v.2.1 (-9999:Int) (9999:Int))==true) (K (dB (decide (v.2.2.1=(⟨#[]⟩:ByteArray)))) []) (K (dB false) [])) (cond (decide (v.1=Z2)) (cond ((decide (v.2.1=Z0))==true) ((Sm Ty.str v.2.2.1)/\K (dB (M.text v.2.2.1)) []) (K (dB false) [])) (cond (decide (v.1=Z3)) (cond ((M.inR v.2.1 Z0 Z1)==true) (K (dB (decide (v.2.2.1=(⟨#[]⟩:ByteArray)))) []) (K (dB false) [])) (K (dB false) []))))):=by kernel_rfl
theorem con223_ok:aV P 223 c223:=bf C223 func223 (kC con143_ok (kC con249_ok kN)) fun args hp K h0=>by
 obtain⟨v,rfl,rfl,h_v,hK⟩:=g1e h0
 have h:ok (F.oK v) (fun r=>K (dB r) []):=aC (F.xw v h_v) hK
 refine⟨rfl,ann223,ay,(.dat Ty.bool),(aG (by kernel_rfl)),?_⟩
 ·rw[vc223]
  exact(oC h (fun _ h=>(oC h (fun _ h=>h) fun _ h=>h)) fun _ h=>(oC h (fun _ h=>(oC h (fun _ h=>h) fun _ h=>h)) fun _ h=>(oC h (fun _ h=>(oC h (fun _ h=>⟨h_v.2.2.1,h⟩) fun _ h=>h)) fun _ h=>(oC h (fun _ h=>(oC h (fun _ h=>h) fun _ h=>h)) fun _ h=>h))))
def c195:Con:=⟨[.dat TVS],fun args hp K=>g1 (pD TVS) (fun row=>(Sm TVS row)/\K (dB (M.ot row)) []) args hp,.plain,false⟩
abbrev C195:Ctx:=cx [(223,c223)] 19 [] 0 false
def ann195:=an [[kp 1],[kp 9],[kp 137],[kp 9],[kp 32777],[kp 4],[kp 4]] [[kp 1]]
abbrev s195_0 (row:LV) (i0:Int) (v0:Unit):St:=⟨[(0,.data TVS row),(3,dI i0)],[]⟩
abbrev LP195_0 (row:LV) (m:Nat) (st_:St) (K:KX):Prop:=True/\cU (t:=aa) (s195_0 row) row (F.kg row) (fun v0:Unit=>True) (bB (fun v0:Unit=>True->K (.exit 0) (⟨[(0,.data TVS row)],[]⟩:St)) (fun q0:Unit=>K .ret (⟨[(2,dB false)],[]⟩:St))) m st_
def L195 (row:LV):bD:=lp1 0 (LP195_0 row)
theorem vc195 (row:LV) (K:KA):vcT C195 (L195 row) ann195 f195 [.data TVS row] [] (.dat Ty.bool) K =
 (∃m_,True/\cU (t:=aa) (s195_0 row) row (F.kg row) (fun v0:Unit=>True) (bB (fun v0:Unit=>True->K (dB (decide ((row.length:Int)<=Z4))) []) (fun q0:Unit=>K (dB false) [])) m_ (s195_0 row Z0 ())):=by kernel_rfl
theorem lvc195_0 (row:LV)  (i0:Int) (v0:Unit) (m:Nat) (K:KX):lvT C195 (L195 row) ann195 f195 0 0 (s195_0 row i0 v0) m K =
 (cond (decide (i0<(row.length:Int))) ((0<=i0)/\(i0<(row.length:Int))/\(Sm aa (nV row i0))/\cond (!(M.aN (nV row i0))) (K .ret (⟨[(2,dB false)],[]⟩:St)) (nxT (LP195_0 row) m K (s195_0 row (wrap64 (i0+Z1)) ()))) (K (.exit 0) (⟨[(0,.data TVS row)],[]⟩:St))):=by kernel_rfl
theorem con195_ok:aV P 195 c195:=bf C195 func195 (kC con223_ok kN) fun args hp K h0=>by
 obtain⟨row,rfl,rfl,h_row,hK⟩:=g1e h0
 have h:ok (F.sB row) (fun r=>K (dB r) []):=aC (F.zC row h_row) hK
 refine⟨rfl,ann195,(L195 row),(.dat Ty.bool),(bt (i0:=0) (by kernel_rfl) ?_),?_⟩
 ·rintro _ _ K ⟨hc0,i0,v0,rfl,hl0,rfl,hv0,h⟩
  exact cast (lvc195_0 _ _ _ _ _).symm (bW (t:=aa) hl0 h (fun ht0 h=>⟨hl0,⟨ht0,⟨(aJ h_row i0),(oC h (fun _ h=>h) fun _ h=>(bU (t:=aa) (fun _ hm=>⟨hc0,hm⟩) _ rfl hl0 ht0 (bu h_row) trivial h))⟩⟩⟩) fun h=>(h trivial))
 ·rw[vc195]
  exact(bN (t:=aa) (fun m hm=>⟨trivial,hm⟩) _ rfl trivial (bp h (fun v0 h hv0=>h) (fun q0 h=>h)))
def c144:Con:=⟨[.dat TCS,.dat TVS],fun args hp K=>g2 (pD TCS) (pD TVS) (fun columns row=>(Sm TCS columns)/\(Sm TVS row)/\K (dB (M.bI columns row)) []) args hp,.plain,false⟩
abbrev C144:Ctx:=cx [(178,c178),(195,c195)] 54 [] 0 false
def ann144:=an [[kp 3],[kp 1048579],[kp 16],[kp 35],[kp 16777251],[kp 35],[kp 9007199254741027],[kp 16],[kp 16]] [[kp 0]]
abbrev s144_0 (columns:LC) (row:LV) (i0:Int) (v0:Unit):St:=⟨[(0,.data TCS columns),(1,.data TVS row),(5,dI i0)],[]⟩
abbrev LP144_0 (columns:LC) (row:LV) (m:Nat) (st_:St) (K:KX):Prop:=True/\cr (s144_0 columns row) Z0 (row.length:Int) (F.iH columns row) (fun v0:Unit=>True) (bB (fun v0:Unit=>True->K (.exit 0) (⟨[],[]⟩:St)) (fun q0:Unit=>K .ret (⟨[(4,dB false)],[]⟩:St))) m st_
def L144 (columns:LC) (row:LV):bD:=lp1 0 (LP144_0 columns row)
theorem vc144 (columns:LC) (row:LV) (K:KA):vcT C144 (L144 columns row) ann144 f144 [.data TCS columns,.data TVS row] [] (.dat Ty.bool) K =
 ((Sm TCS columns)/\cond ((!(M.bC columns))==false) ((Sm TVS row)/\cond ((!(M.ot row))==false) (cond (!decide ((row.length:Int)=(columns.length:Int))) (K (dB false) []) (∃m_,True/\cr (s144_0 columns row) Z0 (row.length:Int) (F.iH columns row) (fun v0:Unit=>True) (bB (fun v0:Unit=>True->K (dB true) []) (fun q0:Unit=>K (dB false) [])) m_ (s144_0 columns row Z0 ()))) (K (dB false) [])) (K (dB false) [])):=by kernel_rfl
theorem lvc144_0 (columns:LC) (row:LV)  (i0:Int) (v0:Unit) (m:Nat) (K:KX):lvT C144 (L144 columns row) ann144 f144 0 0 (s144_0 columns row i0 v0) m K =
 (cond (decide (i0<(row.length:Int))) ((0<=i0)/\(i0<(row.length:Int))/\(0<=i0)/\(i0<(columns.length:Int))/\cond ((!decide ((nV row i0).1=(nC columns i0).1))==true) ((0<=i0)/\(i0<(row.length:Int))/\cond ((!decide ((nV row i0).1=Z0))==false) ((0<=i0)/\(i0<(columns.length:Int))/\cond (!(nC columns i0).2.1) (K .ret (⟨[(4,dB false)],[]⟩:St)) (nxT (LP144_0 columns row) m K (s144_0 columns row (wrap64 (i0+Z1)) ()))) (K .ret (⟨[(4,dB false)],[]⟩:St))) (nxT (LP144_0 columns row) m K (s144_0 columns row (wrap64 (i0+Z1)) ()))) (K (.exit 0) (⟨[],[]⟩:St))):=by kernel_rfl
theorem con144_ok:aV P 144 c144:=bf C144 func144 (kC con178_ok (kC con195_ok kN)) fun args hp K h0=>by
 obtain⟨columns,row,rfl,rfl,h_columns,h_row,hK⟩:=g2e h0
 have h:ok (F.oX columns row) (fun r=>K (dB r) []):=aC (F.xj columns row h_columns h_row) hK
 refine⟨rfl,ann144,(L144 columns row),(.dat Ty.bool),(bt (i0:=0) (by kernel_rfl) ?_),?_⟩
 ·rintro _ _ K ⟨hc0,i0,v0,rfl,hl0,rfl,hv0,h⟩
  exact cast (lvc144_0 _ _ _ _ _ _).symm (bJ h (fun ht0 h=>⟨hl0,⟨ht0,⟨hl0,(oG h fun g1 h=>(oC h (fun _ h=>⟨hl0,⟨ht0,(oC h (fun _ h=>⟨hl0,⟨g1,(oC h (fun _ h=>h) fun _ h=>(aS (fun _ hm=>⟨hc0,hm⟩) _ rfl hl0 gy ht0 (bu h_row) trivial h))⟩⟩) fun _ h=>h)⟩⟩) fun _ h=>(aS (fun _ hm=>⟨hc0,hm⟩) _ rfl hl0 gy ht0 (bu h_row) trivial h)))⟩⟩⟩) fun h=>(h trivial))
 ·rw[vc144]
  exact⟨h_columns,(oC h (fun _ h=>⟨h_row,(oC h (fun _ h=>(oC h (fun _ h=>h) fun _ h=>(bq (fun m hm=>⟨trivial,hm⟩) Z0 _ rfl (Int.natCast_nonneg 0) trivial (bp h (fun v0 h hv0=>h) (fun q0 h=>h))))) fun _ h=>h)⟩) fun _ h=>h)⟩
def c108:Con:=⟨[.dat TCS,.dat (Ty.sl TVS)],fun args hp K=>g2 (pD TCS) (pD (Ty.sl TVS)) (fun columns rows=>(Sm TCS columns)/\(Sm (Ty.sl TVS) rows)/\K (dB (M.gp columns rows)) []) args hp,.plain,false⟩
abbrev C108:Ctx:=cx [(144,c144),(178,c178)] 21 [] 0 false
def ann108:=an [[kp 3],[kp 35],[kp 547],[kp 35],[kp 262179],[kp 16],[kp 16]] [[kp 1]]
abbrev s108_0 (columns:LC) (rows:(List LV)) (i0:Int) (v0:Unit):St:=⟨[(0,.data TCS columns),(1,.data (Ty.sl TVS) rows),(5,dI i0)],[]⟩
abbrev LP108_0 (columns:LC) (rows:(List LV)) (m:Nat) (st_:St) (K:KX):Prop:=True/\cU (t:=TVS) (s108_0 columns rows) rows (F.jz columns rows) (fun v0:Unit=>True) (bB (fun v0:Unit=>True->K (.exit 0) (⟨[(0,.data TCS columns)],[]⟩:St)) (fun q0:Unit=>K .ret (⟨[(4,dB false)],[]⟩:St))) m st_
def L108 (columns:LC) (rows:(List LV)):bD:=lp1 0 (LP108_0 columns rows)
theorem vc108 (columns:LC) (rows:(List LV)) (K:KA):vcT C108 (L108 columns rows) ann108 f108 [.data TCS columns,.data (Ty.sl TVS) rows] [] (.dat Ty.bool) K =
 (∃m_,True/\cU (t:=TVS) (s108_0 columns rows) rows (F.jz columns rows) (fun v0:Unit=>True) (bB (fun v0:Unit=>True->(Sm TCS columns)/\K (dB (M.bC columns)) []) (fun q0:Unit=>K (dB false) [])) m_ (s108_0 columns rows Z0 ())):=by kernel_rfl
theorem lvc108_0 (columns:LC) (rows:(List LV))  (i0:Int) (v0:Unit) (m:Nat) (K:KX):lvT C108 (L108 columns rows) ann108 f108 0 0 (s108_0 columns rows i0 v0) m K =
 (cond (decide (i0<(rows.length:Int))) ((0<=i0)/\(i0<(rows.length:Int))/\(Sm TCS columns)/\(Sm TVS (nth (t:=TVS) rows i0))/\cond (!(M.bI columns (nth (t:=TVS) rows i0))) (K .ret (⟨[(4,dB false)],[]⟩:St)) (nxT (LP108_0 columns rows) m K (s108_0 columns rows (wrap64 (i0+Z1)) ()))) (K (.exit 0) (⟨[(0,.data TCS columns)],[]⟩:St))):=by kernel_rfl
theorem con108_ok:aV P 108 c108:=bf C108 func108 (kC con144_ok (kC con178_ok kN)) fun args hp K h0=>by
 obtain⟨columns,rows,rfl,rfl,h_columns,h_rows,hK⟩:=g2e h0
 have h:ok (F.qB columns rows) (fun r=>K (dB r) []):=aC (F.yz columns rows h_columns h_rows) hK
 refine⟨rfl,ann108,(L108 columns rows),(.dat Ty.bool),(bt (i0:=0) (by kernel_rfl) ?_),?_⟩
 ·rintro _ _ K ⟨hc0,i0,v0,rfl,hl0,rfl,hv0,h⟩
  exact cast (lvc108_0 _ _ _ _ _ _).symm (bW (t:=TVS) hl0 h (fun ht0 h=>⟨hl0,⟨ht0,⟨h_columns,⟨(aJ h_rows i0),(oC h (fun _ h=>h) fun _ h=>(bU (t:=TVS) (fun _ hm=>⟨hc0,hm⟩) _ rfl hl0 ht0 (bu h_rows) trivial h))⟩⟩⟩⟩) fun h=>(h trivial))
 ·rw[vc108]
  exact(bN (t:=TVS) (fun m hm=>⟨trivial,hm⟩) _ rfl trivial (bp h (fun v0 h hv0=>⟨h_columns,h⟩) (fun q0 h=>h)))
def c48:Con:=⟨[.dat TTb],fun args hp K=>g1 (pD TTb) (fun tables=>(Sm TTb tables)/\K (dB (M.aH tables)) []) args hp,.plain,false⟩
abbrev C48:Ctx:=cx [(108,c108)] 34 [] 0 false
def ann48:=an [[kp 1],[kp 9],[kp 137],[kp 9],[kp 1073741833],[kp 4],[kp 4]] [[kp 1]]
abbrev s48_0 (tables:LTb) (i0:Int) (v0:Unit):St:=⟨[(0,.data TTb tables),(3,dI i0)],[]⟩
abbrev LP48_0 (tables:LTb) (m:Nat) (st_:St) (K:KX):Prop:=True/\cU (t:=ag) (s48_0 tables) tables (F.gZ tables) (fun v0:Unit=>True) (bB (fun v0:Unit=>True->K (.exit 0) (⟨[(0,.data TTb tables)],[]⟩:St)) (fun q0:Unit=>K .ret (⟨[(2,dB false)],[]⟩:St))) m st_
def L48 (tables:LTb):bD:=lp1 0 (LP48_0 tables)
theorem vc48 (tables:LTb) (K:KA):vcT C48 (L48 tables) ann48 f48 [.data TTb tables] [] (.dat Ty.bool) K =
 (∃m_,True/\cU (t:=ag) (s48_0 tables) tables (F.gZ tables) (fun v0:Unit=>True) (bB (fun v0:Unit=>True->K (dB (decide ((tables.length:Int)<=Z3))) []) (fun q0:Unit=>K (dB false) [])) m_ (s48_0 tables Z0 ())):=by kernel_rfl
theorem lvc48_0 (tables:LTb)  (i0:Int) (v0:Unit) (m:Nat) (K:KX):lvT C48 (L48 tables) ann48 f48 0 0 (s48_0 tables i0 v0) m K =
 (cond (decide (i0<(tables.length:Int))) ((0<=i0)/\(i0<(tables.length:Int))/\cond ((decide (Z6<((nT tables i0).2.1.length:Int)))==false) ((0<=i0)/\(i0<(tables.length:Int))/\(0<=i0)/\(i0<(tables.length:Int))/\(Sm TCS (nT tables i0).1)/\(Sm (Ty.sl TVS) (nT tables i0).2.1)/\cond (!(M.gp (nT tables i0).1 (nT tables i0).2.1)) (K .ret (⟨[(2,dB false)],[]⟩:St)) (nxT (LP48_0 tables) m K (s48_0 tables (wrap64 (i0+Z1)) ()))) (K .ret (⟨[(2,dB false)],[]⟩:St))) (K (.exit 0) (⟨[(0,.data TTb tables)],[]⟩:St))):=by kernel_rfl
theorem con48_ok:aV P 48 c48:=bf C48 func48 (kC con108_ok kN) fun args hp K h0=>by
 obtain⟨tables,rfl,rfl,h_tables,hK⟩:=g1e h0
 have h:ok (F.nH tables) (fun r=>K (dB r) []):=aC (F.uV tables h_tables) hK
 refine⟨rfl,ann48,(L48 tables),(.dat Ty.bool),(bt (i0:=0) (by kernel_rfl) ?_),?_⟩
 ·rintro _ _ K ⟨hc0,i0,v0,rfl,hl0,rfl,hv0,h⟩
  exact cast (lvc48_0 _ _ _ _ _).symm (bW (t:=ag) hl0 h (fun ht0 h=>⟨hl0,⟨ht0,(oC h (fun _ h=>⟨hl0,⟨ht0,⟨hl0,⟨ht0,⟨(aJ h_tables i0).1,⟨(aJ h_tables i0).2.1,(oC h (fun _ h=>h) fun _ h=>(bU (t:=ag) (fun _ hm=>⟨hc0,hm⟩) _ rfl hl0 ht0 (bu h_tables) trivial h))⟩⟩⟩⟩⟩⟩) fun _ h=>h)⟩⟩) fun h=>(h trivial))
 ·rw[vc48]
  exact(bN (t:=ag) (fun m hm=>⟨trivial,hm⟩) _ rfl trivial (bp h (fun v0 h hv0=>h) (fun q0 h=>h)))
def c146:Con:=⟨[.dat TCS,.dat (Ty.sl az)],fun args hp K=>g2 (pD TCS) (pD (Ty.sl az)) (fun columns list=>(Sm TCS columns)/\(Sm (Ty.sl az) list)/\K (dB (M.bX columns list)) []) args hp,.plain,false⟩
abbrev C146:Ctx:=cx [(143,c143)] 24 [] 0 false
def ann146:=an [[kp 3],[kp 35],[kp 547],[kp 35],[kp 1048611],[kp 16],[kp 16]] [[kp 2]]
abbrev s146_0 (columns:LC) (list:LI) (i0:Int) (v0:Unit):St:=⟨[(0,.data TCS columns),(1,.data (Ty.sl az) list),(5,dI i0)],[]⟩
abbrev LP146_0 (columns:LC) (list:LI) (m:Nat) (st_:St) (K:KX):Prop:=True/\cU (t:=az) (s146_0 columns list) list (F.fT columns list) (fun v0:Unit=>True) (bB (fun v0:Unit=>True->K (.exit 0) (⟨[(1,.data (Ty.sl az) list)],[]⟩:St)) (fun q0:Unit=>K .ret (⟨[(4,dB false)],[]⟩:St))) m st_
def L146 (columns:LC) (list:LI):bD:=lp1 0 (LP146_0 columns list)
theorem vc146 (columns:LC) (list:LI) (K:KA):vcT C146 (L146 columns list) ann146 f146 [.data TCS columns,.data (Ty.sl az) list] [] (.dat Ty.bool) K =
 (∃m_,True/\cU (t:=az) (s146_0 columns list) list (F.fT columns list) (fun v0:Unit=>True) (bB (fun v0:Unit=>True->K (dB (M.inR (list.length:Int) Z1 Z4)) []) (fun q0:Unit=>K (dB false) [])) m_ (s146_0 columns list Z0 ())):=by kernel_rfl
theorem lvc146_0 (columns:LC) (list:LI)  (i0:Int) (v0:Unit) (m:Nat) (K:KX):lvT C146 (L146 columns list) ann146 f146 0 0 (s146_0 columns list i0 v0) m K =
 (cond (decide (i0<(list.length:Int))) ((0<=i0)/\(i0<(list.length:Int))/\cond (!(M.inR (nI list i0) Z0 (wrap64 ((columns.length:Int)-Z1)))) (K .ret (⟨[(4,dB false)],[]⟩:St)) (nxT (LP146_0 columns list) m K (s146_0 columns list (wrap64 (i0+Z1)) ()))) (K (.exit 0) (⟨[(1,.data (Ty.sl az) list)],[]⟩:St))):=by kernel_rfl
theorem con146_ok:aV P 146 c146:=bf C146 func146 (kC con143_ok kN) fun args hp K h0=>by
 obtain⟨columns,list,rfl,rfl,h_columns,h_list,hK⟩:=g2e h0
 have h:ok (F.kS columns list) (fun r=>K (dB r) []):=aC (F.tu columns list h_columns h_list) hK
 refine⟨rfl,ann146,(L146 columns list),(.dat Ty.bool),(bt (i0:=0) (by kernel_rfl) ?_),?_⟩
 ·rintro _ _ K ⟨hc0,i0,v0,rfl,hl0,rfl,hv0,h⟩
  exact cast (lvc146_0 _ _ _ _ _ _).symm (bW (t:=az) hl0 h (fun ht0 h=>⟨hl0,⟨ht0,(oC h (fun _ h=>h) fun _ h=>(bU (t:=az) (fun _ hm=>⟨hc0,hm⟩) _ rfl hl0 ht0 (bu h_list) trivial h))⟩⟩) fun h=>(h trivial))
 ·rw[vc146]
  exact(bN (t:=az) (fun m hm=>⟨trivial,hm⟩) _ rfl trivial (bp h (fun v0 h hv0=>h) (fun q0 h=>h)))
def c196:Con:=⟨[.dat TCS,.mv,.dat aE],fun args hp K=>hpN 0 .sh az (fun kinds=>qK (fun a0 a1 a2=>eP TCS a0 fun columns=>Ei 0 a1 (eP aE a2 fun p=>(Sm TCS columns)/\(Sm (Ty.sl az) kinds)/\(Sm aE p)/\(kinds.length<=1000)/\(LD (M.vt columns kinds p) fun r=>K (.tup [.own 0 none,dB r.2]) [(0,.arr .sh az r.1)]))) args []) hp,.mv,false⟩
abbrev C196:Ctx:=cx [(143,c143),(223,c223)] 191 [] 0 true
def ann196:=an [[.fixRow 5 aE,kp 35],[kp 291],[kp 137438953763],[kp 192],[kp 1099511628067],[kp 3298534883619],[.keep [1,5,52]],[kp 192],[kp 192],[kp 1152922604118475043],[.keep [0,1,5,68]],[kp 192],[kp 192],[.keep [1,5,8,40,79]],[kp 770],[kp 192],[.keep [1,5,8,40,107]],[kp 1282],[kp 192],[.keep [1,8,40,137]],[.keep [1,8,40,137]],[kp 2306],[kp 192],[.keep [1,8,40,166]],[kp 192],[.keep [1,8,179]],[kp 192],[kp 192]] []
abbrev S196_0 (columns:LC) (kinds:LI) (p:aE.D) (K:KA):Prop:=(0<=Z0)/\(Z0<=(bz (wrap64 ((kinds.length:Int)-Z2)) Z0))/\((bz (wrap64 ((kinds.length:Int)-Z2)) Z0)<=(kinds.length:Int))/\((bz (wrap64 ((kinds.length:Int)-Z2)) Z0)=(bz (wrap64 ((kinds.length:Int)-Z2)) Z0))/\(Z0=0)/\(((bz (wrap64 ((kinds.length:Int)-Z2)) Z0).toNat+[Z1].length) * 8<=lim)/\K (.tup [.own 0 none,dB false]) [(0,.arr .sh az (kinds.take (bz (wrap64 ((kinds.length:Int)-Z2)) Z0).toNat++[Z1]))]
abbrev S196_1 (columns:LC) (kinds:LI) (p:aE.D) (K:KA):Prop:=(0<=Z0)/\(Z0<=(bz (wrap64 ((kinds.length:Int)-Z2)) Z0))/\((bz (wrap64 ((kinds.length:Int)-Z2)) Z0)<=(kinds.length:Int))/\((bz (wrap64 ((kinds.length:Int)-Z2)) Z0)=(bz (wrap64 ((kinds.length:Int)-Z2)) Z0))/\(Z0=0)/\(((bz (wrap64 ((kinds.length:Int)-Z2)) Z0).toNat+[Z3].length) * 8<=lim)/\K (.tup [.own 0 none,dB false]) [(0,.arr .sh az (kinds.take (bz (wrap64 ((kinds.length:Int)-Z2)) Z0).toNat++[Z3]))]
abbrev S196_2 (columns:LC) (kinds:LI) (p:aE.D) (K:KA):Prop:=(S196_1 columns kinds p K)
abbrev S196_3 (columns:LC) (kinds:LI) (p:aE.D) (K:KA):Prop:=cond ((decide (Z1<(kinds.length:Int)))==true) ((0<=wrap64 ((kinds.length:Int)-Z1))/\(wrap64 ((kinds.length:Int)-Z1)<(kinds.length:Int))/\cond ((decide ((nI kinds (wrap64 ((kinds.length:Int)-Z1)))=Z3))==true) ((0<=wrap64 ((kinds.length:Int)-Z2))/\(wrap64 ((kinds.length:Int)-Z2)<(kinds.length:Int))/\(0<=Z0)/\(Z0<=(bz (wrap64 ((kinds.length:Int)-Z2)) Z0))/\((bz (wrap64 ((kinds.length:Int)-Z2)) Z0)<=(kinds.length:Int))/\((bz (wrap64 ((kinds.length:Int)-Z2)) Z0)=(bz (wrap64 ((kinds.length:Int)-Z2)) Z0))/\(Z0=0)/\(((bz (wrap64 ((kinds.length:Int)-Z2)) Z0).toNat+[Z3].length) * 8<=lim)/\K (.tup [.own 0 none,dB (decide ((nI kinds (wrap64 ((kinds.length:Int)-Z2)))=Z3))]) [(0,.arr .sh az (kinds.take (bz (wrap64 ((kinds.length:Int)-Z2)) Z0).toNat++[Z3]))]) (S196_2 columns kinds p K)) (S196_2 columns kinds p K)
abbrev S196_4 (columns:LC) (kinds:LI) (p:aE.D) (K:KA):Prop:=cond (decide (p.1=(7:Int))) (cond ((decide (Z0<(kinds.length:Int)))==true) ((0<=wrap64 ((kinds.length:Int)-Z1))/\(wrap64 ((kinds.length:Int)-Z1)<(kinds.length:Int))/\K (.tup [.own 0 none,dB (decide ((nI kinds (wrap64 ((kinds.length:Int)-Z1)))=Z3))]) [(0,.arr .sh az kinds)]) (K (.tup [.own 0 none,dB false]) [(0,.arr .sh az kinds)])) (cond (decide (p.1=(8:Int))) ((0<=Z0)/\(Z0<=(bz (wrap64 ((kinds.length:Int)-Z1)) Z0))/\((bz (wrap64 ((kinds.length:Int)-Z1)) Z0)<=(kinds.length:Int))/\((bz (wrap64 ((kinds.length:Int)-Z1)) Z0)=(bz (wrap64 ((kinds.length:Int)-Z1)) Z0))/\(Z0=0)/\(((bz (wrap64 ((kinds.length:Int)-Z1)) Z0).toNat+[Z3].length) * 8<=lim)/\K (.tup [.own 0 none,dB (decide (Z0<(kinds.length:Int)))]) [(0,.arr .sh az (kinds.take (bz (wrap64 ((kinds.length:Int)-Z1)) Z0).toNat++[Z3]))]) (K (.tup [.own 0 none,dB false]) [(0,.arr .sh az kinds)]))
abbrev S196_5 (columns:LC) (kinds:LI) (p:aE.D) (K:KA):Prop:=cond (decide (p.1=Z1)) ((Sm aa p.2.2.1)/\cond ((!(M.aN p.2.2.1))==false) (cond (decide (p.2.2.1.1=Z0)) (K (.tup [.own 0 none,dB false]) [(0,.arr .sh az kinds)]) (((kinds.length+[p.2.2.1.1].length) * 8<=lim)/\K (.tup [.own 0 none,dB true]) [(0,.arr .sh az (kinds++[p.2.2.1.1]))])) (K (.tup [.own 0 none,dB false]) [(0,.arr .sh az kinds)])) (cond (decide (p.1=Z2)) (cond (!(M.inR p.2.1 Z0 (wrap64 ((columns.length:Int)-Z1)))) (K (.tup [.own 0 none,dB false]) [(0,.arr .sh az kinds)]) ((0<=p.2.1)/\(p.2.1<(columns.length:Int))/\((kinds.length+[(nC columns p.2.1).1].length) * 8<=lim)/\K (.tup [.own 0 none,dB true]) [(0,.arr .sh az (kinds++[(nC columns p.2.1).1]))])) (cond (decide (p.1=Z3)) (cond ((decide (Z1<(kinds.length:Int)))==true) ((0<=wrap64 ((kinds.length:Int)-Z1))/\(wrap64 ((kinds.length:Int)-Z1)<(kinds.length:Int))/\cond ((decide ((nI kinds (wrap64 ((kinds.length:Int)-Z1)))=Z1))==true) ((0<=wrap64 ((kinds.length:Int)-Z2))/\(wrap64 ((kinds.length:Int)-Z2)<(kinds.length:Int))/\(0<=Z0)/\(Z0<=(bz (wrap64 ((kinds.length:Int)-Z2)) Z0))/\((bz (wrap64 ((kinds.length:Int)-Z2)) Z0)<=(kinds.length:Int))/\((bz (wrap64 ((kinds.length:Int)-Z2)) Z0)=(bz (wrap64 ((kinds.length:Int)-Z2)) Z0))/\(Z0=0)/\(((bz (wrap64 ((kinds.length:Int)-Z2)) Z0).toNat+[Z1].length) * 8<=lim)/\K (.tup [.own 0 none,dB (decide ((nI kinds (wrap64 ((kinds.length:Int)-Z2)))=Z1))]) [(0,.arr .sh az (kinds.take (bz (wrap64 ((kinds.length:Int)-Z2)) Z0).toNat++[Z1]))]) (S196_0 columns kinds p K)) (S196_0 columns kinds p K)) (cond (decide (p.1=Z4)) (cond ((decide (Z1<(kinds.length:Int)))==true) ((0<=wrap64 ((kinds.length:Int)-Z1))/\(wrap64 ((kinds.length:Int)-Z1)<(kinds.length:Int))/\(0<=wrap64 ((kinds.length:Int)-Z2))/\(wrap64 ((kinds.length:Int)-Z2)<(kinds.length:Int))/\cond ((decide ((nI kinds (wrap64 ((kinds.length:Int)-Z1)))=(nI kinds (wrap64 ((kinds.length:Int)-Z2)))))==true) ((0<=Z0)/\(Z0<=(bz (wrap64 ((kinds.length:Int)-Z2)) Z0))/\((bz (wrap64 ((kinds.length:Int)-Z2)) Z0)<=(kinds.length:Int))/\((bz (wrap64 ((kinds.length:Int)-Z2)) Z0)=(bz (wrap64 ((kinds.length:Int)-Z2)) Z0))/\(Z0=0)/\(((bz (wrap64 ((kinds.length:Int)-Z2)) Z0).toNat+[Z3].length) * 8<=lim)/\K (.tup [.own 0 none,dB (M.inR p.2.1 Z1 Z4)]) [(0,.arr .sh az (kinds.take (bz (wrap64 ((kinds.length:Int)-Z2)) Z0).toNat++[Z3]))]) (S196_2 columns kinds p K)) (S196_2 columns kinds p K)) (cond (decide (p.1=Z5)) (cond (decide (p.1=Z5)) (S196_3 columns kinds p K) (S196_4 columns kinds p K)) (cond (decide (p.1=Z6)) (S196_3 columns kinds p K) (S196_4 columns kinds p K))))))
abbrev S196_6 (columns:LC) (kinds:LI) (p:aE.D) (K:KA):Prop:=cond ((!decide (p.1=Z2))==true) (cond ((!decide (p.1=Z4))==true) (cond (!decide (p.2.1=Z0)) (K (.tup [.own 0 none,dB false]) [(0,.arr .sh az kinds)]) (S196_5 columns kinds p K)) (S196_5 columns kinds p K)) (S196_5 columns kinds p K)
theorem vc196 (columns:LC) (kinds:LI) (p:aE.D) (K:KA):vcT C196 ay ann196 f196 [.data TCS columns,.own 0 none,.data aE p] [(0,.arr .sh az kinds)] .raw K =
 (cond ((!decide (p.1=Z1))==true) (cond ((!(Ty.beq aa p.2.2.1 (Z0,(Z0,((⟨#[]⟩:ByteArray),())))))==false) (S196_6 columns kinds p K) (K (.tup [.own 0 none,dB false]) [(0,.arr .sh az kinds)])) (S196_6 columns kinds p K)):=by kernel_rfl
theorem con196_ok:aV P 196 c196:=bf C196 func196 (kC con143_ok (kC con223_ok kN)) fun args hp K h0=>by
 unfold c196 at h0
 dsimp only at h0
 obtain⟨kinds,rfl,h00⟩:=Cp (n:=0) (d:=.sh) (t:=az) h0
 obtain⟨a0,a1,a2,rfl,_,h1⟩:=fU h00
 obtain⟨columns,rfl,h2⟩:=bg h1
 obtain⟨rfl,h3⟩:=xL h2
 obtain⟨p,rfl,h4⟩:=bg h3
 obtain⟨h_columns,h_kinds,h_p,p0,hK⟩:=h4
 have h:ok (F.kD columns kinds p) (fun r=>K (.tup [.own 0 none,dB r.2]) [(0,.arr .sh az r.1)]):=aC (F.xY columns kinds p h_columns h_kinds h_p p0) (hK _ rfl)
 refine⟨rfl,ann196,ay,.raw,(aG (by kernel_rfl)),?_⟩
 ·rw[vc196]
  exact(oC h (fun b_1 h=>(oC h (fun _ h=>(oC h (fun b_3 h=>(oC h (fun b_4 h=>(oC h (fun _ h=>h) fun _ h=>(fK (bnt (bet b_1)) (fK (bnt (bet b_3)) (oC h (fun _ h=>(oC h (fun _ h=>(oG h fun _ h=>(oG h fun _ h=>(oC h (fun _ h=>(oG h fun _ h=>(oG h fun _ h=>⟨(Int.natCast_nonneg 0),(oG h fun _ h=>(oG h fun _ h=>⟨rfl,⟨rfl,(oG h fun _ h=>h)⟩⟩))⟩))) fun _ h=>⟨(Int.natCast_nonneg 0),(oG h fun _ h=>(oG h fun _ h=>⟨rfl,⟨rfl,(oG h fun _ h=>h)⟩⟩))⟩)))) fun _ h=>⟨(Int.natCast_nonneg 0),(oG h fun _ h=>(oG h fun _ h=>⟨rfl,⟨rfl,(oG h fun _ h=>h)⟩⟩))⟩)) fun _ h=>(fK (bnt (bet b_4)) (oC h (fun b_25 h=>(eL b_25 (oC h (fun _ h=>(oG h fun _ h=>(oG h fun _ h=>(oC h (fun _ h=>(oG h fun _ h=>(oG h fun _ h=>⟨(Int.natCast_nonneg 0),(oG h fun _ h=>(oG h fun _ h=>⟨rfl,⟨rfl,(oG h fun _ h=>h)⟩⟩))⟩))) fun _ h=>⟨(Int.natCast_nonneg 0),(oG h fun _ h=>(oG h fun _ h=>⟨rfl,⟨rfl,(oG h fun _ h=>h)⟩⟩))⟩)))) fun _ h=>⟨(Int.natCast_nonneg 0),(oG h fun _ h=>(oG h fun _ h=>⟨rfl,⟨rfl,(oG h fun _ h=>h)⟩⟩))⟩))) fun _ h=>(oC h (fun _ h=>(oC h (fun _ h=>(oG h fun _ h=>(oG h fun _ h=>(oC h (fun _ h=>(oG h fun _ h=>(oG h fun _ h=>⟨(Int.natCast_nonneg 0),(oG h fun _ h=>(oG h fun _ h=>⟨rfl,⟨rfl,(oG h fun _ h=>h)⟩⟩))⟩))) fun _ h=>⟨(Int.natCast_nonneg 0),(oG h fun _ h=>(oG h fun _ h=>⟨rfl,⟨rfl,(oG h fun _ h=>h)⟩⟩))⟩)))) fun _ h=>⟨(Int.natCast_nonneg 0),(oG h fun _ h=>(oG h fun _ h=>⟨rfl,⟨rfl,(oG h fun _ h=>h)⟩⟩))⟩)) fun _ h=>(oC h (fun _ h=>(oC h (fun _ h=>(oG h fun _ h=>(oG h fun _ h=>h))) fun _ h=>h)) fun _ h=>(oC h (fun _ h=>⟨(Int.natCast_nonneg 0),(oG h fun _ h=>(oG h fun _ h=>⟨rfl,⟨rfl,(oG h fun _ h=>h)⟩⟩))⟩) fun _ h=>h)))))))))) fun b_4 h=>(fK (bnt (bet b_1)) (fK (bnt (bet b_3)) (fK (mC (bnf (bef b_4)) (by decide)) (eL (bnf (bef b_4)) (oC h (fun _ h=>(oG h fun _ h=>(oG h fun _ h=>(oG h fun _ h=>(oG h fun _ h=>(oC h (fun _ h=>⟨(Int.natCast_nonneg 0),(oG h fun _ h=>(oG h fun _ h=>⟨rfl,⟨rfl,(oG h fun _ h=>h)⟩⟩))⟩) fun _ h=>⟨(Int.natCast_nonneg 0),(oG h fun _ h=>(oG h fun _ h=>⟨rfl,⟨rfl,(oG h fun _ h=>h)⟩⟩))⟩)))))) fun _ h=>⟨(Int.natCast_nonneg 0),(oG h fun _ h=>(oG h fun _ h=>⟨rfl,⟨rfl,(oG h fun _ h=>h)⟩⟩))⟩))))))) fun b_3 h=>(fK (bnt (bet b_1)) (eL (bnf (bef b_3)) (oC h (fun _ h=>h) fun b_110 h=>⟨(jO (bnf b_110)),⟨(nD (bnf b_110)),⟨(oW h_kinds (nR (t:=az) trivial) rfl),h⟩⟩⟩))))) fun _ h=>h)) fun b_1 h=>(eL (uet (unt (mC (bnf (bef b_1)) (by decide)))) (eL (uet (unt (mC (bnf (bef b_1)) (by decide)))) (oC h (fun _ h=>h) fun _ h=>(eL (bnf (bef b_1)) ⟨h_p.2.2.1,(oC h (fun _ h=>(oC h (fun _ h=>h) fun _ h=>⟨(oW h_kinds (nR (t:=az) trivial) rfl),h⟩)) fun _ h=>h)⟩)))))
def c147:Con:=⟨[.dat TCS,.dat TPS],fun args hp K=>g2 (pD TCS) (pD TPS) (fun columns e=>(Sm TCS columns)/\(Sm TPS e)/\K (dI (M.dw columns e)) []) args hp,.plain,false⟩
abbrev C147:Ctx:=cx [(178,c178),(196,c196)] 46 [] 0 false
def ann147:=an [[kp 3],[kp 32771],[kp 16],[kp 35],[kp 99],[kp 227],[kp 8388835],[kp 227],[kp 227],[.keep [5,42]],[kp 16],[kp 16]] [[kp 96]]
abbrev s147_0 (columns:LC) (e:LPt) (v0:Bool×Int×LI):St:=⟨[(0,.data TCS columns),(1,.data TPS e),(5,.own 16 none),(6,dB v0.1),(7,dI v0.2.1)],[(16,.arr .sh az v0.2.2)]⟩
abbrev LP147_0 (columns:LC) (e:LPt) (m:Nat) (st_:St) (K:KX):Prop:=True/\eJ (s147_0 columns e) (F.cR columns e) (fun v0:Bool×Int×LI=>True) (fun e0:Bool×LI=>True->K (.exit 0) (⟨[(5,.own 16 none),(6,dB e0.1)],[(16,.arr .sh az e0.2)]⟩:St)) m st_
def L147 (columns:LC) (e:LPt):bD:=lp1 0 (LP147_0 columns e)
theorem vc147 (columns:LC) (e:LPt) (K:KA):vcT C147 (L147 columns e) ann147 f147 [.data TCS columns,.data TPS e] [] (.dat az) K =
 ((Sm TCS columns)/\cond ((!(M.bC columns))==false) (cond (decide ((12:Int)<(e.length:Int))) (K (dI (-1:Int)) []) (∃m_,True/\eJ (s147_0 columns e) (F.cR columns e) (fun v0:Bool×Int×LI=>True) (fun e0:Bool×LI=>True->cond ((!e0.1)==false) (cond (!decide ((e0.2.length:Int)=Z1)) (K (dI (-1:Int)) []) ((0<=Z0)/\(Z0<(e0.2.length:Int))/\K (dI (nI e0.2 Z0)) [])) (K (dI (-1:Int)) [])) m_ (s147_0 columns e (true,Z0,[])))) (K (dI (-1:Int)) [])):=by kernel_rfl
theorem lvc147_0 (columns:LC) (e:LPt)  (v0:Bool×Int×LI) (m:Nat) (K:KX):lvT C147 (L147 columns e) ann147 f147 0 0 (s147_0 columns e v0) m K =
 (cond ((decide (v0.2.1<(e.length:Int)))==true) (cond v0.1 ((0<=v0.2.1)/\(v0.2.1<(e.length:Int))/\(Sm TCS columns)/\(Sm (Ty.sl az) v0.2.2)/\(Sm aE (nP e v0.2.1))/\(v0.2.2.length<=1000)/\(LD (M.vt columns v0.2.2 (nP e v0.2.1)) fun r1=>(nxT (LP147_0 columns e) m K (s147_0 columns e (r1.2,wrap64 (v0.2.1+Z1),r1.1))))) (K (.exit 0) (⟨[(5,.own 16 none),(6,dB v0.1)],[(16,.arr .sh az v0.2.2)]⟩:St))) (K (.exit 0) (⟨[(5,.own 16 none),(6,dB v0.1)],[(16,.arr .sh az v0.2.2)]⟩:St))):=by kernel_rfl
theorem con147_ok:aV P 147 c147:=bf C147 func147 (kC con178_ok (kC con196_ok kN)) fun args hp K h0=>by
 obtain⟨columns,e,rfl,rfl,h_columns,h_e,hK⟩:=g2e h0
 have h:ok (F.nN columns e) (fun r=>K (dI r) []):=aC (F.vF columns e h_columns h_e) hK
 refine⟨rfl,ann147,(L147 columns e),(.dat az),(bt (i0:=0) (by kernel_rfl) ?_),?_⟩
 ·rintro _ _ K ⟨hc0,v0,rfl,hv0,h⟩
  exact cast (lvc147_0 _ _ _ _ _).symm (cV h (fun m1 hm0 h=>(oC h (fun _ h=>(oC h (fun _ h=>(oG h fun _ h=>(oG h fun _ h=>⟨h_columns,(oG h fun _ h=>⟨(aJ h_e v0.2.1),(oG h fun _ h=>(oL h fun _ _ h=>(bR (fun _ hm=>⟨hc0,hm⟩) hm0 _ rfl trivial h)))⟩)⟩))) fun _ h=>((cG h :) trivial))) fun _ h=>((cG h :) trivial))))
 ·rw[vc147]
  exact⟨h_columns,(oC h (fun _ h=>(oC h (fun _ h=>h) fun _ h=>(cv (fun m hm=>⟨trivial,hm⟩) _ rfl trivial (gU h (fun e0 h hv0=>(oC h (fun _ h=>(oC h (fun _ h=>h) fun _ h=>⟨(Int.natCast_nonneg 0),(oG h fun _ h=>h)⟩)) fun _ h=>h)))))) fun _ h=>h)⟩
def c80:Con:=⟨[.dat TTb,.dat ah],fun args hp K=>g2 (pD TTb) (pD ah) (fun tables b=>(Sm TTb tables)/\(Sm ah b)/\K (dB (M.aH tables&&M.aO tables b)) []) args hp,.plain,false⟩
abbrev C80:Ctx:=cx [(48,c48),(143,c143),(146,c146),(147,c147)] 158 [] 0 false
def ann80:=an [[.fixRow 3 ah,kp 9],[kp 262153],[kp 16],[kp 41],[kp 67108905],[kp 201326633],[kp 16],[kp 36028797086072873],[kp 16],[.keep [0,3,5,84]],[.keep [0,3,5,126]],[kp 16],[kp 105],[.keep [0,3,5,6,131]],[kp 105],[.keep [0,3,5,6,157]],[kp 16],[kp 16],[kp 16]] [[],[kp 0]]
abbrev s80_1 (tables:LTb) (b:ah.D) (i1:Int) (v1:Unit):St:=⟨[(0,.data TTb tables),(3,.adr ah b),(5,.data TCS (nT tables b.2.1).1),(6,dI i1)],[]⟩
abbrev LP80_1 (tables:LTb) (b:ah.D) (m:Nat) (st_:St) (K:KX):Prop:=True/\cr (s80_1 tables b) Z0 (b.2.2.1.length:Int) (F.jd tables b) (fun v1:Unit=>True) (bB (fun v1:Unit=>True->K (.exit 1) (⟨[],[]⟩:St)) (fun q1:Unit=>K .ret (⟨[(4,dB false)],[]⟩:St))) m st_
def L80 (tables:LTb) (b:ah.D):bD:=lp1 1 (LP80_1 tables b)
theorem vc80 (tables:LTb) (b:ah.D) (K:KA):vcT C80 (L80 tables b) ann80 f80 [.data TTb tables,.data ah b] [] (.dat Ty.bool) K =
 ((Sm TTb tables)/\cond ((!(M.aH tables))==false) (cond (!(M.inR b.2.1 Z0 (wrap64 ((tables.length:Int)-Z1)))) (K (dB false) []) ((0<=b.2.1)/\(b.2.1<(tables.length:Int))/\cond (decide (b.1=Z1)) ((Sm TCS (nT tables b.2.1).1)/\(Sm (Ty.sl az) b.2.2.1)/\cond ((M.bX (nT tables b.2.1).1 b.2.2.1)==true) (cond ((decide (b.2.2.2.1=Z0))==true) (cond ((decide ((b.2.2.2.2.1.length:Int)=Z0))==true) (cond ((!b.2.2.2.2.2.1)==true) (K (dB (decide ((b.2.2.2.2.2.2.1.length:Int)=Z0))) []) (K (dB false) [])) (K (dB false) [])) (K (dB false) [])) (K (dB false) [])) (cond (decide (b.1=Z3)) ((Sm TCS (nT tables b.2.1).1)/\(Sm TPS b.2.2.2.2.2.2.1)/\cond ((decide ((M.dw (nT tables b.2.1).1 b.2.2.2.2.2.2.1)=Z3))==true) (cond ((decide ((b.2.2.1.length:Int)=Z0))==true) (cond ((decide (b.2.2.2.1=Z0))==true) (cond ((decide ((b.2.2.2.2.1.length:Int)=Z0))==true) (K (dB (!b.2.2.2.2.2.1)) []) (K (dB false) [])) (K (dB false) [])) (K (dB false) [])) (K (dB false) [])) (cond (decide (b.1=Z2)) (cond ((!(M.inR b.2.2.2.1 Z0 (wrap64 ((tables.length:Int)-Z1))))==false) ((Sm TCS (nT tables b.2.1).1)/\(Sm (Ty.sl az) b.2.2.1)/\cond ((!(M.bX (nT tables b.2.1).1 b.2.2.1))==false) ((0<=b.2.2.2.1)/\(b.2.2.2.1<(tables.length:Int))/\(Sm TCS (nT tables b.2.2.2.1).1)/\(Sm (Ty.sl az) b.2.2.2.2.1)/\cond ((!(M.bX (nT tables b.2.2.2.1).1 b.2.2.2.2.1))==false) (cond ((!decide ((b.2.2.1.length:Int)=(b.2.2.2.2.1.length:Int)))==false) (cond (decide (Z0<(b.2.2.2.2.2.2.1.length:Int))) (K (dB false) []) (∃m_,True/\cr (s80_1 tables b) Z0 (b.2.2.1.length:Int) (F.jd tables b) (fun v1:Unit=>True) (bB (fun v1:Unit=>True->K (dB true) []) (fun q1:Unit=>K (dB false) [])) m_ (s80_1 tables b Z0 ()))) (K (dB false) [])) (K (dB false) [])) (K (dB false) [])) (K (dB false) [])) (K (dB false) []))))) (K (dB false) [])):=by kernel_rfl
theorem lvc80_0 (tables:LTb) (b:ah.D)  (i1:Int) (v1:Unit) (m:Nat) (K:KX):lvT C80 (L80 tables b) ann80 f80 0 1 (s80_1 tables b i1 v1) m K =
 (cond (decide (i1<(b.2.2.1.length:Int))) ((0<=i1)/\(i1<(b.2.2.1.length:Int))/\(0<=(nI b.2.2.1 i1))/\((nI b.2.2.1 i1)<((nT tables b.2.1).1.length:Int))/\(0<=b.2.2.2.1)/\(b.2.2.2.1<(tables.length:Int))/\(0<=i1)/\(i1<(b.2.2.2.2.1.length:Int))/\(0<=(nI b.2.2.2.2.1 i1))/\((nI b.2.2.2.2.1 i1)<((nT tables b.2.2.2.1).1.length:Int))/\cond (!decide ((nC (nT tables b.2.1).1 (nI b.2.2.1 i1)).1=(nC (nT tables b.2.2.2.1).1 (nI b.2.2.2.2.1 i1)).1)) (K .ret (⟨[(4,dB false)],[]⟩:St)) (nxT (LP80_1 tables b) m K (s80_1 tables b (wrap64 (i1+Z1)) ()))) (K (.exit 1) (⟨[],[]⟩:St))):=by kernel_rfl
theorem con80_ok:aV P 80 c80:=bf C80 func80 (kC con48_ok (kC con143_ok (kC con146_ok (kC con147_ok kN)))) fun args hp K h0=>by
 obtain⟨tables,b,rfl,rfl,h_tables,h_b,hK⟩:=g2e h0
 have h:ok (F.qS tables b) (fun r=>K (dB r) []):=aC (F.zd tables b h_tables h_b) hK
 refine⟨rfl,ann80,(L80 tables b),(.dat Ty.bool),(bt (i0:=1) (by kernel_rfl) ?_),?_⟩
 ·rintro _ _ K ⟨hc1,i1,v1,rfl,hl1,rfl,hv1,h⟩
  exact cast (lvc80_0 _ _ _ _ _ _).symm (bJ h (fun ht1 h=>⟨hl1,⟨ht1,(oG h fun _ h=>(oG h fun _ h=>(oG h fun _ h=>(oG h fun _ h=>⟨hl1,(oG h fun _ h=>(oG h fun _ h=>(oG h fun _ h=>(oC h (fun _ h=>h) fun _ h=>(aS (fun _ hm=>⟨hc1,hm⟩) _ rfl hl1 gy ht1 (bu h_b.2.2.1) trivial h)))))⟩))))⟩⟩) fun h=>(h trivial))
 ·rw[vc80]
  exact⟨h_tables,(oC h (fun _ h=>(oC h (fun _ h=>h) fun b_2 h=>⟨(jO (bnf b_2)),⟨(nD (bnf b_2)),(oC h (fun _ h=>⟨(aJ h_tables b.2.1).1,⟨h_b.2.2.1,(oC h (fun _ h=>(oC h (fun _ h=>(oC h (fun _ h=>(oC h (fun _ h=>h) fun _ h=>h)) fun _ h=>h)) fun _ h=>h)) fun _ h=>h)⟩⟩) fun _ h=>(oC h (fun _ h=>⟨(aJ h_tables b.2.1).1,⟨h_b.2.2.2.2.2.2.1,(oC h (fun _ h=>(oC h (fun _ h=>(oC h (fun _ h=>(oC h (fun _ h=>h) fun _ h=>h)) fun _ h=>h)) fun _ h=>h)) fun _ h=>h)⟩⟩) fun _ h=>(oC h (fun _ h=>(oC h (fun b_14 h=>⟨(aJ h_tables b.2.1).1,⟨h_b.2.2.1,(oC h (fun _ h=>⟨(jO (bnf (bgt b_14))),⟨(nD (bnf (bgt b_14))),⟨(aJ h_tables b.2.2.2.1).1,⟨h_b.2.2.2.2.1,(oC h (fun _ h=>(oC h (fun _ h=>(oC h (fun _ h=>h) fun _ h=>(bq (fun m hm=>⟨trivial,hm⟩) Z0 _ rfl (Int.natCast_nonneg 0) trivial (bp h (fun v1 h hv1=>h) (fun q1 h=>h))))) fun _ h=>h)) fun _ h=>h)⟩⟩⟩⟩) fun _ h=>h)⟩⟩) fun _ h=>h)) fun _ h=>h)))⟩⟩)) fun _ h=>h)⟩
def c150:Con:=⟨[.dat az],fun args hp K=>g1 (pD az) (fun truth=>(LD (M.valueOf truth) fun r=>K (.data aa r) [])) args hp,.plain,false⟩
abbrev C150:Ctx:=cx [] 12 [] 0 false
def ann150:=an [[kp 5],[kp 261],[kp 4],[kp 4]] []
theorem vc150 (truth:Int) (K:KA):vcT C150 ay ann150 f150 [dI truth] [] (.dat aa) K =
 (cond ((decide (truth=Z0))==false) (cond (decide (truth=Z1)) (K (.data aa (Z3,(truth,((⟨#[]⟩:ByteArray),())))) []) (K (.data aa (Z0,(Z0,((⟨#[]⟩:ByteArray),())))) [])) (K (.data aa (Z3,(truth,((⟨#[]⟩:ByteArray),())))) [])):=by kernel_rfl
theorem con150_ok:aV P 150 c150:=bf C150 func150 kN fun args hp K h0=>by
 obtain⟨truth,rfl,rfl,hK⟩:=g1e h0
 have h:ok (F.oI truth) (fun r=>K (.data aa r) []):=aC (F.wG truth) (hK _ rfl)
 refine⟨rfl,ann150,ay,(.dat aa),(aG (by kernel_rfl)),?_⟩
 ·rw[vc150]
  exact(oC h (fun _ h=>(oC h (fun _ h=>h) fun _ h=>h)) fun _ h=>h)
def c224:Con:=⟨[.dat aa,.dat aa],fun args hp K=>g2 (pD aa) (pD aa) (fun a b=>(Sm aa a)/\(Sm aa b)/\(LD (M.sum a b) fun r=>K (.data aa r) [])) args hp,.plain,false⟩
abbrev C224:Ctx:=cx [(143,c143)] 27 [] 0 false
def ann224:=an [[.fixRow 2 aa,.fixRow 3 aa,kp 28],[kp 60],[kp 8388656],[kp 16],[kp 16]] []
theorem vc224 (a:aa.D) (b:aa.D) (K:KA):vcT C224 ay ann224 f224 [.data aa a,.data aa b] [] (.dat aa) K =
 (cond ((decide (a.1=Z0))==false) (cond ((decide (b.1=Z0))==false) (cond (!(M.inR (wrap64 (a.2.1+b.2.1)) (-9999:Int) (9999:Int))) (K (.data aa (Z0,(Z0,((⟨#[]⟩:ByteArray),())))) []) (K (.data aa (Z1,(wrap64 (a.2.1+b.2.1),((⟨#[]⟩:ByteArray),())))) [])) (K (.data aa (Z0,(Z0,((⟨#[]⟩:ByteArray),())))) [])) (K (.data aa (Z0,(Z0,((⟨#[]⟩:ByteArray),())))) [])):=by kernel_rfl
theorem con224_ok:aV P 224 c224:=bf C224 func224 (kC con143_ok kN) fun args hp K h0=>by
 obtain⟨a,b,rfl,rfl,h_a,h_b,hK⟩:=g2e h0
 have h:ok (F.su a b) (fun r=>K (.data aa r) []):=aC (F.Ac a b h_a h_b) (hK _ rfl)
 refine⟨rfl,ann224,ay,(.dat aa),(aG (by kernel_rfl)),?_⟩
 ·rw[vc224]
  exact(oC h (fun _ h=>(oC h (fun _ h=>(oC h (fun _ h=>h) fun _ h=>h)) fun _ h=>h)) fun _ h=>h)
def c230:Con:=⟨[.dat Ty.bool],fun args hp K=>g1 (pD Ty.bool) (fun b=>K (dI (M.bool b)) []) args hp,.plain,false⟩
abbrev C230:Ctx:=cx [] 4 [] 0 false
def ann230:=an [[kp 1],[kp 8],[kp 4],[kp 4]] []
theorem vc230 (b:Bool) (K:KA):vcT C230 ay ann230 f230 [dB b] [] (.dat az) K =
 (cond b (K (dI Z1) []) (K (dI Z0) [])):=by kernel_rfl
theorem con230_ok:aV P 230 c230:=bf C230 func230 kN fun args hp K h0=>by
 obtain⟨b,rfl,rfl,hK⟩:=g1e h0
 have h:ok (F.qz b) (fun r=>K (dI r) []):=aC (F.yL b) hK
 refine⟨rfl,ann230,ay,(.dat az),(aG (by kernel_rfl)),?_⟩
 ·rw[vc230]
  exact(oC h (fun _ h=>h) fun _ h=>h)
def c258:Con:=⟨[.dat az,.dat az],fun args hp K=>g2 (pD az) (pD az) (fun a b=>K (dI (M.less a b)) []) args hp,.plain,false⟩
abbrev C258:Ctx:=cx [] 8 [] 0 false
def ann258:=an [[kp 3],[kp 128],[kp 16],[kp 16]] []
theorem vc258 (a:Int) (b:Int) (K:KA):vcT C258 ay ann258 f258 [dI a,dI b] [] (.dat az) K =
 (cond (decide (a<b)) (K (dI Z1) []) (K (dI Z0) [])):=by kernel_rfl
theorem con258_ok:aV P 258 c258:=bf C258 func258 kN fun args hp K h0=>by
 obtain⟨a,b,rfl,rfl,hK⟩:=g2e h0
 have h:ok (F.qE a b) (fun r=>K (dI r) []):=aC (F.zx a b) hK
 refine⟨rfl,ann258,ay,(.dat az),(aG (by kernel_rfl)),?_⟩
 ·rw[vc258]
  exact(oC h (fun _ h=>h) fun _ h=>h)
def c259:Con:=⟨[.dat Ty.str,.dat Ty.str],fun args hp K=>g2 (pD Ty.str) (pD Ty.str) (fun a b=>(Sm Ty.str a)/\(Sm Ty.str b)/\K (dI (M.tw a b)) []) args hp,.plain,false⟩
abbrev C259:Ctx:=cx [] 11 [] 0 false
def ann259:=an [[kp 3],[kp 131],[kp 16],[kp 1024],[kp 16],[kp 16]] []
theorem vc259 (a:ByteArray) (b:ByteArray) (K:KA):vcT C259 ay ann259 f259 [.data Ty.str a,.data Ty.str b] [] (.dat az) K =
 (cond (Op.bytesLess a.toList b.toList) (K (dI (-1:Int)) []) (cond (!(Op.bytesLess a.toList b.toList||decide (a=b))) (K (dI Z1) []) (K (dI Z0) []))):=by kernel_rfl
theorem con259_ok:aV P 259 c259:=bf C259 func259 kN fun args hp K h0=>by
 obtain⟨a,b,rfl,rfl,h_a,h_b,hK⟩:=g2e h0
 have h:ok (F.sF a b) (fun r=>K (dI r) []):=aC (F.zB a b h_a h_b) hK
 refine⟨rfl,ann259,ay,(.dat az),(aG (by kernel_rfl)),?_⟩
 ·rw[vc259]
  exact(oC h (fun _ h=>h) fun _ h=>(oC h (fun _ h=>h) fun _ h=>h))
def c250:Con:=⟨[.dat aa,.dat aa],fun args hp K=>g2 (pD aa) (pD aa) (fun a b=>(Sm aa a)/\(Sm aa b)/\K (dI (M.dR a b)) []) args hp,.plain,false⟩
abbrev C250:Ctx:=cx [(223,c223),(258,c258),(259,c259)] 44 [] 0 false
def ann250:=an [[.fixRow 2 aa,.fixRow 3 aa,kp 12],[kp 4108],[kp 16],[kp 8204],[kp 16],[kp 67108876],[kp 16],[kp 16]] []
theorem vc250 (a:aa.D) (b:aa.D) (K:KA):vcT C250 ay ann250 f250 [.data aa a,.data aa b] [] (.dat az) K =
 ((Sm aa a)/\cond ((!(M.aN a))==false) ((Sm aa b)/\cond (!(M.aN b)) (K (dI Z0) []) (cond (!decide (a.1=b.1)) (K (dI (wrap64 (wrap64 (Z2 * (M.less b.1 a.1))-Z1))) []) (cond (!decide (a.2.1=b.2.1)) (K (dI (wrap64 (wrap64 (Z2 * (M.less b.2.1 a.2.1))-Z1))) []) ((Sm Ty.str a.2.2.1)/\(Sm Ty.str b.2.2.1)/\K (dI (M.tw a.2.2.1 b.2.2.1)) [])))) (K (dI Z0) [])):=by kernel_rfl
theorem con250_ok:aV P 250 c250:=bf C250 func250 (kC con223_ok (kC con258_ok (kC con259_ok kN))) fun args hp K h0=>by
 obtain⟨a,b,rfl,rfl,h_a,h_b,hK⟩:=g2e h0
 have h:ok (F.kQ a b) (fun r=>K (dI r) []):=aC (F.sy a b h_a h_b) hK
 refine⟨rfl,ann250,ay,(.dat az),(aG (by kernel_rfl)),?_⟩
 ·rw[vc250]
  exact⟨h_a,(oC h (fun _ h=>⟨h_b,(oC h (fun _ h=>h) fun _ h=>(oC h (fun _ h=>h) fun _ h=>(oC h (fun _ h=>h) fun _ h=>⟨h_a.2.2.1,⟨h_b.2.2.1,h⟩⟩)))⟩) fun _ h=>h)⟩
def c225:Con:=⟨[.dat az,.dat aa,.dat aa],fun args hp K=>g3 (pD az) (pD aa) (pD aa) (fun kind a b=>(Sm aa a)/\(Sm aa b)/\K (dI (M.compare kind a b)) []) args hp,.plain,false⟩
abbrev C225:Ctx:=cx [(143,c143),(223,c223),(230,c230),(250,c250)] 65 [] 0 false
def ann225:=an [[.fixRow 4 aa,.fixRow 5 aa,kp 49],[kp 177],[kp 64],[kp 2097201],[kp 64],[kp 1073741873],[kp 64],[kp 68719476785],[kp 64],[kp 17592186044465],[kp 64],[.keep [4,5,52]],[kp 64],[kp 64]] []
theorem vc225 (kind:Int) (a:aa.D) (b:aa.D) (K:KA):vcT C225 ay ann225 f225 [dI kind,.data aa a,.data aa b] [] (.dat az) K =
 (cond ((!(M.inR kind Z1 Z4))==false) ((Sm aa a)/\cond ((!(M.aN a))==false) ((Sm aa b)/\cond (!(M.aN b)) (K (dI (-1:Int)) []) (cond ((decide (a.1=Z0))==false) (cond (decide (b.1=Z0)) (K (dI Z2) []) (cond (!decide (a.1=b.1)) (K (dI (-1:Int)) []) (cond (decide (kind=Z1)) ((Sm aa a)/\(Sm aa b)/\K (dI (M.bool (decide ((M.dR a b)=Z0)))) []) (cond (decide (kind=Z2)) ((Sm aa a)/\(Sm aa b)/\K (dI (M.bool (!decide ((M.dR a b)=Z0)))) []) (cond (decide (kind=Z3)) ((Sm aa a)/\(Sm aa b)/\K (dI (M.bool (decide ((M.dR a b)<Z0)))) []) ((Sm aa a)/\(Sm aa b)/\K (dI (M.bool (decide ((M.dR a b)<=Z0)))) [])))))) (K (dI Z2) []))) (K (dI (-1:Int)) [])) (K (dI (-1:Int)) [])):=by kernel_rfl
theorem con225_ok:aV P 225 c225:=bf C225 func225 (kC con143_ok (kC con223_ok (kC con230_ok (kC con250_ok kN)))) fun args hp K h0=>by
 obtain⟨kind,a,b,rfl,rfl,h_a,h_b,hK⟩:=g3e h0
 have h:ok (F.pJ kind a b) (fun r=>K (dI r) []):=aC (F.xe kind a b h_a h_b) hK
 refine⟨rfl,ann225,ay,(.dat az),(aG (by kernel_rfl)),?_⟩
 ·rw[vc225]
  exact(oC h (fun _ h=>⟨h_a,(oC h (fun _ h=>⟨h_b,(oC h (fun _ h=>h) fun _ h=>(oC h (fun _ h=>(oC h (fun _ h=>h) fun _ h=>(oC h (fun _ h=>h) fun _ h=>(oC h (fun _ h=>⟨h_a,⟨h_b,h⟩⟩) fun _ h=>(oC h (fun _ h=>⟨h_a,⟨h_b,h⟩⟩) fun _ h=>(oC h (fun _ h=>⟨h_a,⟨h_b,h⟩⟩) fun _ h=>⟨h_a,⟨h_b,h⟩⟩)))))) fun _ h=>h))⟩) fun _ h=>h)⟩) fun _ h=>h)
def c251:Con:=⟨[.dat az],fun args hp K=>g1 (pD az) (fun n=>K (dB (M.inR n 0 2)) []) args hp,.plain,false⟩
abbrev C251:Ctx:=cx [(143,c143)] 5 [] 0 false
def ann251:=an [[kp 1],[kp 4]] []
theorem vc251 (n:Int) (K:KA):vcT C251 ay ann251 f251 [dI n] [] (.dat Ty.bool) K =
 (K (dB (M.inR n Z0 Z2)) []):=by kernel_rfl
theorem con251_ok:aV P 251 c251:=bf C251 func251 (kC con143_ok kN) fun args hp K h0=>by
 obtain⟨n,rfl,rfl,hK⟩:=g1e h0
 have h:ok (F.uL n) (fun r=>K (dB r) []):=aC (F.wP n) hK
 refine⟨rfl,ann251,ay,(.dat Ty.bool),(aG (by kernel_rfl)),?_⟩
 ·rw[vc251]
  exact h
def c252:Con:=⟨[.dat az],fun args hp K=>g1 (pD az) (fun n=>(M.inR n 0 2=true)/\K (dI (M.sure n)) []) args hp,.plain,false⟩
abbrev C252:Ctx:=cx [] 7 [] 0 false
def ann252:=an [[kp 1],[kp 4]] []
theorem vc252 (n:Int) (K:KA):vcT C252 ay ann252 f252 [dI n] [] (.dat az) K =
 ((0<=n)/\(n<([Z0,Z2,Z1].length:Int))/\K (dI (nI [Z0,Z2,Z1] n)) []):=by kernel_rfl
theorem con252_ok:aV P 252 c252:=bf C252 func252 kN fun args hp K h0=>by
 obtain⟨n,rfl,rfl,p0,hK⟩:=g1e h0
 have h:ok (F.qR n) (fun r=>K (dI r) []):=aC (F.zy n p0) hK
 refine⟨rfl,ann252,ay,(.dat az),(aG (by kernel_rfl)),?_⟩
 ·rw[vc252]
  exact(oG h fun _ h=>(oG h fun _ h=>h))
def c226:Con:=⟨[.dat az,.dat az],fun args hp K=>g2 (pD az) (pD az) (fun a b=>K (dI (M.qw a b)) []) args hp,.plain,false⟩
abbrev C226:Ctx:=cx [(251,c251),(252,c252)] 19 [] 0 false
def ann226:=an [[kp 3],[kp 4099],[kp 16],[kp 16]] []
theorem vc226 (a:Int) (b:Int) (K:KA):vcT C226 ay ann226 f226 [dI a,dI b] [] (.dat az) K =
 (cond ((!(M.inR a 0 2))==false) (cond (!(M.inR b 0 2)) (K (dI (-1:Int)) []) ((M.inR a 0 2=true)/\(M.inR b 0 2=true)/\(M.inR (Hq (M.sure a) (M.sure b)) 0 2=true)/\K (dI (M.sure (Hq (M.sure a) (M.sure b)))) [])) (K (dI (-1:Int)) [])):=by kernel_rfl
theorem con226_ok:aV P 226 c226:=bf C226 func226 (kC con251_ok (kC con252_ok kN)) fun args hp K h0=>by
 obtain⟨a,b,rfl,rfl,hK⟩:=g2e h0
 have h:ok (F.sD a b) (fun r=>K (dI r) []):=aC (F.zP a b) hK
 refine⟨rfl,ann226,ay,(.dat az),(aG (by kernel_rfl)),?_⟩
 ·rw[vc226]
  exact(oC h (fun b_1 h=>(oC h (fun _ h=>h) fun b_2 h=>⟨(bnf (bgt b_1)),⟨(bnf b_2),(oG h fun _ h=>h)⟩⟩)) fun _ h=>h)
def c227:Con:=⟨[.dat aa],fun args hp K=>g1 (pD aa) (fun v=>(Sm aa v)/\K (dI (M.bV v)) []) args hp,.plain,false⟩
abbrev C227:Ctx:=cx [(223,c223)] 23 [] 0 false
def ann227:=an [[.fixRow 1 aa,kp 2],[kp 10],[kp 4],[kp 131074],[kp 4],[kp 4]] []
theorem vc227 (v:aa.D) (K:KA):vcT C227 ay ann227 f227 [.data aa v] [] (.dat az) K =
 ((Sm aa v)/\cond ((!(M.aN v))==false) (cond ((decide (v.1=Z1))==false) (cond (decide (v.1=Z2)) (K (dI (-1:Int)) []) (cond (decide (v.1=Z0)) (K (dI Z2) []) (K (dI v.2.1) []))) (K (dI (-1:Int)) [])) (K (dI (-1:Int)) [])):=by kernel_rfl
theorem con227_ok:aV P 227 c227:=bf C227 func227 (kC con223_ok kN) fun args hp K h0=>by
 obtain⟨v,rfl,rfl,h_v,hK⟩:=g1e h0
 have h:ok (F.oP v) (fun r=>K (dI r) []):=aC (F.wY v h_v) hK
 refine⟨rfl,ann227,ay,(.dat az),(aG (by kernel_rfl)),?_⟩
 ·rw[vc227]
  exact⟨h_v,(oC h (fun _ h=>(oC h (fun _ h=>(oC h (fun _ h=>h) fun _ h=>(oC h (fun _ h=>h) fun _ h=>h))) fun _ h=>h)) fun _ h=>h)⟩
def c228:Con:=⟨[.dat az,.dat az],fun args hp K=>g2 (pD az) (pD az) (fun a b=>K (dI (M.xZ a b)) []) args hp,.plain,false⟩
abbrev C228:Ctx:=cx [(251,c251),(252,c252)] 19 [] 0 false
def ann228:=an [[kp 3],[kp 4099],[kp 16],[kp 16]] []
theorem vc228 (a:Int) (b:Int) (K:KA):vcT C228 ay ann228 f228 [dI a,dI b] [] (.dat az) K =
 (cond ((!(M.inR a 0 2))==false) (cond (!(M.inR b 0 2)) (K (dI (-1:Int)) []) ((M.inR a 0 2=true)/\(M.inR b 0 2=true)/\(M.inR (bz (M.sure a) (M.sure b)) 0 2=true)/\K (dI (M.sure (bz (M.sure a) (M.sure b)))) [])) (K (dI (-1:Int)) [])):=by kernel_rfl
theorem con228_ok:aV P 228 c228:=bf C228 func228 (kC con251_ok (kC con252_ok kN)) fun args hp K h0=>by
 obtain⟨a,b,rfl,rfl,hK⟩:=g2e h0
 have h:ok (F.uX a b) (fun r=>K (dI r) []):=aC (F.Bi a b) hK
 refine⟨rfl,ann228,ay,(.dat az),(aG (by kernel_rfl)),?_⟩
 ·rw[vc228]
  exact(oC h (fun b_1 h=>(oC h (fun _ h=>h) fun b_2 h=>⟨(bnf (bgt b_1)),⟨(bnf b_2),(oG h fun _ h=>h)⟩⟩)) fun _ h=>h)
def c229:Con:=⟨[.dat az],fun args hp K=>g1 (pD az) (fun a=>K (dI (M.ri a)) []) args hp,.plain,false⟩
abbrev C229:Ctx:=cx [(251,c251),(252,c252)] 10 [] 0 false
def ann229:=an [[kp 1],[kp 33],[kp 4],[kp 4]] []
theorem vc229 (a:Int) (K:KA):vcT C229 ay ann229 f229 [dI a] [] (.dat az) K =
 (cond (!(M.inR a 0 2)) (K (dI (-1:Int)) []) ((M.inR a 0 2=true)/\(M.inR (wrap64 (Z2-(M.sure a))) 0 2=true)/\K (dI (M.sure (wrap64 (Z2-(M.sure a))))) [])):=by kernel_rfl
theorem con229_ok:aV P 229 c229:=bf C229 func229 (kC con251_ok (kC con252_ok kN)) fun args hp K h0=>by
 obtain⟨a,rfl,rfl,hK⟩:=g1e h0
 have h:ok (F.sU a) (fun r=>K (dI r) []):=aC (F.zH a) hK
 refine⟨rfl,ann229,ay,(.dat az),(aG (by kernel_rfl)),?_⟩
 ·rw[vc229]
  exact(oC h (fun _ h=>h) fun b_1 h=>⟨(bnf b_1),(oG h fun _ h=>h)⟩)
def c197:Con:=⟨[.dat TVS,.mv,.dat aE],fun args hp K=>hpN 0 .sh aa (fun values=>qK (fun a0 a1 a2=>eP TVS a0 fun row=>Ei 0 a1 (eP aE a2 fun p=>(Sm TVS row)/\(Sm TVS values)/\(Sm aE p)/\(values.length<=1000)/\(M.takes p<=(values.length:Int))/\(1<=p.1/\p.1<=8)/\(M.mZ p row.length)/\(LD (M.eY row values p) fun r=>K (.own 0 none) [(0,.arr .sh aa r)]))) args []) hp,.mv,false⟩
abbrev C197:Ctx:=cx [(150,c150),(224,c224),(225,c225),(226,c226),(227,c227),(228,c228),(229,c229),(230,c230)] 145 [] 0 true
def ann197:=an [[.fixRow 5 aE,kp 35],[kp 163],[kp 2211],[kp 6307],[kp 64],[kp 526499],[kp 64],[kp 536873122],[kp 64],[kp 281474976712866],[kp 64],[.keep [1,7,11,70]],[kp 64],[.keep [1,7,11,92]],[kp 64],[.keep [1,7,114]],[kp 64],[kp 64]] []
theorem vc197 (row:LV) (values:LV) (p:aE.D) (K:KA):vcT C197 ay ann197 f197 [.data TVS row,.own 0 none,.data aE p] [(0,.arr .sh aa values)] .raw K =
 (cond (decide (p.1=Z1)) (((values.length+[p.2.2.1].length) * 32<=lim)/\K (.own 0 none) [(0,.arr .sh aa (values++[p.2.2.1]))]) (cond (decide (p.1=Z2)) ((0<=p.2.1)/\(p.2.1<(row.length:Int))/\((values.length+[(nV row p.2.1)].length) * 32<=lim)/\K (.own 0 none) [(0,.arr .sh aa (values++[(nV row p.2.1)]))]) (cond (decide (p.1=Z3)) ((0<=Z0)/\(Z0<=wrap64 ((values.length:Int)-Z2))/\(wrap64 ((values.length:Int)-Z2)<=(values.length:Int))/\(wrap64 ((values.length:Int)-Z2)=wrap64 ((values.length:Int)-Z2))/\(0<=wrap64 ((values.length:Int)-Z2))/\(wrap64 ((values.length:Int)-Z2)<(values.length:Int))/\(0<=wrap64 ((values.length:Int)-Z1))/\(wrap64 ((values.length:Int)-Z1)<(values.length:Int))/\(Sm aa (nV values (wrap64 ((values.length:Int)-Z2))))/\(Sm aa (nV values (wrap64 ((values.length:Int)-Z1))))/\(LD (M.sum (nV values (wrap64 ((values.length:Int)-Z2))) (nV values (wrap64 ((values.length:Int)-Z1)))) fun r1=>(Z0=0)/\(((wrap64 ((values.length:Int)-Z2)).toNat+[r1].length) * 32<=lim)/\K (.own 0 none) [(0,.arr .sh aa (values.take (wrap64 ((values.length:Int)-Z2)).toNat++[r1]))])) (cond (decide (p.1=Z4)) ((0<=Z0)/\(Z0<=wrap64 ((values.length:Int)-Z2))/\(wrap64 ((values.length:Int)-Z2)<=(values.length:Int))/\(wrap64 ((values.length:Int)-Z2)=wrap64 ((values.length:Int)-Z2))/\(0<=wrap64 ((values.length:Int)-Z2))/\(wrap64 ((values.length:Int)-Z2)<(values.length:Int))/\(0<=wrap64 ((values.length:Int)-Z1))/\(wrap64 ((values.length:Int)-Z1)<(values.length:Int))/\(Sm aa (nV values (wrap64 ((values.length:Int)-Z2))))/\(Sm aa (nV values (wrap64 ((values.length:Int)-Z1))))/\(LD (M.valueOf (M.compare p.2.1 (nV values (wrap64 ((values.length:Int)-Z2))) (nV values (wrap64 ((values.length:Int)-Z1))))) fun r2=>(Z0=0)/\(((wrap64 ((values.length:Int)-Z2)).toNat+[r2].length) * 32<=lim)/\K (.own 0 none) [(0,.arr .sh aa (values.take (wrap64 ((values.length:Int)-Z2)).toNat++[r2]))])) (cond (decide (p.1=Z5)) ((0<=Z0)/\(Z0<=wrap64 ((values.length:Int)-Z2))/\(wrap64 ((values.length:Int)-Z2)<=(values.length:Int))/\(wrap64 ((values.length:Int)-Z2)=wrap64 ((values.length:Int)-Z2))/\(0<=wrap64 ((values.length:Int)-Z2))/\(wrap64 ((values.length:Int)-Z2)<(values.length:Int))/\(0<=wrap64 ((values.length:Int)-Z1))/\(wrap64 ((values.length:Int)-Z1)<(values.length:Int))/\(Sm aa (nV values (wrap64 ((values.length:Int)-Z2))))/\(Sm aa (nV values (wrap64 ((values.length:Int)-Z1))))/\(LD (M.valueOf (M.qw (M.bV (nV values (wrap64 ((values.length:Int)-Z2)))) (M.bV (nV values (wrap64 ((values.length:Int)-Z1)))))) fun r3=>(Z0=0)/\(((wrap64 ((values.length:Int)-Z2)).toNat+[r3].length) * 32<=lim)/\K (.own 0 none) [(0,.arr .sh aa (values.take (wrap64 ((values.length:Int)-Z2)).toNat++[r3]))])) (cond (decide (p.1=Z6)) ((0<=Z0)/\(Z0<=wrap64 ((values.length:Int)-Z2))/\(wrap64 ((values.length:Int)-Z2)<=(values.length:Int))/\(wrap64 ((values.length:Int)-Z2)=wrap64 ((values.length:Int)-Z2))/\(0<=wrap64 ((values.length:Int)-Z2))/\(wrap64 ((values.length:Int)-Z2)<(values.length:Int))/\(0<=wrap64 ((values.length:Int)-Z1))/\(wrap64 ((values.length:Int)-Z1)<(values.length:Int))/\(Sm aa (nV values (wrap64 ((values.length:Int)-Z2))))/\(Sm aa (nV values (wrap64 ((values.length:Int)-Z1))))/\(LD (M.valueOf (M.xZ (M.bV (nV values (wrap64 ((values.length:Int)-Z2)))) (M.bV (nV values (wrap64 ((values.length:Int)-Z1)))))) fun r4=>(Z0=0)/\(((wrap64 ((values.length:Int)-Z2)).toNat+[r4].length) * 32<=lim)/\K (.own 0 none) [(0,.arr .sh aa (values.take (wrap64 ((values.length:Int)-Z2)).toNat++[r4]))])) (cond (decide (p.1=(7:Int))) ((0<=Z0)/\(Z0<=wrap64 ((values.length:Int)-Z1))/\(wrap64 ((values.length:Int)-Z1)<=(values.length:Int))/\(wrap64 ((values.length:Int)-Z1)=wrap64 ((values.length:Int)-Z1))/\(0<=wrap64 ((values.length:Int)-Z1))/\(wrap64 ((values.length:Int)-Z1)<(values.length:Int))/\(Sm aa (nV values (wrap64 ((values.length:Int)-Z1))))/\(LD (M.valueOf (M.ri (M.bV (nV values (wrap64 ((values.length:Int)-Z1)))))) fun r5=>(Z0=0)/\(((wrap64 ((values.length:Int)-Z1)).toNat+[r5].length) * 32<=lim)/\K (.own 0 none) [(0,.arr .sh aa (values.take (wrap64 ((values.length:Int)-Z1)).toNat++[r5]))])) ((0<=Z0)/\(Z0<=wrap64 ((values.length:Int)-Z1))/\(wrap64 ((values.length:Int)-Z1)<=(values.length:Int))/\(wrap64 ((values.length:Int)-Z1)=wrap64 ((values.length:Int)-Z1))/\(0<=wrap64 ((values.length:Int)-Z1))/\(wrap64 ((values.length:Int)-Z1)<(values.length:Int))/\(LD (M.valueOf (M.bool (decide ((nV values (wrap64 ((values.length:Int)-Z1))).1=Z0)))) fun r6=>(Z0=0)/\(((wrap64 ((values.length:Int)-Z1)).toNat+[r6].length) * 32<=lim)/\K (.own 0 none) [(0,.arr .sh aa (values.take (wrap64 ((values.length:Int)-Z1)).toNat++[r6]))]))))))))):=by kernel_rfl
theorem con197_ok:aV P 197 c197:=bf C197 func197 (kC con150_ok (kC con224_ok (kC con225_ok (kC con226_ok (kC con227_ok (kC con228_ok (kC con229_ok (kC con230_ok kN)))))))) fun args hp K h0=>by
 unfold c197 at h0
 dsimp only at h0
 obtain⟨values,rfl,h00⟩:=Cp (n:=0) (d:=.sh) (t:=aa) h0
 obtain⟨a0,a1,a2,rfl,_,h1⟩:=fU h00
 obtain⟨row,rfl,h2⟩:=bg h1
 obtain⟨rfl,h3⟩:=xL h2
 obtain⟨p,rfl,h4⟩:=bg h3
 obtain⟨h_row,h_values,h_p,p0,p1,p2,p3,hK⟩:=h4
 have h:ok (F.rJ row values p) (fun r=>K (.own 0 none) [(0,.arr .sh aa r)]):=aC (F.Bk row values p h_row h_values h_p p0 p1 p2 p3) (hK _ rfl)
 refine⟨rfl,ann197,ay,.raw,(aG (by kernel_rfl)),?_⟩
 ·rw[vc197]
  exact(oC h (fun _ h=>⟨(oW h_values (nR h_p.2.2.1) rfl),h⟩) fun _ h=>(oC h (fun _ h=>(oG h fun _ h=>(oG h fun _ h=>⟨(oW h_values (nR (aJ h_row p.2.1)) rfl),h⟩))) fun _ h=>(oC h (fun _ h=>⟨(Int.natCast_nonneg 0),(oG h fun _ h=>(oG h fun _ h=>⟨rfl,(oG h fun _ h=>(oG h fun _ h=>(oG h fun _ h=>(oG h fun _ h=>⟨(aJ h_values (wrap64 ((values.length:Int)-Z2))),⟨(aJ h_values (wrap64 ((values.length:Int)-Z1))),(oL h fun _ _ h=>⟨rfl,(oG h fun _ h=>h)⟩)⟩⟩))))⟩))⟩) fun _ h=>(oC h (fun _ h=>⟨(Int.natCast_nonneg 0),(oG h fun _ h=>(oG h fun _ h=>⟨rfl,(oG h fun _ h=>(oG h fun _ h=>(oG h fun _ h=>(oG h fun _ h=>⟨(aJ h_values (wrap64 ((values.length:Int)-Z2))),⟨(aJ h_values (wrap64 ((values.length:Int)-Z1))),(oL h fun _ _ h=>⟨rfl,(oG h fun _ h=>h)⟩)⟩⟩))))⟩))⟩) fun _ h=>(oC h (fun _ h=>⟨(Int.natCast_nonneg 0),(oG h fun _ h=>(oG h fun _ h=>⟨rfl,(oG h fun _ h=>(oG h fun _ h=>(oG h fun _ h=>(oG h fun _ h=>⟨(aJ h_values (wrap64 ((values.length:Int)-Z2))),⟨(aJ h_values (wrap64 ((values.length:Int)-Z1))),(oL h fun _ _ h=>⟨rfl,(oG h fun _ h=>h)⟩)⟩⟩))))⟩))⟩) fun _ h=>(oC h (fun _ h=>⟨(Int.natCast_nonneg 0),(oG h fun _ h=>(oG h fun _ h=>⟨rfl,(oG h fun _ h=>(oG h fun _ h=>(oG h fun _ h=>(oG h fun _ h=>⟨(aJ h_values (wrap64 ((values.length:Int)-Z2))),⟨(aJ h_values (wrap64 ((values.length:Int)-Z1))),(oL h fun _ _ h=>⟨rfl,(oG h fun _ h=>h)⟩)⟩⟩))))⟩))⟩) fun _ h=>(oC h (fun _ h=>⟨(Int.natCast_nonneg 0),(oG h fun _ h=>(oG h fun _ h=>⟨rfl,(oG h fun _ h=>(oG h fun _ h=>⟨(aJ h_values (wrap64 ((values.length:Int)-Z1))),(oL h fun _ _ h=>⟨rfl,(oG h fun _ h=>h)⟩)⟩))⟩))⟩) fun _ h=>⟨(Int.natCast_nonneg 0),(oG h fun _ h=>(oG h fun _ h=>⟨rfl,(oG h fun _ h=>(oG h fun _ h=>(oL h fun _ _ h=>⟨rfl,(oG h fun _ h=>h)⟩)))⟩))⟩)))))))
def c149:Con:=⟨[.dat TVS,.dat TPS],fun args hp K=>g2 (pD TVS) (pD TPS) (fun row e=>(Sm TVS row)/\(Sm TPS e)/\(M.jw row.length e)/\(LD (M.dY row e) fun r=>K (.data aa r) [])) args hp,.plain,false⟩
abbrev C149:Ctx:=cx [(197,c197)] 24 [] 0 false
def ann149:=an [[kp 19],[kp 51],[kp 115],[kp 2163],[kp 115],[kp 115],[kp 16]] [[kp 48]]
abbrev s149_0 (row:LV) (e:LPt) (i0:Int) (v0:LV):St:=⟨[(0,.data TVS row),(1,.data TPS e),(4,.ptr 4 0),(5,.own 7 none),(6,dI i0)],[(4,.box [dI Z0,dI Z0,.data Ty.str (⟨#[]⟩:ByteArray)]),(7,.arr .sh aa v0)]⟩
abbrev LP149_0 (row:LV) (e:LPt) (m:Nat) (st_:St) (K:KX):Prop:=True/\cU (t:=aE) (s149_0 row e) e (F.eN row e) (fun v0:LV=>True) (bB (fun v0:LV=>True->K (.exit 0) (⟨[(4,.ptr 4 0),(5,.own 7 none)],[(4,.box [dI Z0,dI Z0,.data Ty.str (⟨#[]⟩:ByteArray)]),(7,.arr .sh aa v0)]⟩:St)) (fun _=>False)) m st_
def L149 (row:LV) (e:LPt):bD:=lp1 0 (LP149_0 row e)
theorem vc149 (row:LV) (e:LPt) (K:KA):vcT C149 (L149 row e) ann149 f149 [.data TVS row,.data TPS e] [] (.dat aa) K =
 (∃m_,True/\cU (t:=aE) (s149_0 row e) e (F.eN row e) (fun v0:LV=>True) (bB (fun v0:LV=>True->(0<=Z0)/\(Z0<(v0.length:Int))/\K (.data aa (nV v0 Z0)) []) (fun _=>False)) m_ (s149_0 row e Z0 [])):=by kernel_rfl
theorem lvc149_0 (row:LV) (e:LPt)  (i0:Int) (v0:LV) (m:Nat) (K:KX):lvT C149 (L149 row e) ann149 f149 0 0 (s149_0 row e i0 v0) m K =
 (cond (decide (i0<(e.length:Int))) ((0<=i0)/\(i0<(e.length:Int))/\(Sm TVS row)/\(Sm TVS v0)/\(Sm aE (nP e i0))/\(v0.length<=1000)/\(M.takes (nP e i0)<=(v0.length:Int))/\(1<=(nP e i0).1/\(nP e i0).1<=8)/\(M.mZ (nP e i0) row.length)/\(LD (M.eY row v0 (nP e i0)) fun r1=>(nxT (LP149_0 row e) m K (s149_0 row e (wrap64 (i0+Z1)) r1)))) (K (.exit 0) (⟨[(4,.ptr 4 0),(5,.own 7 none)],[(4,.box [dI Z0,dI Z0,.data Ty.str (⟨#[]⟩:ByteArray)]),(7,.arr .sh aa v0)]⟩:St))):=by kernel_rfl
theorem con149_ok:aV P 149 c149:=bf C149 func149 (kC con197_ok kN) fun args hp K h0=>by
 obtain⟨row,e,rfl,rfl,h_row,h_e,p0,hK⟩:=g2e h0
 have h:ok (F.pK row e) (fun r=>K (.data aa r) []):=aC (F.xq row e h_row h_e p0) (hK _ rfl)
 refine⟨rfl,ann149,(L149 row e),(.dat aa),(bt (i0:=0) (by kernel_rfl) ?_),?_⟩
 ·rintro _ _ K ⟨hc0,i0,v0,rfl,hl0,rfl,hv0,h⟩
  exact cast (lvc149_0 _ _ _ _ _ _).symm (bW (t:=aE) hl0 h (fun ht0 h=>⟨hl0,⟨ht0,⟨h_row,(oG h fun _ h=>⟨(aJ h_e i0),(oG h fun _ h=>(oG h fun _ h=>(oG h fun _ h=>(oG h fun _ h=>(oL h fun _ _ h=>(bU (t:=aE) (fun _ hm=>⟨hc0,hm⟩) _ rfl hl0 ht0 (bu h_e) trivial h))))))⟩)⟩⟩⟩) fun h=>(h trivial))
 ·rw[vc149]
  exact(bN (t:=aE) (fun m hm=>⟨trivial,hm⟩) _ rfl trivial (bp h (fun v0 h hv0=>⟨(Int.natCast_nonneg 0),(oG h fun _ h=>h)⟩) (fun _ h=>h.elim)))
def c151:Con:=⟨[.dat TVS,.dat (Ty.sl az)],fun args hp K=>g2 (pD TVS) (pD (Ty.sl az)) (fun row list=>(Sm TVS row)/\(Sm (Ty.sl az) list)/\(M.eV row list)/\(LD (M.taken row list) fun r=>K (.own 0 none) [(0,.arr .sh aa r)])) args hp,.plain,false⟩
abbrev C151:Ctx:=cx [] 25 [] 0 false
def ann151:=an [[kp 3],[kp 35],[kp 99],[kp 2147],[kp 99],[kp 99],[kp 16]] [[kp 32]]
abbrev s151_0 (row:LV) (list:LI) (i0:Int) (v0:LV):St:=⟨[(0,.data TVS row),(1,.data (Ty.sl az) list),(5,.own 7 none),(6,dI i0)],[(7,.arr .sh aa v0)]⟩
abbrev LP151_0 (row:LV) (list:LI) (m:Nat) (st_:St) (K:KX):Prop:=True/\cU (t:=az) (s151_0 row list) list (F.iI row list) (fun v0:LV=>True) (bB (fun v0:LV=>True->K (.exit 0) (⟨[(5,.own 7 none)],[(7,.arr .sh aa v0)]⟩:St)) (fun _=>False)) m st_
def L151 (row:LV) (list:LI):bD:=lp1 0 (LP151_0 row list)
theorem vc151 (row:LV) (list:LI) (K:KA):vcT C151 (L151 row list) ann151 f151 [.data TVS row,.data (Ty.sl az) list] [] .raw K =
 (∃m_,True/\cU (t:=az) (s151_0 row list) list (F.iI row list) (fun v0:LV=>True) (bB (fun v0:LV=>True->K (.own 0 none) [(0,.arr .sh aa v0)]) (fun _=>False)) m_ (s151_0 row list Z0 [])):=by kernel_rfl
theorem lvc151_0 (row:LV) (list:LI)  (i0:Int) (v0:LV) (m:Nat) (K:KX):lvT C151 (L151 row list) ann151 f151 0 0 (s151_0 row list i0 v0) m K =
 (cond (decide (i0<(list.length:Int))) ((0<=i0)/\(i0<(list.length:Int))/\(0<=(nI list i0))/\((nI list i0)<(row.length:Int))/\((v0.length+[(nV row (nI list i0))].length) * 32<=lim)/\(nxT (LP151_0 row list) m K (s151_0 row list (wrap64 (i0+Z1)) (v0++[(nV row (nI list i0))])))) (K (.exit 0) (⟨[(5,.own 7 none)],[(7,.arr .sh aa v0)]⟩:St))):=by kernel_rfl
theorem con151_ok:aV P 151 c151:=bf C151 func151 kN fun args hp K h0=>by
 obtain⟨row,list,rfl,rfl,h_row,h_list,p0,hK⟩:=g2e h0
 have h:ok (F.pF row list) (fun r=>K (.own 0 none) [(0,.arr .sh aa r)]):=aC (F.wS row list h_row h_list p0) (hK _ rfl)
 refine⟨rfl,ann151,(L151 row list),.raw,(bt (i0:=0) (by kernel_rfl) ?_),?_⟩
 ·rintro _ _ K ⟨hc0,i0,v0,rfl,hl0,rfl,hv0,h⟩
  exact cast (lvc151_0 _ _ _ _ _ _).symm (bW (t:=az) hl0 h (fun ht0 h=>⟨hl0,⟨ht0,(oG h fun _ h=>(oG h fun _ h=>(oG h fun _ h=>(bU (t:=az) (fun _ hm=>⟨hc0,hm⟩) _ rfl hl0 ht0 (bu h_list) trivial h))))⟩⟩) fun h=>(h trivial))
 ·rw[vc151]
  exact(bN (t:=az) (fun m hm=>⟨trivial,hm⟩) _ rfl trivial (bp h (fun v0 h hv0=>h) (fun _ h=>h.elim)))
def c152:Con:=⟨[.dat TVS],fun args hp K=>g1 (pD TVS) (fun values=>(Sm TVS values)/\K (dB (M.fq values)) []) args hp,.plain,false⟩
abbrev C152:Ctx:=cx [] 16 [] 0 false
def ann152:=an [[kp 1],[kp 9],[kp 137],[kp 9],[kp 32777],[kp 4],[kp 4]] [[kp 0]]
abbrev s152_0 (values:LV) (i0:Int) (v0:Unit):St:=⟨[(0,.data TVS values),(3,dI i0)],[]⟩
abbrev LP152_0 (values:LV) (m:Nat) (st_:St) (K:KX):Prop:=True/\cU (t:=aa) (s152_0 values) values (F.iJ values) (fun v0:Unit=>True) (bB (fun v0:Unit=>True->K (.exit 0) (⟨[],[]⟩:St)) (fun q0:Unit=>K .ret (⟨[(2,dB true)],[]⟩:St))) m st_
def L152 (values:LV):bD:=lp1 0 (LP152_0 values)
theorem vc152 (values:LV) (K:KA):vcT C152 (L152 values) ann152 f152 [.data TVS values] [] (.dat Ty.bool) K =
 (∃m_,True/\cU (t:=aa) (s152_0 values) values (F.iJ values) (fun v0:Unit=>True) (bB (fun v0:Unit=>True->K (dB false) []) (fun q0:Unit=>K (dB true) [])) m_ (s152_0 values Z0 ())):=by kernel_rfl
theorem lvc152_0 (values:LV)  (i0:Int) (v0:Unit) (m:Nat) (K:KX):lvT C152 (L152 values) ann152 f152 0 0 (s152_0 values i0 v0) m K =
 (cond (decide (i0<(values.length:Int))) ((0<=i0)/\(i0<(values.length:Int))/\cond (decide ((nV values i0).1=Z0)) (K .ret (⟨[(2,dB true)],[]⟩:St)) (nxT (LP152_0 values) m K (s152_0 values (wrap64 (i0+Z1)) ()))) (K (.exit 0) (⟨[],[]⟩:St))):=by kernel_rfl
theorem con152_ok:aV P 152 c152:=bf C152 func152 kN fun args hp K h0=>by
 obtain⟨values,rfl,rfl,h_values,hK⟩:=g1e h0
 have h:ok (F.oJ values) (fun r=>K (dB r) []):=aC (F.xb values h_values) hK
 refine⟨rfl,ann152,(L152 values),(.dat Ty.bool),(bt (i0:=0) (by kernel_rfl) ?_),?_⟩
 ·rintro _ _ K ⟨hc0,i0,v0,rfl,hl0,rfl,hv0,h⟩
  exact cast (lvc152_0 _ _ _ _ _).symm (bW (t:=aa) hl0 h (fun ht0 h=>⟨hl0,⟨ht0,(oC h (fun _ h=>h) fun _ h=>(bU (t:=aa) (fun _ hm=>⟨hc0,hm⟩) _ rfl hl0 ht0 (bu h_values) trivial h))⟩⟩) fun h=>(h trivial))
 ·rw[vc152]
  exact(bN (t:=aa) (fun m hm=>⟨trivial,hm⟩) _ rfl trivial (bp h (fun v0 h hv0=>h) (fun q0 h=>h)))
def c153:Con:=⟨[.dat TVS,.dat TVS],fun args hp K=>g2 (pD TVS) (pD TVS) (fun a b=>(Sm TVS a)/\(Sm TVS b)/\K (dB (decide (a=b))) []) args hp,.plain,false⟩
abbrev C153:Ctx:=cx [] 26 [] 0 false
def ann153:=an [[kp 3],[kp 1027],[kp 16],[kp 35],[kp 16419],[kp 35],[kp 33554467],[kp 16],[kp 16]] [[kp 0]]
abbrev s153_0 (a:LV) (b:LV) (i0:Int) (v0:Unit):St:=⟨[(0,.data TVS a),(1,.data TVS b),(5,dI i0)],[]⟩
abbrev LP153_0 (a:LV) (b:LV) (m:Nat) (st_:St) (K:KX):Prop:=True/\cr (s153_0 a b) Z0 (a.length:Int) (F.jj a b) (fun v0:Unit=>True) (bB (fun v0:Unit=>True->K (.exit 0) (⟨[],[]⟩:St)) (fun q0:Unit=>K .ret (⟨[(4,dB false)],[]⟩:St))) m st_
def L153 (a:LV) (b:LV):bD:=lp1 0 (LP153_0 a b)
theorem vc153 (a:LV) (b:LV) (K:KA):vcT C153 (L153 a b) ann153 f153 [.data TVS a,.data TVS b] [] (.dat Ty.bool) K =
 (cond (!decide ((a.length:Int)=(b.length:Int))) (K (dB false) []) (∃m_,True/\cr (s153_0 a b) Z0 (a.length:Int) (F.jj a b) (fun v0:Unit=>True) (bB (fun v0:Unit=>True->K (dB true) []) (fun q0:Unit=>K (dB false) [])) m_ (s153_0 a b Z0 ()))):=by kernel_rfl
theorem lvc153_0 (a:LV) (b:LV)  (i0:Int) (v0:Unit) (m:Nat) (K:KX):lvT C153 (L153 a b) ann153 f153 0 0 (s153_0 a b i0 v0) m K =
 (cond (decide (i0<(a.length:Int))) ((0<=i0)/\(i0<(a.length:Int))/\(0<=i0)/\(i0<(b.length:Int))/\cond (!(Ty.beq aa (nV a i0) (nV b i0))) (K .ret (⟨[(4,dB false)],[]⟩:St)) (nxT (LP153_0 a b) m K (s153_0 a b (wrap64 (i0+Z1)) ()))) (K (.exit 0) (⟨[],[]⟩:St))):=by kernel_rfl
theorem con153_ok:aV P 153 c153:=bf C153 func153 kN fun args hp K h0=>by
 obtain⟨a,b,rfl,rfl,h_a,h_b,hK⟩:=g2e h0
 have h:ok (F.wj a b) (fun r=>K (dB r) []):=aC (F.ya a b h_a h_b) hK
 refine⟨rfl,ann153,(L153 a b),(.dat Ty.bool),(bt (i0:=0) (by kernel_rfl) ?_),?_⟩
 ·rintro _ _ K ⟨hc0,i0,v0,rfl,hl0,rfl,hv0,h⟩
  exact cast (lvc153_0 _ _ _ _ _ _).symm (bJ h (fun ht0 h=>⟨hl0,⟨ht0,⟨hl0,(oG h fun _ h=>(oC h (fun _ h=>h) fun _ h=>(aS (fun _ hm=>⟨hc0,hm⟩) _ rfl hl0 gy ht0 (bu h_a) trivial h)))⟩⟩⟩) fun h=>(h trivial))
 ·rw[vc153]
  exact(oC h (fun _ h=>h) fun _ h=>(bq (fun m hm=>⟨trivial,hm⟩) Z0 _ rfl (Int.natCast_nonneg 0) trivial (bp h (fun v0 h hv0=>h) (fun q0 h=>h))))
def c82:Con:=⟨[.dat TTb,.dat ah],fun args hp K=>g2 (pD TTb) (pD ah) (fun tables b=>(Sm TTb tables)/\(Sm ah b)/\((M.aH tables&&M.aO tables b)=true)/\K (dI (M.broken tables b)) []) args hp,.bor,false⟩
abbrev C82:Ctx:=cx [(149,c149),(150,c150),(151,c151),(152,c152),(153,c153)] 110 [] 0 false
def ann82:=an [[.fixRow 3 ah,kp 9],[kp 41],[kp 105],[kp 2097257],[kp 105],[kp 33554537],[kp 100663401],[kp 68719476841],[kp 16],[kp 274911461481],[kp 233],[.freeze 46,kp 489],[kp 18014398509482473],[kp 489],[kp 36893488147419103721],[kp 16],[.keep [0,3,5,6,67]],[kp 617],[kp 1641],[kp 3689],[kp 1237940039285380274899127913],[kp 3689],[kp 3689],[.keep [0,3,5,6,108]],[kp 16],[kp 16]] [[kp 0],[],[],[kp 105],[],[kp 1129]]
abbrev s82_0 (tables:LTb) (b:ah.D) (i0:Int) (v0:Unit):St:=⟨[(0,.data TTb tables),(3,.adr ah b),(5,.data (Ty.sl TVS) (nT tables b.2.1).2.1),(6,dI i0)],[]⟩
abbrev LP82_0 (tables:LTb) (b:ah.D) (m:Nat) (st_:St) (K:KX):Prop:=True/\cr (s82_0 tables b) Z0 ((nT tables b.2.1).2.1.length:Int) (F.gu tables b) (fun v0:Unit=>True) (bB (fun v0:Unit=>True->K (.exit 0) (⟨[],[]⟩:St)) (fun q0:Int=>K .ret (⟨[(4,dI q0)],[]⟩:St))) m st_
abbrev s82_3 (tables:LTb) (b:ah.D) (c3_0:Int) (c3_1:LV) (v3:Int):St:=⟨[(0,.data TTb tables),(3,.adr ah b),(5,.data (Ty.sl TVS) (nT tables b.2.1).2.1),(6,dI c3_0),(7,.data TVS c3_1),(8,dI v3)],[]⟩
abbrev LP82_3 (tables:LTb) (b:ah.D) (m:Nat) (st_:St) (K:KX):Prop:=∃c3_0:Int,∃c3_1:LV,(Sm TVS c3_1/\True)/\eJ (s82_3 tables b c3_0 c3_1) (F.fc tables b c3_0 c3_1) (fun v3:Int=>True) (bB (fun e3:Unit=>True->K (.exit 3) (⟨[(0,.data TTb tables),(3,.adr ah b),(5,.data (Ty.sl TVS) (nT tables b.2.1).2.1),(6,dI c3_0)],[]⟩:St)) (fun q3:Unit=>K .ret (⟨[(4,dI c3_0)],[]⟩:St))) m st_
abbrev s82_5 (tables:LTb) (b:ah.D) (c5_0:Int) (c5_1:LV) (v5:Bool×Int):St:=⟨[(0,.data TTb tables),(3,.adr ah b),(5,.data (Ty.sl TVS) (nT tables b.2.1).2.1),(6,dI c5_0),(9,.data TVS c5_1),(10,dB v5.1),(11,dI v5.2)],[]⟩
abbrev LP82_5 (tables:LTb) (b:ah.D) (m:Nat) (st_:St) (K:KX):Prop:=∃c5_0:Int,∃c5_1:LV,(Sm TVS c5_1/\True)/\eJ (s82_5 tables b c5_0 c5_1) (F.gr tables b c5_0 c5_1) (fun v5:Bool×Int=>True) (fun e5:Bool=>True->K (.exit 5) (⟨[(0,.data TTb tables),(3,.adr ah b),(5,.data (Ty.sl TVS) (nT tables b.2.1).2.1),(6,dI c5_0),(10,dB e5)],[]⟩:St)) m st_
def L82 (tables:LTb) (b:ah.D):bD:=fun id m st_ K=>match id with
 | 0=>LP82_0 tables b m st_ K
 | 3=>LP82_3 tables b m st_ K
 | 5=>LP82_5 tables b m st_ K
 | _=>False
theorem vc82 (tables:LTb) (b:ah.D) (K:KA):vcT C82 (L82 tables b) ann82 f82 [.data TTb tables,.data ah b] [] (.dat az) K =
 ((0<=b.2.1)/\(b.2.1<(tables.length:Int))/\(∃m_,True/\cr (s82_0 tables b) Z0 ((nT tables b.2.1).2.1.length:Int) (F.gu tables b) (fun v0:Unit=>True) (bB (fun v0:Unit=>True->K (dI (-1:Int)) []) (fun q0:Int=>K (dI q0) [])) m_ (s82_0 tables b Z0 ()))):=by kernel_rfl
theorem lvc82_0 (tables:LTb) (b:ah.D)  (i0:Int) (v0:Unit) (m:Nat) (K:KX):lvT C82 (L82 tables b) ann82 f82 0 0 (s82_0 tables b i0 v0) m K =
 (cond (decide (i0<((nT tables b.2.1).2.1.length:Int))) (cond (decide (b.1=Z3)) ((0<=i0)/\(i0<((nT tables b.2.1).2.1.length:Int))/\(Sm TVS (nth (t:=TVS) (nT tables b.2.1).2.1 i0))/\(Sm TPS b.2.2.2.2.2.2.1)/\(M.jw (nth (t:=TVS) (nT tables b.2.1).2.1 i0).length b.2.2.2.2.2.2.1)/\(LD (M.dY (nth (t:=TVS) (nT tables b.2.1).2.1 i0) b.2.2.2.2.2.2.1) fun r1=>(LD (M.valueOf Z0) fun r2=>cond (Ty.beq aa r1 r2) (K .ret (⟨[(4,dI i0)],[]⟩:St)) (nxT (LP82_0 tables b) m K (s82_0 tables b (wrap64 (i0+Z1)) ()))))) (cond (decide (b.1=Z1)) ((0<=i0)/\(i0<((nT tables b.2.1).2.1.length:Int))/\(Sm TVS (nth (t:=TVS) (nT tables b.2.1).2.1 i0))/\(Sm (Ty.sl az) b.2.2.1)/\(M.eV (nth (t:=TVS) (nT tables b.2.1).2.1 i0) b.2.2.1)/\(LD (M.taken (nth (t:=TVS) (nT tables b.2.1).2.1 i0) b.2.2.1) fun r3=>(∃m_,∃c3_0:Int,∃c3_1:LV,(Sm TVS c3_1/\True)/\eJ (s82_3 tables b c3_0 c3_1) (F.fc tables b c3_0 c3_1) (fun v3:Int=>True) (bB (fun e3:Unit=>True->(nxT (LP82_0 tables b) m K (s82_0 tables b (wrap64 (c3_0+Z1)) ()))) (fun q3:Unit=>K .ret (⟨[(4,dI c3_0)],[]⟩:St))) m_ (s82_3 tables b i0 r3 Z0)))) (cond (decide (b.1=Z2)) ((0<=i0)/\(i0<((nT tables b.2.1).2.1.length:Int))/\(Sm TVS (nth (t:=TVS) (nT tables b.2.1).2.1 i0))/\(Sm (Ty.sl az) b.2.2.1)/\(M.eV (nth (t:=TVS) (nT tables b.2.1).2.1 i0) b.2.2.1)/\(LD (M.taken (nth (t:=TVS) (nT tables b.2.1).2.1 i0) b.2.2.1) fun r4=>(Sm TVS r4)/\(∃m_,∃c5_0:Int,∃c5_1:LV,(Sm TVS c5_1/\True)/\eJ (s82_5 tables b c5_0 c5_1) (F.gr tables b c5_0 c5_1) (fun v5:Bool×Int=>True) (fun e5:Bool=>True->cond (!e5) (K .ret (⟨[(4,dI c5_0)],[]⟩:St)) (nxT (LP82_0 tables b) m K (s82_0 tables b (wrap64 (c5_0+Z1)) ()))) m_ (s82_5 tables b i0 r4 ((M.fq r4),Z0))))) (nxT (LP82_0 tables b) m K (s82_0 tables b (wrap64 (i0+Z1)) ()))))) (K (.exit 0) (⟨[],[]⟩:St))):=by kernel_rfl
abbrev S82l3_0 (tables:LTb) (b:ah.D) (c3_0:Int) (c3_1:LV) (v3:Int) (m:Nat) (K:KX):Prop:=K (.exit 3) (⟨[(0,.data TTb tables),(3,.adr ah b),(5,.data (Ty.sl TVS) (nT tables b.2.1).2.1),(6,dI c3_0)],[]⟩:St)
theorem lvc82_1 (tables:LTb) (b:ah.D) (c3_0:Int) (c3_1:LV) (v3:Int) (m:Nat) (K:KX):lvT C82 (L82 tables b) ann82 f82 1 3 (s82_3 tables b c3_0 c3_1 v3) m K =
 (cond ((decide (v3<c3_0))==true) ((Sm TVS c3_1)/\cond (!(M.fq c3_1)) ((0<=v3)/\(v3<((nT tables b.2.1).2.1.length:Int))/\(Sm TVS (nth (t:=TVS) (nT tables b.2.1).2.1 v3))/\(Sm (Ty.sl az) b.2.2.1)/\(M.eV (nth (t:=TVS) (nT tables b.2.1).2.1 v3) b.2.2.1)/\(LD (M.taken (nth (t:=TVS) (nT tables b.2.1).2.1 v3) b.2.2.1) fun r5=>(Sm TVS r5)/\(Sm TVS c3_1)/\cond (decide (r5=c3_1)) (K .ret (⟨[(4,dI c3_0)],[]⟩:St)) (nxT (LP82_3 tables b) m K (s82_3 tables b c3_0 c3_1 (wrap64 (v3+Z1)))))) (S82l3_0  tables b c3_0 c3_1 v3 m K)) (S82l3_0  tables b c3_0 c3_1 v3 m K)):=by kernel_rfl
abbrev S82l5_0 (tables:LTb) (b:ah.D) (c5_0:Int) (c5_1:LV) (v5:Bool×Int) (m:Nat) (K:KX):Prop:=K (.exit 5) (⟨[(0,.data TTb tables),(3,.adr ah b),(5,.data (Ty.sl TVS) (nT tables b.2.1).2.1),(6,dI c5_0),(10,dB v5.1)],[]⟩:St)
theorem lvc82_2 (tables:LTb) (b:ah.D) (c5_0:Int) (c5_1:LV) (v5:Bool×Int) (m:Nat) (K:KX):lvT C82 (L82 tables b) ann82 f82 2 5 (s82_5 tables b c5_0 c5_1 v5) m K =
 ((0<=b.2.2.2.1)/\(b.2.2.2.1<(tables.length:Int))/\cond ((decide (v5.2<((nT tables b.2.2.2.1).2.1.length:Int)))==true) (cond (!v5.1) ((0<=b.2.2.2.1)/\(b.2.2.2.1<(tables.length:Int))/\(0<=v5.2)/\(v5.2<((nT tables b.2.2.2.1).2.1.length:Int))/\(Sm TVS (nth (t:=TVS) (nT tables b.2.2.2.1).2.1 v5.2))/\(Sm (Ty.sl az) b.2.2.2.2.1)/\(M.eV (nth (t:=TVS) (nT tables b.2.2.2.1).2.1 v5.2) b.2.2.2.2.1)/\(LD (M.taken (nth (t:=TVS) (nT tables b.2.2.2.1).2.1 v5.2) b.2.2.2.2.1) fun r6=>(Sm TVS r6)/\(Sm TVS c5_1)/\(nxT (LP82_5 tables b) m K (s82_5 tables b c5_0 c5_1 ((decide (r6=c5_1)),wrap64 (v5.2+Z1)))))) (S82l5_0  tables b c5_0 c5_1 v5 m K)) (S82l5_0  tables b c5_0 c5_1 v5 m K)):=by kernel_rfl
theorem con82_ok:aV P 82 c82:=bf C82 func82 (kC con149_ok (kC con150_ok (kC con151_ok (kC con152_ok (kC con153_ok kN))))) fun args hp K h0=>by
 obtain⟨tables,b,rfl,rfl,h_tables,h_b,p0,hK⟩:=g2e h0
 have h:ok (F.mG tables b) (fun r=>K (dI r) []):=aC (F.uj tables b h_tables h_b p0) hK
 refine⟨rfl,ann82,(L82 tables b),(.dat az),(HO (i0:=0) (i1:=3) (i2:=5) (by kernel_rfl) ?_ ?_ ?_),?_⟩
 ·rintro _ _ K ⟨hc0,i0,v0,rfl,hl0,rfl,hv0,h⟩
  exact cast (lvc82_0 _ _ _ _ _ _).symm (bJ h (fun ht0 h=>(oC h (fun _ h=>⟨hl0,⟨ht0,⟨(aJ (aJ h_tables b.2.1).2.1 i0),⟨h_b.2.2.2.2.2.2.1,(oG h fun _ h=>(oL h fun _ _ h=>(oL h fun _ _ h=>(oC h (fun _ h=>h) fun _ h=>(aS (fun _ hm=>⟨hc0,hm⟩) _ rfl hl0 gy ht0 (bu (aJ h_tables b.2.1).2.1) trivial h)))))⟩⟩⟩⟩) fun _ h=>(oC h (fun _ h=>⟨hl0,⟨ht0,⟨(aJ (aJ h_tables b.2.1).2.1 i0),⟨h_b.2.2.1,(oG h fun _ h=>(oL h fun r3 er3 h=>(cv (fun m hm=>⟨i0,r3,⟨(gH er3 (M.gd (aJ (aJ h_tables b.2.1).2.1 i0) h_b.2.2.1)),trivial⟩,hm⟩) _ rfl trivial (bp h (fun e3 h hv3=>(aS (fun _ hm=>⟨hc0,hm⟩) _ rfl hl0 gy ht0 (bu (aJ h_tables b.2.1).2.1) trivial h)) (fun q3 h=>h)))))⟩⟩⟩⟩) fun _ h=>(oC h (fun _ h=>⟨hl0,⟨ht0,⟨(aJ (aJ h_tables b.2.1).2.1 i0),⟨h_b.2.2.1,(oG h fun _ h=>(oL h fun r4 er4 h=>⟨(gH er4 (M.gd (aJ (aJ h_tables b.2.1).2.1 i0) h_b.2.2.1)),(cv (fun m hm=>⟨i0,r4,⟨(gH er4 (M.gd (aJ (aJ h_tables b.2.1).2.1 i0) h_b.2.2.1)),trivial⟩,hm⟩) _ rfl trivial (gU h (fun e5 h hv5=>(oC h (fun _ h=>h) fun _ h=>(aS (fun _ hm=>⟨hc0,hm⟩) _ rfl hl0 gy ht0 (bu (aJ h_tables b.2.1).2.1) trivial h)))))⟩))⟩⟩⟩⟩) fun _ h=>(aS (fun _ hm=>⟨hc0,hm⟩) _ rfl hl0 gy ht0 (bu (aJ h_tables b.2.1).2.1) trivial h))))) fun h=>(h trivial))
 ·rintro _ _ K ⟨c3_0,c3_1,hc3,v3,rfl,hv3,h⟩
  exact cast (lvc82_1 _ _ _ _ _ _ _).symm (cV h (fun m1 hm3 h=>(oC h (fun _ h=>⟨hc3.1,(oC h (fun _ h=>(oG h fun _ h=>(oG h fun _ h=>⟨(aJ (aJ h_tables b.2.1).2.1 v3),⟨h_b.2.2.1,(oG h fun _ h=>(oL h fun _ er5 h=>⟨(gH er5 (M.gd (aJ (aJ h_tables b.2.1).2.1 v3) h_b.2.2.1)),⟨hc3.1,(oC h (fun _ h=>h) fun _ h=>(bR (fun _ hm=>⟨c3_0,c3_1,hc3,hm⟩) hm3 _ rfl trivial h))⟩⟩))⟩⟩))) fun _ h=>((cG h :) trivial))⟩) fun _ h=>((cG h :) trivial))))
 ·rintro _ _ K ⟨c5_0,c5_1,hc5,v5,rfl,hv5,h⟩
  exact cast (lvc82_2 _ _ _ _ _ _ _).symm (cV h (fun m1 hm5 h=>(oG h fun g1 h=>(oG h fun g2 h=>(oC h (fun _ h=>(oC h (fun _ h=>⟨g1,⟨g2,(oG h fun _ h=>(oG h fun _ h=>⟨(aJ (aJ h_tables b.2.2.2.1).2.1 v5.2),⟨h_b.2.2.2.2.1,(oG h fun _ h=>(oL h fun _ er6 h=>⟨(gH er6 (M.gd (aJ (aJ h_tables b.2.2.2.1).2.1 v5.2) h_b.2.2.2.2.1)),⟨hc5.1,(bR (fun _ hm=>⟨c5_0,c5_1,hc5,hm⟩) hm5 _ rfl trivial h)⟩⟩))⟩⟩))⟩⟩) fun _ h=>((cG h :) trivial))) fun _ h=>((cG h :) trivial))))))
 ·rw[vc82]
  exact(oG h fun _ h=>(oG h fun _ h=>(bq (fun m hm=>⟨trivial,hm⟩) Z0 _ rfl (Int.natCast_nonneg 0) trivial (bp h (fun v0 h hv0=>h) (fun q0 h=>h)))))
def c109:Con:=⟨[.dat TTb,.dat ah],fun args hp K=>g2 (pD TTb) (pD ah) (fun tables b=>(Sm TTb tables)/\(Sm ah b)/\K (dI (M.aK tables b)) []) args hp,.bor,false⟩
abbrev C109:Ctx:=cx [(80,c80),(82,c82)] 12 [] 0 false
def ann109:=an [[.fixRow 3 ah,kp 9],[kp 265],[kp 16],[kp 16]] []
theorem vc109 (tables:LTb) (b:ah.D) (K:KA):vcT C109 ay ann109 f109 [.data TTb tables,.data ah b] [] (.dat az) K =
 ((Sm TTb tables)/\(Sm ah b)/\cond (!(M.aH tables&&M.aO tables b)) (K (dI (-2:Int)) []) ((Sm TTb tables)/\(Sm ah b)/\((M.aH tables&&M.aO tables b)=true)/\K (dI (M.broken tables b)) [])):=by kernel_rfl
theorem con109_ok:aV P 109 c109:=bf C109 func109 (kC con80_ok (kC con82_ok kN)) fun args hp K h0=>by
 obtain⟨tables,b,rfl,rfl,h_tables,h_b,hK⟩:=g2e h0
 have h:ok (F.kY tables b) (fun r=>K (dI r) []):=aC (F.sI tables b h_tables h_b) hK
 refine⟨rfl,ann109,ay,(.dat az),(aG (by kernel_rfl)),?_⟩
 ·rw[vc109]
  exact⟨h_tables,⟨h_b,(oC h (fun _ h=>h) fun b_1 h=>⟨h_tables,⟨h_b,⟨(bnf b_1),h⟩⟩⟩)⟩⟩
def c67:Con:=⟨[.any,.dat az],fun args hp K=>hpR (fun b p=>args2 (fun a0 a1=>lD a0 (eP az a1 fun n=>(Sm TBy b)/\(M.aj b)/\(0<=p)/\(p<=1000000000000000)/\(LD (M.pick b p n) fun r=>K (dI r.1) [(1000000,.box [.data TBy b,dI r.2])]))) args []) hp,.plain,true⟩
abbrev C67:Ctx:=cx [] 99 [] 0 false
def ann67:=an [[kp 3],[kp 3],[kp 16777219],[kp 16],[kp 35],[kp 68719476771],[kp 16],[kp 66],[kp 66],[kp 16]] []
abbrev S67_0 (b:LI) (p:Int) (n:Int) (K:KA):Prop:=K (dI Z0) [(1000000,.box [.data TBy b,dI (wrap64 (p+Z1))])]
abbrev S67_1 (b:LI) (p:Int) (n:Int) (K:KA):Prop:=((64:Int)≠0)/\(n≠0)/\K (dI ((mV .xor .i64 (wrap64 (wrap64 (wrap64 (wrap64 ((wrap64 (nth (t:=(Ty.int .u8)) b ((wrap64 (wrap64 (p+Z1)-Z1)).tmod (b.length:Int)))) * (131:Int))+wrap64 ((wrap64 (nth (t:=(Ty.int .u8)) b ((wrap64 (wrap64 ((wrap64 (wrap64 (p+Z1)-Z1)) * (7:Int))+Z3)).tmod (b.length:Int)))) * (1117:Int)))+wrap64 ((wrap64 (wrap64 (p+Z1)-Z1)) * (29:Int)))+wrap64 ((wrap64 ((wrap64 (wrap64 (p+Z1)-Z1)).tdiv (b.length:Int))) * (53:Int)))) (wrap64 ((wrap64 (wrap64 (wrap64 (wrap64 ((wrap64 (nth (t:=(Ty.int .u8)) b ((wrap64 (wrap64 (p+Z1)-Z1)).tmod (b.length:Int)))) * (131:Int))+wrap64 ((wrap64 (nth (t:=(Ty.int .u8)) b ((wrap64 (wrap64 ((wrap64 (wrap64 (p+Z1)-Z1)) * (7:Int))+Z3)).tmod (b.length:Int)))) * (1117:Int)))+wrap64 ((wrap64 (wrap64 (p+Z1)-Z1)) * (29:Int)))+wrap64 ((wrap64 ((wrap64 (wrap64 (p+Z1)-Z1)).tdiv (b.length:Int))) * (53:Int)))).tdiv (64:Int)))).tmod n)) [(1000000,.box [.data TBy b,dI (wrap64 (p+Z1))])]
abbrev S67_2 (b:LI) (p:Int) (n:Int) (K:KA):Prop:=(S67_1 b p n K)
theorem vc67 (b:LI) (p:Int) (n:Int) (K:KA):vcT C67 ay ann67 f67 [.ptr 1000000 0,dI n] [(1000000,.box [.data TBy b,dI p])] (.dat az) K =
 (cond ((decide (n<Z1))==false) (cond (decide ((b.length:Int)=Z0)) (S67_0 b p n K) (cond (decide (wrap64 (wrap64 (p+Z1)-Z1)<(b.length:Int))) ((0<=wrap64 (wrap64 (p+Z1)-Z1))/\(wrap64 (wrap64 (p+Z1)-Z1)<(b.length:Int))/\(n≠0)/\K (dI ((wrap64 (nth (t:=(Ty.int .u8)) b (wrap64 (wrap64 (p+Z1)-Z1)))).tmod n)) [(1000000,.box [.data TBy b,dI (wrap64 (p+Z1))])]) (((b.length:Int)≠0)/\(0<=((wrap64 (wrap64 (p+Z1)-Z1)).tmod (b.length:Int)))/\(((wrap64 (wrap64 (p+Z1)-Z1)).tmod (b.length:Int))<(b.length:Int))/\((b.length:Int)≠0)/\(0<=((wrap64 (wrap64 ((wrap64 (wrap64 (p+Z1)-Z1)) * (7:Int))+Z3)).tmod (b.length:Int)))/\(((wrap64 (wrap64 ((wrap64 (wrap64 (p+Z1)-Z1)) * (7:Int))+Z3)).tmod (b.length:Int))<(b.length:Int))/\((b.length:Int)≠0)/\Q0 (S67_2 b p n K)))) (S67_0 b p n K)):=by kernel_rfl
theorem con67_ok:aV P 67 c67:=bf C67 func67 kN fun args hp K h0=>by
 unfold c67 at h0
 dsimp only at h0
 obtain⟨b,p,rfl,h00⟩:=eC h0
 obtain⟨a0,a1,rfl,_,h1⟩:=br h00
 obtain⟨rfl,h2⟩:=cQ h1
 obtain⟨n,rfl,h3⟩:=bg h2
 obtain⟨h_b,p0,p1,p2,hK⟩:=h3
 have h:ok (F.nZ b p n) (fun r=>K (dI r.1) [(1000000,.box [.data TBy b,dI r.2])]):=aC (F.BD b p n h_b p0 p1 p2) (hK _ rfl)
 refine⟨rfl,ann67,ay,(.dat az),(aG (by kernel_rfl)),?_⟩
 ·rw[vc67]
  exact(oC h (fun _ h=>(oC h (fun _ h=>h) fun _ h=>(oC h (fun _ h=>(oG h fun _ h=>(oG h fun _ h=>(oG h fun _ h=>h)))) fun _ h=>(oG h fun g1 h=>(oG h fun _ h=>(oG h fun _ h=>⟨g1,(oG h fun _ h=>(oG h fun _ h=>⟨g1,(q0 (⟨(by decide),(oG h fun _ h=>h)⟩))⟩))⟩)))))) fun _ h=>h)
def c129:Con:=⟨[.any,.dat az],fun args hp K=>hpR (fun b p=>args2 (fun a0 a1=>lD a0 (eP az a1 fun n=>(Sm TBy b)/\(M.aj b)/\(0<=p)/\(p<=999000000000000)/\(LD (M.odd b p n) fun r=>K (dB r.1) [(1000000,.box [.data TBy b,dI r.2])]))) args []) hp,.plain,true⟩
abbrev C129:Ctx:=cx [(67,c67)] 15 [] 0 false
def ann129:=an [[kp 3],[kp 16]] []
theorem vc129 (b:LI) (p:Int) (n:Int) (K:KA):vcT C129 ay ann129 f129 [.ptr 1000000 0,dI n] [(1000000,.box [.data TBy b,dI p])] (.dat Ty.bool) K =
 (cond ((decide (Z0<n))==true) ((Sm TBy b)/\(M.aj b)/\(0<=p)/\(p<=1000000000000000)/\(LD (M.pick b p n) fun r1=>K (dB (decide (r1.1=wrap64 (n-Z1)))) [(1000000,.box [.data TBy b,dI r1.2])])) (K (dB false) [(1000000,.box [.data TBy b,dI p])])):=by kernel_rfl
theorem con129_ok:aV P 129 c129:=bf C129 func129 (kC con67_ok kN) fun args hp K h0=>by
 unfold c129 at h0
 dsimp only at h0
 obtain⟨b,p,rfl,h00⟩:=eC h0
 obtain⟨a0,a1,rfl,_,h1⟩:=br h00
 obtain⟨rfl,h2⟩:=cQ h1
 obtain⟨n,rfl,h3⟩:=bg h2
 obtain⟨h_b,p0,p1,p2,hK⟩:=h3
 have h:ok (F.rj b p n) (fun r=>K (dB r.1) [(1000000,.box [.data TBy b,dI r.2])]):=aC (F.Cf b p n h_b p0 p1 p2) (hK _ rfl)
 refine⟨rfl,ann129,ay,(.dat Ty.bool),(aG (by kernel_rfl)),?_⟩
 ·rw[vc129]
  exact(oC h (fun _ h=>⟨h_b,⟨p0,⟨p1,(oG h fun _ h=>(oL h fun _ _ h=>h))⟩⟩⟩) fun _ h=>h)
def c184:Con:=⟨[.any,.dat az],fun args hp K=>hpR (fun b p=>args2 (fun a0 a1=>lD a0 (eP az a1 fun n=>(Sm TBy b)/\(M.aj b)/\(0<=p)/\(p<=998000000000000)/\(LD (M.fW b p n) fun r=>K (.own 0 none) [(0,.arr .sh ax r.1),(1000000,.box [.data TBy b,dI r.2])]))) args []) hp,.plain,true⟩
abbrev C184:Ctx:=cx [(67,c67),(129,c129)] 40 [] 0 false
def ann184:=an [[kp 3],[kp 35],[kp 99],[kp 4195],[kp 99],[kp 99],[kp 536870945],[kp 32],[kp 16]] [[kp 35]]
abbrev s184_0 (b:LI) (p:Int) (n:Int) (v0:Int×Int×LC):St:=⟨[(0,.ptr 1000000 0),(1,dI n),(5,.own 7 none),(6,dI v0.1)],[(1000000,.box [.data TBy b,dI v0.2.1]),(7,.arr .sh ax v0.2.2)]⟩
abbrev LP184_0 (b:LI) (p:Int) (n:Int) (m:Nat) (st_:St) (K:KX):Prop:=True/\eJ (s184_0 b p n) (F.fR b p n) (fun v0:Int×Int×LC=>True) (fun e0:Int×LC=>True->K (.exit 0) (⟨[(0,.ptr 1000000 0),(1,dI n),(5,.own 7 none)],[(1000000,.box [.data TBy b,dI e0.1]),(7,.arr .sh ax e0.2)]⟩:St)) m st_
def L184 (b:LI) (p:Int) (n:Int):bD:=lp1 0 (LP184_0 b p n)
theorem vc184 (b:LI) (p:Int) (n:Int) (K:KA):vcT C184 (L184 b p n) ann184 f184 [.ptr 1000000 0,dI n] [(1000000,.box [.data TBy b,dI p])] .raw K =
 ((Sm TBy b)/\(M.aj b)/\(0<=p)/\(p<=1000000000000000)/\(LD (M.pick b p Z3) fun r1=>(∃m_,True/\eJ (s184_0 b p n) (F.fR b p n) (fun v0:Int×Int×LC=>True) (fun e0:Int×LC=>True->(Sm TBy b)/\(M.aj b)/\(0<=e0.1)/\(e0.1<=999000000000000)/\(LD (M.odd b e0.1 n) fun r2=>cond r2.1 ((Sm TBy b)/\(M.aj b)/\(0<=r2.2)/\(r2.2<=1000000000000000)/\(LD (M.pick b r2.2 Z6) fun r3=>((e0.2.length+[(wrap64 (r3.1-Z1),(false,())),(Z1,(false,())),(Z1,(false,()))].length) * 16<=lim)/\K (.own 0 none) [(0,.arr .sh ax (e0.2++[(wrap64 (r3.1-Z1),(false,())),(Z1,(false,())),(Z1,(false,()))])),(1000000,.box [.data TBy b,dI r3.2])])) (K (.own 0 none) [(0,.arr .sh ax e0.2),(1000000,.box [.data TBy b,dI r2.2])]))) m_ (s184_0 b p n (wrap64 (Z1+r1.1),r1.2,[]))))):=by kernel_rfl
theorem lvc184_0 (b:LI) (p:Int) (n:Int)  (v0:Int×Int×LC) (m:Nat) (K:KX):lvT C184 (L184 b p n) ann184 f184 0 0 (s184_0 b p n v0) m K =
 (cond (decide (Z0<v0.1)) (((Sm TBy b)/\(M.aj b)/\(0<=v0.2.1)/\(v0.2.1<=1000000000000000)/\(LD (M.pick b v0.2.1 Z4) fun r4=>(0<=r4.1)/\(r4.1<([Z1,Z1,Z2,Z3].length:Int))/\Q0 ((Sm TBy b)/\(M.aj b)/\(0<=r4.2)/\(r4.2<=1000000000000000)/\(LD (M.pick b r4.2 Z3) fun r5=>((v0.2.2.length+[((nI [Z1,Z1,Z2,Z3] r4.1),((decide (Z0<r5.1)),()))].length) * 16<=lim)/\(nxT (LP184_0 b p n) m K (s184_0 b p n (wrap64 (v0.1-Z1),r5.2,(v0.2.2++[((nI [Z1,Z1,Z2,Z3] r4.1),((decide (Z0<r5.1)),()))]))))))))/\((Sm TBy b)/\(M.aj b)/\(0<=v0.2.1)/\(v0.2.1<=1000000000000000)/\(LD (M.pick b v0.2.1 Z4) fun r4=>((0<=r4.1)/\(r4.1<([Z1,Z1,Z2,Z3].length:Int))/\Q0 ((Sm TBy b)/\(M.aj b)/\(0<=r4.2)/\(r4.2<=1000000000000000)/\(LD (M.pick b r4.2 Z3) fun r5=>((v0.2.2.length+[((nI [Z1,Z1,Z2,Z3] r4.1),((decide (Z0<r5.1)),()))].length) * 16<=lim)/\(nxT (LP184_0 b p n) m K (s184_0 b p n (wrap64 (v0.1-Z1),r5.2,(v0.2.2++[((nI [Z1,Z1,Z2,Z3] r4.1),((decide (Z0<r5.1)),()))])))))))/\((Sm TBy b)/\(M.aj b)/\(0<=r4.2)/\(r4.2<=1000000000000000)/\(LD (M.pick b r4.2 Z3) fun r5=>(0<=r4.1)/\(r4.1<([Z1,Z1,Z2,Z3].length:Int))/\((v0.2.2.length+[((nI [Z1,Z1,Z2,Z3] r4.1),((decide (Z0<r5.1)),()))].length) * 16<=lim)/\(nxT (LP184_0 b p n) m K (s184_0 b p n (wrap64 (v0.1-Z1),r5.2,(v0.2.2++[((nI [Z1,Z1,Z2,Z3] r4.1),((decide (Z0<r5.1)),()))]))))))))) (K (.exit 0) (⟨[(0,.ptr 1000000 0),(1,dI n),(5,.own 7 none)],[(1000000,.box [.data TBy b,dI v0.2.1]),(7,.arr .sh ax v0.2.2)]⟩:St))):=by kernel_rfl
theorem con184_ok:aV P 184 c184:=bf C184 func184 (kC con67_ok (kC con129_ok kN)) fun args hp K h0=>by
 unfold c184 at h0
 dsimp only at h0
 obtain⟨b,p,rfl,h00⟩:=eC h0
 obtain⟨a0,a1,rfl,_,h1⟩:=br h00
 obtain⟨rfl,h2⟩:=cQ h1
 obtain⟨n,rfl,h3⟩:=bg h2
 obtain⟨h_b,p0,p1,p2,hK⟩:=h3
 have h:ok (F.gi b p n) (fun r=>K (.own 0 none) [(0,.arr .sh ax r.1),(1000000,.box [.data TBy b,dI r.2])]):=aC (F.sV b p n h_b p0 p1 p2) (hK _ rfl)
 refine⟨rfl,ann184,(L184 b p n),.raw,(bt (i0:=0) (by kernel_rfl) ?_),?_⟩
 ·rintro _ _ K ⟨hc0,v0,rfl,hv0,h⟩
  exact cast (lvc184_0 _ _ _ _ _ _).symm (cV h (fun m1 hm0 h=>(oC h (fun _ h=>((fun(g1_0:M.aj b)=>(fun(g1_1:0<=v0.2.1)=>(fun(g1_2:v0.2.1<=1000000000000000)=>(fun(g1_3:0<=(M.pick b v0.2.1 Z4).1)=>(fun(g1_4:(M.pick b v0.2.1 Z4).1<([Z1,Z1,Z2,Z3].length:Int))=>(fun(g1_5:0<=(M.pick b v0.2.1 Z4).2)=>(fun(g1_6:(M.pick b v0.2.1 Z4).2<=1000000000000000)=>(fun(g1_7:(v0.2.2.length+[((nI [Z1,Z1,Z2,Z3] (M.pick b v0.2.1 Z4).1),((decide (Z0<(M.pick b (M.pick b v0.2.1 Z4).2 Z3).1)),()))].length) * 16<=lim)=>⟨⟨h_b,⟨g1_0,have g1:=g1_0;⟨g1_1,have g2:=g1_1;⟨g1_2,have g3:=g1_2;(fun r4 er4=>(have g4:0<=r4.1:=(by rw[er4];exact g1_3);⟨g4,(have g5:r4.1<([Z1,Z1,Z2,Z3].length:Int):=(by rw[er4];exact g1_4);⟨g5,(q0 (⟨h_b,⟨g1,(have g6:0<=r4.2:=(by rw[er4];exact g1_5);⟨g6,(have g7:r4.2<=1000000000000000:=(by rw[er4];exact g1_6);⟨g7,(fun r5 er5=>(have g8:(v0.2.2.length+[((nI [Z1,Z1,Z2,Z3] r4.1),((decide (Z0<r5.1)),()))].length) * 16<=lim:=(by rw[er5,er4];exact g1_7);⟨g8,(have h:=(aF (di (aF (aF (aF (aF (di (aF (aF (aF h).2).2).2 r4 er4)).2).2).2).2 r5 er5)).2;(bR (fun _ hm=>⟨hc0,hm⟩) hm0 _ rfl trivial h))⟩))⟩)⟩)⟩⟩))⟩)⟩))⟩⟩⟩⟩,⟨h_b,⟨g1_0,have g9:=g1_0;⟨g1_1,have g10:=g1_1;⟨g1_2,have g11:=g1_2;(fun r4 er4=>⟨(have g12:0<=r4.1:=(by rw[er4];exact g1_3);⟨g12,(have g13:r4.1<([Z1,Z1,Z2,Z3].length:Int):=(by rw[er4];exact g1_4);⟨g13,(q0 (⟨h_b,⟨g9,(have g14:0<=r4.2:=(by rw[er4];exact g1_5);⟨g14,(have g15:r4.2<=1000000000000000:=(by rw[er4];exact g1_6);⟨g15,(fun r5 er5=>(have g16:(v0.2.2.length+[((nI [Z1,Z1,Z2,Z3] r4.1),((decide (Z0<r5.1)),()))].length) * 16<=lim:=(by rw[er5,er4];exact g1_7);⟨g16,(have h:=(aF (di (aF (aF (aF (aF (di (aF (aF (aF h).2).2).2 r4 er4)).2).2).2).2 r5 er5)).2;(bR (fun _ hm=>⟨hc0,hm⟩) hm0 _ rfl trivial h))⟩))⟩)⟩)⟩⟩))⟩)⟩),⟨h_b,⟨g9,(have g17:0<=r4.2:=(by rw[er4];exact g1_5);⟨g17,(have g18:r4.2<=1000000000000000:=(by rw[er4];exact g1_6);⟨g18,(fun r5 er5=>(have g19:0<=r4.1:=(by rw[er4];exact g1_3);⟨g19,(have g20:r4.1<([Z1,Z1,Z2,Z3].length:Int):=(by rw[er4];exact g1_4);⟨g20,(have g21:(v0.2.2.length+[((nI [Z1,Z1,Z2,Z3] r4.1),((decide (Z0<r5.1)),()))].length) * 16<=lim:=(by rw[er5,er4];exact g1_7);⟨g21,(have h:=(aF (di (aF (aF (aF (aF (di (aF (aF (aF h).2).2).2 r4 er4)).2).2).2).2 r5 er5)).2;(bR (fun _ hm=>⟨hc0,hm⟩) hm0 _ rfl trivial h))⟩)⟩)⟩))⟩)⟩)⟩⟩⟩)⟩⟩⟩⟩⟩) (aF (di (aF (aF (aF (aF (di (aF (aF (aF h).2).2).2 _ rfl)).2).2).2).2 _ rfl)).1) (aF (aF (aF (aF (di (aF (aF (aF h).2).2).2 _ rfl)).2).2).2).1) (aF (aF (aF (di (aF (aF (aF h).2).2).2 _ rfl)).2).2).1) (aF (aF (di (aF (aF (aF h).2).2).2 _ rfl)).2).1) (aF (di (aF (aF (aF h).2).2).2 _ rfl)).1) (aF (aF (aF h).2).2).1) (aF (aF h).2).1) (aF h).1)) fun _ h=>((cG h :) trivial))))
 ·rw[vc184]
  exact⟨h_b,⟨p0,⟨p1,(oG h fun _ h=>(oL h fun _ _ h=>(cv (fun m hm=>⟨trivial,hm⟩) _ rfl trivial (gU h (fun e0 h hv0=>⟨h_b,⟨p0,(oG h fun _ h=>(oG h fun _ h=>(oL h fun _ _ h=>(oC h (fun _ h=>⟨h_b,⟨p0,(oG h fun _ h=>(oG h fun _ h=>(oL h fun _ _ h=>(oG h fun _ h=>h))))⟩⟩) fun _ h=>h))))⟩⟩)))))⟩⟩⟩
def c110:Con:=⟨[.dat TVS],fun args hp K=>g1 (pD TVS) (fun row=>(Sm TVS row)/\(LD row fun r=>K (.own 0 none) [(0,.arr .sh aa r)])) args hp,.bor,false⟩
abbrev C110:Ctx:=cx [] 6 [] 0 false
def ann110:=an [[kp 1],[kp 4]] []
theorem vc110 (row:LV) (K:KA):vcT C110 ay ann110 f110 [.data TVS row] [] .raw K =
 (((([]:List aa.D).length+row.length) * 32<=lim)/\K (.own 0 none) [(0,.arr .sh aa ([]++row))]):=by kernel_rfl
theorem con110_ok:aV P 110 c110:=bf C110 func110 kN fun args hp K h0=>by
 obtain⟨row,rfl,rfl,h_row,hK⟩:=g1e h0
 have h:ok (F.zn row) (fun r=>K (.own 0 none) [(0,.arr .sh aa r)]):=aC (F.zT row h_row) (hK _ rfl)
 refine⟨rfl,ann110,ay,.raw,(aG (by kernel_rfl)),?_⟩
 ·rw[vc110]
  exact⟨(oW (jQ aa) h_row rfl),h⟩
def c187:Con:=⟨[.any,.dat ax],fun args hp K=>hpR (fun b p=>args2 (fun a0 a1=>lD a0 (eP ax a1 fun c=>(Sm TBy b)/\(M.aj b)/\(0<=p)/\(p<=998000000000000)/\(LD (M.ko b p c) fun r=>K (.data aa r.1) [(1000000,.box [.data TBy b,dI r.2])]))) args []) hp,.plain,true⟩
abbrev C187:Ctx:=cx [(67,c67)] 31 [] 0 false
def ann187:=an [[.fixRow 3 ax,kp 25],[kp 2073],[kp 16],[kp 16401],[kp 49169],[kp 16],[kp 1048593],[kp 16],[kp 16]] []
theorem vc187 (b:LI) (p:Int) (c:ax.D) (K:KA):vcT C187 ay ann187 f187 [.ptr 1000000 0,.data ax c] [(1000000,.box [.data TBy b,dI p])] (.dat aa) K =
 (cond (c.2.1==true) ((Sm TBy b)/\(M.aj b)/\(0<=p)/\(p<=1000000000000000)/\(LD (M.pick b p Z5) fun r1=>cond (decide (r1.1=Z0)) (K (.data aa (Z0,(Z0,((⟨#[]⟩:ByteArray),())))) [(1000000,.box [.data TBy b,dI r1.2])]) (cond (decide (c.1=Z1)) ((Sm TBy b)/\(M.aj b)/\(0<=r1.2)/\(r1.2<=1000000000000000)/\(LD (M.pick b r1.2 Z4) fun r2=>K (.data aa (Z1,(r2.1,((⟨#[]⟩:ByteArray),())))) [(1000000,.box [.data TBy b,dI r2.2])])) (cond (decide (c.1=Z2)) ((Sm TBy b)/\(M.aj b)/\(0<=r1.2)/\(r1.2<=1000000000000000)/\(LD (M.pick b r1.2 Z4) fun r3=>(0<=r3.1)/\(r3.1<([(⟨#[]⟩:ByteArray),(⟨#[97]⟩:ByteArray),(⟨#[98]⟩:ByteArray),(⟨#[97,98]⟩:ByteArray)].length:Int))/\K (.data aa (Z2,(Z0,((nth (t:=Ty.str) [(⟨#[]⟩:ByteArray),(⟨#[97]⟩:ByteArray),(⟨#[98]⟩:ByteArray),(⟨#[97,98]⟩:ByteArray)] r3.1),())))) [(1000000,.box [.data TBy b,dI r3.2])])) ((Sm TBy b)/\(M.aj b)/\(0<=r1.2)/\(r1.2<=1000000000000000)/\(LD (M.pick b r1.2 Z2) fun r4=>K (.data aa (Z3,(r4.1,((⟨#[]⟩:ByteArray),())))) [(1000000,.box [.data TBy b,dI r4.2])])))))) (cond (decide (c.1=Z1)) ((Sm TBy b)/\(M.aj b)/\(0<=p)/\(p<=1000000000000000)/\(LD (M.pick b p Z4) fun r2=>K (.data aa (Z1,(r2.1,((⟨#[]⟩:ByteArray),())))) [(1000000,.box [.data TBy b,dI r2.2])])) (cond (decide (c.1=Z2)) ((Sm TBy b)/\(M.aj b)/\(0<=p)/\(p<=1000000000000000)/\(LD (M.pick b p Z4) fun r3=>(0<=r3.1)/\(r3.1<([(⟨#[]⟩:ByteArray),(⟨#[97]⟩:ByteArray),(⟨#[98]⟩:ByteArray),(⟨#[97,98]⟩:ByteArray)].length:Int))/\K (.data aa (Z2,(Z0,((nth (t:=Ty.str) [(⟨#[]⟩:ByteArray),(⟨#[97]⟩:ByteArray),(⟨#[98]⟩:ByteArray),(⟨#[97,98]⟩:ByteArray)] r3.1),())))) [(1000000,.box [.data TBy b,dI r3.2])])) ((Sm TBy b)/\(M.aj b)/\(0<=p)/\(p<=1000000000000000)/\(LD (M.pick b p Z2) fun r4=>K (.data aa (Z3,(r4.1,((⟨#[]⟩:ByteArray),())))) [(1000000,.box [.data TBy b,dI r4.2])]))))):=by kernel_rfl
theorem con187_ok:aV P 187 c187:=bf C187 func187 (kC con67_ok kN) fun args hp K h0=>by
 unfold c187 at h0
 dsimp only at h0
 obtain⟨b,p,rfl,h00⟩:=eC h0
 obtain⟨a0,a1,rfl,_,h1⟩:=br h00
 obtain⟨rfl,h2⟩:=cQ h1
 obtain⟨c,rfl,h3⟩:=bg h2
 obtain⟨h_b,p0,p1,p2,hK⟩:=h3
 have h:ok (F.jv b p c) (fun r=>K (.data aa r.1) [(1000000,.box [.data TBy b,dI r.2])]):=aC (F.xm b p c h_b p0 p1 p2) (hK _ rfl)
 refine⟨rfl,ann187,ay,(.dat aa),(aG (by kernel_rfl)),?_⟩
 ·rw[vc187]
  exact(oC h (fun _ h=>⟨h_b,⟨p0,⟨p1,(oG h fun _ h=>(oL h fun _ _ h=>(oC h (fun _ h=>h) fun _ h=>(oC h (fun _ h=>⟨h_b,⟨p0,(oG h fun _ h=>(oG h fun _ h=>(oL h fun _ _ h=>h)))⟩⟩) fun _ h=>(oC h (fun _ h=>⟨h_b,⟨p0,(oG h fun _ h=>(oG h fun _ h=>(oL h fun _ _ h=>(oG h fun _ h=>(oG h fun _ h=>h)))))⟩⟩) fun _ h=>⟨h_b,⟨p0,(oG h fun _ h=>(oG h fun _ h=>(oL h fun _ _ h=>h)))⟩⟩)))))⟩⟩⟩) fun _ h=>(oC h (fun _ h=>⟨h_b,⟨p0,⟨p1,(oG h fun _ h=>(oL h fun _ _ h=>h))⟩⟩⟩) fun _ h=>(oC h (fun _ h=>⟨h_b,⟨p0,⟨p1,(oG h fun _ h=>(oL h fun _ _ h=>(oG h fun _ h=>(oG h fun _ h=>h))))⟩⟩⟩) fun _ h=>⟨h_b,⟨p0,⟨p1,(oG h fun _ h=>(oL h fun _ _ h=>h))⟩⟩⟩)))
def c188:Con:=⟨[.any,.dat az],fun args hp K=>hpR (fun b p=>args2 (fun a0 a1=>lD a0 (eP az a1 fun n=>(Sm TBy b)/\(M.aj b)/\(0<=p)/\(p<=998000000000000)/\(LD (M.eT b p n) fun r=>K (.data aa r.1) [(1000000,.box [.data TBy b,dI r.2])]))) args []) hp,.plain,true⟩
abbrev C188:Ctx:=cx [(67,c67),(129,c129)] 77 [] 0 false
def ann188:=an [[kp 19],[kp 51],[kp 563],[kp 51],[kp 8755],[kp 33331],[kp 33331],[kp 33331],[kp 51],[kp 33554483],[kp 51],[kp 4294967859],[kp 4294967347],[kp 51],[kp 115],[kp 549755814003],[kp 115],[kp 115],[.keep [0,4,5,54]],[.keep [0,4,5,56]],[kp 48],[kp 2377900603251621937],[kp 48],[kp 18518801667747479601],[kp 48],[.keep [0,4,5,70]],[kp 48],[kp 16]] [[kp 51],[kp 51]]
abbrev s188_0 (b:LI) (p:Int) (n:Int) (c0_0:Int) (c0_1:Int) (v0:Unit):St:=⟨[(0,.ptr 1000000 0),(1,dI n),(4,.ptr 4 0),(5,.ptr 5 0),(9,dI c0_0)],[(1000000,.box [.data TBy b,dI c0_1]),(4,.box [dI Z0,dI Z0,.data Ty.str (⟨#[]⟩:ByteArray)]),(5,.box [dI Z0,dI Z0,.data Ty.str (⟨#[]⟩:ByteArray)])]⟩
abbrev LP188_0 (b:LI) (p:Int) (n:Int) (m:Nat) (st_:St) (K:KX):Prop:=∃c0_0:Int,∃c0_1:Int,True/\eJ (s188_0 b p n c0_0 c0_1) (F.hG b p n c0_0 c0_1) (fun v0:Unit=>True) (fun e0:Int×Int×Int×ByteArray=>True->K (.exit 0) (⟨[(0,.ptr 1000000 0),(1,dI n),(4,.ptr 4 0),(5,.ptr 5 0)],[(1000000,.box [.data TBy b,dI e0.1]),(4,.box [dI Z0,dI Z0,.data Ty.str (⟨#[]⟩:ByteArray)]),(5,.box [dI e0.2.1,dI e0.2.2.1,.data Ty.str e0.2.2.2])]⟩:St)) m st_
abbrev s188_1 (b:LI) (p:Int) (n:Int) (v1:Int×Int×ByteArray):St:=⟨[(0,.ptr 1000000 0),(1,dI n),(4,.ptr 4 0),(5,.ptr 5 0),(6,dI v1.1)],[(1000000,.box [.data TBy b,dI v1.2.1]),(4,.box [dI Z0,dI Z0,.data Ty.str (⟨#[]⟩:ByteArray)]),(5,.box [dI Z2,dI Z0,.data Ty.str v1.2.2])]⟩
abbrev LP188_1 (b:LI) (p:Int) (n:Int) (m:Nat) (st_:St) (K:KX):Prop:=True/\eJ (s188_1 b p n) (F.eg b p n) (fun v1:Int×Int×ByteArray=>True) (fun e1:Int×ByteArray=>True->K (.exit 1) (⟨[(0,.ptr 1000000 0),(1,dI n),(4,.ptr 4 0),(5,.ptr 5 0)],[(1000000,.box [.data TBy b,dI e1.1]),(4,.box [dI Z0,dI Z0,.data Ty.str (⟨#[]⟩:ByteArray)]),(5,.box [dI Z2,dI Z0,.data Ty.str e1.2])]⟩:St)) m st_
def L188 (b:LI) (p:Int) (n:Int):bD:=lp2 0 (LP188_0 b p n) 1 (LP188_1 b p n)
theorem vc188 (b:LI) (p:Int) (n:Int) (K:KA):vcT C188 (L188 b p n) ann188 (vI [(1000000,true)] f188) [.ptr 1000000 0,dI n] [(1000000,.box [.data TBy b,dI p])] (.dat aa) K =
 ((Sm TBy b)/\(M.aj b)/\(0<=p)/\(p<=1000000000000000)/\(LD (M.pick b p (7:Int)) fun r1=>(∃m_,∃c0_0:Int,∃c0_1:Int,True/\eJ (s188_0 b p n c0_0 c0_1) (F.hG b p n c0_0 c0_1) (fun v0:Unit=>True) (fun e0:Int×Int×Int×ByteArray=>True->(Sm TBy b)/\(M.aj b)/\(0<=e0.1)/\(e0.1<=999000000000000)/\(LD (M.odd b e0.1 n) fun r2=>cond r2.1 ((Sm TBy b)/\(M.aj b)/\(0<=r2.2)/\(r2.2<=1000000000000000)/\(LD (M.pick b r2.2 Z4) fun r3=>cond (decide (r3.1=Z0)) (K (.data aa (e0.2.1,((10000:Int),(e0.2.2.2,())))) [(1000000,.box [.data TBy b,dI r3.2])]) (cond (decide (r3.1=Z1)) ((e0.2.2.2.size+(⟨#[97,98,99,100,101,102,103]⟩:ByteArray).size<=9223372036854775807)/\K (.data aa (e0.2.1,(e0.2.2.1,((e0.2.2.2++(⟨#[97,98,99,100,101,102,103]⟩:ByteArray)),())))) [(1000000,.box [.data TBy b,dI r3.2])]) (cond (decide (r3.1=Z2)) ((Sm TBy b)/\(M.aj b)/\(0<=r3.2)/\(r3.2<=1000000000000000)/\(LD (M.pick b r3.2 (7:Int)) fun r4=>K (.data aa (wrap64 (r4.1-Z1),(e0.2.2.1,(e0.2.2.2,())))) [(1000000,.box [.data TBy b,dI r4.2])])) ((e0.2.2.2.size+(⟨#[65]⟩:ByteArray).size<=9223372036854775807)/\K (.data aa (e0.2.1,(e0.2.2.1,((e0.2.2.2++(⟨#[65]⟩:ByteArray)),())))) [(1000000,.box [.data TBy b,dI r3.2])]))))) (K (.data aa (e0.2.1,(e0.2.2.1,(e0.2.2.2,())))) [(1000000,.box [.data TBy b,dI r2.2])]))) m_ (s188_0 b p n r1.1 r1.2 ())))):=by kernel_rfl
abbrev S188l0_0 (b:LI) (p:Int) (n:Int) (c0_0:Int) (c0_1:Int) (v0:Unit) (m:Nat) (K:KX):Prop:=(Sm TBy b)/\(M.aj b)/\(0<=c0_1)/\(c0_1<=1000000000000000)/\(LD (M.pick b c0_1 (7:Int)) fun r5=>(Sm TBy b)/\(M.aj b)/\(0<=r5.2)/\(r5.2<=1000000000000000)/\(LD (M.pick b r5.2 (8:Int)) fun r6=>cond (decide (r6.1=Z0)) ((Sm TBy b)/\(M.aj b)/\(0<=r6.2)/\(r6.2<=1000000000000000)/\(LD (M.pick b r6.2 Z5) fun r7=>(0<=r7.1)/\(r7.1<([(9999:Int),(-9999:Int),(255:Int),(256:Int),(-256:Int)].length:Int))/\K (.exit 0) (⟨[(0,.ptr 1000000 0),(1,dI n),(4,.ptr 4 0),(5,.ptr 5 0)],[(1000000,.box [.data TBy b,dI r7.2]),(4,.box [dI Z0,dI Z0,.data Ty.str (⟨#[]⟩:ByteArray)]),(5,.box [dI Z1,dI (nI [(9999:Int),(-9999:Int),(255:Int),(256:Int),(-256:Int)] r7.1),.data Ty.str (⟨#[]⟩:ByteArray)])]⟩:St))) (K (.exit 0) (⟨[(0,.ptr 1000000 0),(1,dI n),(4,.ptr 4 0),(5,.ptr 5 0)],[(1000000,.box [.data TBy b,dI r6.2]),(4,.box [dI Z0,dI Z0,.data Ty.str (⟨#[]⟩:ByteArray)]),(5,.box [dI Z1,dI (wrap64 (r5.1-Z3)),.data Ty.str (⟨#[]⟩:ByteArray)])]⟩:St))))
abbrev S188l0_1 (b:LI) (p:Int) (n:Int) (c0_0:Int) (c0_1:Int) (v0:Unit) (m:Nat) (K:KX):Prop:=(Sm TBy b)/\(M.aj b)/\(0<=c0_1)/\(c0_1<=1000000000000000)/\(LD (M.pick b c0_1 Z4) fun r8=>(∃m_,True/\eJ (s188_1 b p n) (F.eg b p n) (fun v1:Int×Int×ByteArray=>True) (fun e1:Int×ByteArray=>True->K (.exit 0) (⟨[(0,.ptr 1000000 0),(1,dI n),(4,.ptr 4 0),(5,.ptr 5 0)],[(1000000,.box [.data TBy b,dI e1.1]),(4,.box [dI Z0,dI Z0,.data Ty.str (⟨#[]⟩:ByteArray)]),(5,.box [dI Z2,dI Z0,.data Ty.str e1.2])]⟩:St)) m_ (s188_1 b p n (r8.1,r8.2,(⟨#[]⟩:ByteArray)))))
abbrev S188l0_2 (b:LI) (p:Int) (n:Int) (c0_0:Int) (c0_1:Int) (v0:Unit) (m:Nat) (K:KX):Prop:=(Sm TBy b)/\(M.aj b)/\(0<=c0_1)/\(c0_1<=1000000000000000)/\(LD (M.pick b c0_1 Z2) fun r9=>K (.exit 0) (⟨[(0,.ptr 1000000 0),(1,dI n),(4,.ptr 4 0),(5,.ptr 5 0)],[(1000000,.box [.data TBy b,dI r9.2]),(4,.box [dI Z0,dI Z0,.data Ty.str (⟨#[]⟩:ByteArray)]),(5,.box [dI Z3,dI r9.1,.data Ty.str (⟨#[]⟩:ByteArray)])]⟩:St))
abbrev S188l0_3 (b:LI) (p:Int) (n:Int) (c0_0:Int) (c0_1:Int) (v0:Unit) (m:Nat) (K:KX):Prop:=cond (decide (c0_0=Z4)) (cond (decide (c0_0=Z4)) (S188l0_1  b p n c0_0 c0_1 v0 m K) (S188l0_2  b p n c0_0 c0_1 v0 m K)) (cond (decide (c0_0=Z5)) (S188l0_1  b p n c0_0 c0_1 v0 m K) (S188l0_2  b p n c0_0 c0_1 v0 m K))
theorem lvc188_0 (b:LI) (p:Int) (n:Int) (c0_0:Int) (c0_1:Int) (v0:Unit) (m:Nat) (K:KX):lvT C188 (L188 b p n) ann188 (vI [(1000000,true)] f188) 0 0 (s188_0 b p n c0_0 c0_1 v0) m K =
 (cond (decide (c0_0=Z0)) (K (.exit 0) (⟨[(0,.ptr 1000000 0),(1,dI n),(4,.ptr 4 0),(5,.ptr 5 0)],[(1000000,.box [.data TBy b,dI c0_1]),(4,.box [dI Z0,dI Z0,.data Ty.str (⟨#[]⟩:ByteArray)]),(5,.box [dI Z0,dI Z0,.data Ty.str (⟨#[]⟩:ByteArray)])]⟩:St)) (cond (decide (c0_0=Z1)) (cond (decide (c0_0=Z1)) (S188l0_0  b p n c0_0 c0_1 v0 m K) (S188l0_3  b p n c0_0 c0_1 v0 m K)) (cond (decide (c0_0=Z2)) (cond (decide (c0_0=Z2)) (S188l0_0  b p n c0_0 c0_1 v0 m K) (S188l0_3  b p n c0_0 c0_1 v0 m K)) (cond (decide (c0_0=Z3)) (S188l0_0  b p n c0_0 c0_1 v0 m K) (S188l0_3  b p n c0_0 c0_1 v0 m K))))):=by kernel_rfl
theorem lvc188_1 (b:LI) (p:Int) (n:Int)  (v1:Int×Int×ByteArray) (m:Nat) (K:KX):lvT C188 (L188 b p n) ann188 (vI [(1000000,true)] f188) 1 1 (s188_1 b p n v1) m K =
 (cond (decide (Z0<v1.1)) (((Sm TBy b)/\(M.aj b)/\(0<=v1.2.1)/\(v1.2.1<=1000000000000000)/\(LD (M.pick b v1.2.1 Z3) fun r10=>(v1.2.2.size+(strOf [((wrap64 ((97:Int)+r10.1)) % 256)]).size<=9223372036854775807)/\(nxT (LP188_1 b p n) m K (s188_1 b p n (wrap64 (v1.1-Z1),r10.2,(v1.2.2++(strOf [((wrap64 ((97:Int)+r10.1)) % 256)])))))))/\((Sm TBy b)/\(M.aj b)/\(0<=v1.2.1)/\(v1.2.1<=1000000000000000)/\(LD (M.pick b v1.2.1 Z3) fun r10=>Q1 ((v1.2.2.size+(strOf [((wrap64 ((97:Int)+r10.1)) % 256)]).size<=9223372036854775807)/\(nxT (LP188_1 b p n) m K (s188_1 b p n (wrap64 (v1.1-Z1),r10.2,(v1.2.2++(strOf [((wrap64 ((97:Int)+r10.1)) % 256)]))))))))) (K (.exit 1) (⟨[(0,.ptr 1000000 0),(1,dI n),(4,.ptr 4 0),(5,.ptr 5 0)],[(1000000,.box [.data TBy b,dI v1.2.1]),(4,.box [dI Z0,dI Z0,.data Ty.str (⟨#[]⟩:ByteArray)]),(5,.box [dI Z2,dI Z0,.data Ty.str v1.2.2])]⟩:St))):=by kernel_rfl
theorem con188_ok:aV P 188 c188:=HU [(1000000,true)] C188 func188 (kC con67_ok (kC con129_ok kN)) fun args hp K h0=>by
 unfold c188 at h0
 dsimp only at h0
 obtain⟨b,p,rfl,h00⟩:=eC h0
 obtain⟨a0,a1,rfl,_,h1⟩:=br h00
 obtain⟨rfl,h2⟩:=cQ h1
 obtain⟨n,rfl,h3⟩:=bg h2
 obtain⟨h_b,p0,p1,p2,hK⟩:=h3
 have h:ok (F.iq b p n) (fun r=>K (.data aa r.1) [(1000000,.box [.data TBy b,dI r.2])]):=aC (F.vS b p n h_b p0 p1 p2) (hK _ rfl)
 refine⟨rfl,ann188,(L188 b p n),(.dat aa),(xA (i0:=0) (i1:=1) (by kernel_rfl) ?_ ?_),?_⟩
 ·rintro _ _ K ⟨c0_0,c0_1,hc0,v0,rfl,hv0,h⟩
  exact cast (lvc188_0 _ _ _ _ _ _ _ _).symm (cV h (fun m1 hm0 h=>(oC h (fun _ h=>((cG h :) trivial)) fun _ h=>(oC h (fun b_3 h=>(eL b_3 ⟨h_b,(oG h fun g1 h=>(oG h fun _ h=>(oG h fun _ h=>(oL h fun _ _ h=>⟨h_b,⟨g1,(oG h fun _ h=>(oG h fun _ h=>(oL h fun _ _ h=>(oC h (fun _ h=>⟨h_b,⟨g1,(oG h fun _ h=>(oG h fun _ h=>(oL h fun _ _ h=>(oG h fun _ h=>(oG h fun _ h=>((cG h :) trivial))))))⟩⟩) fun _ h=>((cG h :) trivial)))))⟩⟩))))⟩)) fun _ h=>(oC h (fun b_51 h=>(eL b_51 ⟨h_b,(oG h fun g2 h=>(oG h fun _ h=>(oG h fun _ h=>(oL h fun _ _ h=>⟨h_b,⟨g2,(oG h fun _ h=>(oG h fun _ h=>(oL h fun _ _ h=>(oC h (fun _ h=>⟨h_b,⟨g2,(oG h fun _ h=>(oG h fun _ h=>(oL h fun _ _ h=>(oG h fun _ h=>(oG h fun _ h=>((cG h :) trivial))))))⟩⟩) fun _ h=>((cG h :) trivial)))))⟩⟩))))⟩)) fun _ h=>(oC h (fun _ h=>⟨h_b,(oG h fun g3 h=>(oG h fun _ h=>(oG h fun _ h=>(oL h fun _ _ h=>⟨h_b,⟨g3,(oG h fun _ h=>(oG h fun _ h=>(oL h fun _ _ h=>(oC h (fun _ h=>⟨h_b,⟨g3,(oG h fun _ h=>(oG h fun _ h=>(oL h fun _ _ h=>(oG h fun _ h=>(oG h fun _ h=>((cG h :) trivial))))))⟩⟩) fun _ h=>((cG h :) trivial)))))⟩⟩))))⟩) fun _ h=>(oC h (fun b_74 h=>(eL b_74 ⟨h_b,(oG h fun _ h=>(oG h fun _ h=>(oG h fun _ h=>(oL h fun _ _ h=>(cv (fun m hm=>⟨trivial,hm⟩) _ rfl trivial (gU h (fun e1 h hv1=>((cG h :) trivial))))))))⟩)) fun _ h=>(oC h (fun _ h=>⟨h_b,(oG h fun _ h=>(oG h fun _ h=>(oG h fun _ h=>(oL h fun _ _ h=>(cv (fun m hm=>⟨trivial,hm⟩) _ rfl trivial (gU h (fun e1 h hv1=>((cG h :) trivial))))))))⟩) fun _ h=>⟨h_b,(oG h fun _ h=>(oG h fun _ h=>(oG h fun _ h=>(oL h fun _ _ h=>((cG h :) trivial)))))⟩))))))))
 ·rintro _ _ K ⟨hc1,v1,rfl,hv1,h⟩
  exact cast (lvc188_1 _ _ _ _ _ _).symm (cV h (fun m1 hm1 h=>(oC h (fun _ h=>((fun(g2_0:M.aj b)=>(fun(g2_1:0<=v1.2.1)=>(fun(g2_2:v1.2.1<=1000000000000000)=>(fun(g2_3:v1.2.2.size+(strOf [((wrap64 ((97:Int)+(M.pick b v1.2.1 Z3).1)) % 256)]).size<=9223372036854775807)=>⟨⟨h_b,⟨g2_0,have g4:=g2_0;⟨g2_1,have g5:=g2_1;⟨g2_2,have g6:=g2_2;(fun r10 er10=>(have g7:v1.2.2.size+(strOf [((wrap64 ((97:Int)+r10.1)) % 256)]).size<=9223372036854775807:=(by rw[er10];exact g2_3);⟨g7,(have h:=(aF (di (aF (aF (aF h).2).2).2 r10 er10)).2;(bR (fun _ hm=>⟨hc1,hm⟩) hm1 _ rfl trivial h))⟩))⟩⟩⟩⟩,⟨h_b,⟨g2_0,have g8:=g2_0;⟨g2_1,have g9:=g2_1;⟨g2_2,have g10:=g2_2;(fun r10 er10=>(q1 (have g11:v1.2.2.size+(strOf [((wrap64 ((97:Int)+r10.1)) % 256)]).size<=9223372036854775807:=(by rw[er10];exact g2_3);⟨g11,(have h:=(aF (di (aF (aF (aF h).2).2).2 r10 er10)).2;(bR (fun _ hm=>⟨hc1,hm⟩) hm1 _ rfl trivial h))⟩)))⟩⟩⟩⟩⟩) (aF (di (aF (aF (aF h).2).2).2 _ rfl)).1) (aF (aF (aF h).2).2).1) (aF (aF h).2).1) (aF h).1)) fun _ h=>((cG h :) trivial))))
 ·rw[vc188]
  exact⟨h_b,⟨p0,⟨p1,(oG h fun _ h=>(oL h fun r1 _ h=>(cv (fun m hm=>⟨r1.1,r1.2,trivial,hm⟩) _ rfl trivial (gU h (fun e0 h hv0=>⟨h_b,⟨p0,(oG h fun _ h=>(oG h fun _ h=>(oL h fun _ _ h=>(oC h (fun _ h=>⟨h_b,⟨p0,(oG h fun _ h=>(oG h fun _ h=>(oL h fun _ _ h=>(oC h (fun _ h=>h) fun _ h=>(oC h (fun _ h=>(oG h fun _ h=>h)) fun _ h=>(oC h (fun _ h=>⟨h_b,⟨p0,(oG h fun _ h=>(oG h fun _ h=>(oL h fun _ _ h=>h)))⟩⟩) fun _ h=>(oG h fun _ h=>h)))))))⟩⟩) fun _ h=>h))))⟩⟩)))))⟩⟩⟩
def c128:Con:=⟨[.any,.lent ax,.dat az],fun args hp K=>hpR (fun b p=>qK (fun a0 a1 a2=>lD a0 (gf ax a1 fun columns=>eP az a2 fun n=>(Sm TBy b)/\(Sm TCS columns)/\(M.aj b)/\(0<=p)/\(p<=997000000000000)/\(LD (M.jl b p columns n) fun r=>K (.own 0 none) [(0,.arr .sh aa r.1),(1000000,.box [.data TBy b,dI r.2])]))) args []) hp,.plain,true⟩
abbrev C128:Ctx:=cx [(67,c67),(129,c129),(187,c187),(188,c188)] 59 [] 0 false
def ann128:=an [[kp 7],[kp 135],[kp 391],[kp 8583],[kp 391],[kp 391],[kp 134217857],[kp 536871041],[kp 128],[kp 550292684929],[kp 128],[.keep [0,7,45]],[.keep [0,7,49]],[kp 128],[kp 64]] [[kp 133]]
abbrev s128_0 (b:LI) (p:Int) (columns:LC) (n:Int) (i0:Int) (v0:Int×LV):St:=⟨[(0,.ptr 1000000 0),(1,.brw ax columns),(2,dI n),(7,.own 9 none),(8,dI i0)],[(1000000,.box [.data TBy b,dI v0.1]),(9,.arr .sh aa v0.2)]⟩
abbrev LP128_0 (b:LI) (p:Int) (columns:LC) (n:Int) (m:Nat) (st_:St) (K:KX):Prop:=True/\cU (t:=ax) (s128_0 b p columns n) columns (F.jr b p columns n) (fun v0:Int×LV=>True) (bB (fun v0:Int×LV=>True->K (.exit 0) (⟨[(0,.ptr 1000000 0),(2,dI n),(7,.own 9 none)],[(1000000,.box [.data TBy b,dI v0.1]),(9,.arr .sh aa v0.2)]⟩:St)) (fun _=>False)) m st_
def L128 (b:LI) (p:Int) (columns:LC) (n:Int):bD:=lp1 0 (LP128_0 b p columns n)
theorem vc128 (b:LI) (p:Int) (columns:LC) (n:Int) (K:KA):vcT C128 (L128 b p columns n) ann128 f128 [.ptr 1000000 0,.brw ax columns,dI n] [(1000000,.box [.data TBy b,dI p])] .raw K =
 (∃m_,True/\cU (t:=ax) (s128_0 b p columns n) columns (F.jr b p columns n) (fun v0:Int×LV=>True) (bB (fun v0:Int×LV=>True->(Sm TBy b)/\(M.aj b)/\(0<=v0.1)/\(v0.1<=999000000000000)/\(LD (M.odd b v0.1 n) fun r1=>cond r1.1 ((Sm TBy b)/\(M.aj b)/\(0<=r1.2)/\(r1.2<=1000000000000000)/\(LD (M.pick b r1.2 Z3) fun r2=>cond (decide (r2.1=Z0)) (((v0.2.length+([(Z0,(Z0,((⟨#[]⟩:ByteArray),())))]:List aa.D).length) * 32<=lim)/\K (.own 0 none) [(0,.arr .sh aa (v0.2++[(Z0,(Z0,((⟨#[]⟩:ByteArray),())))])),(1000000,.box [.data TBy b,dI r2.2])]) (cond (decide (r2.1=Z1)) (cond (decide (Z0<(v0.2.length:Int))) ((Sm TBy b)/\(M.aj b)/\(0<=r2.2)/\(r2.2<=1000000000000000)/\(LD (M.pick b r2.2 (v0.2.length:Int)) fun r3=>(Sm TBy b)/\(M.aj b)/\(0<=r3.2)/\(r3.2<=998000000000000)/\(LD (M.eT b r3.2 Z3) fun r4=>(0<=r3.1)/\(r3.1<(v0.2.length:Int))/\K (.own 0 none) [(0,.arr .sh aa (v0.2.set r3.1.toNat r4.1)),(1000000,.box [.data TBy b,dI r4.2])]))) (K (.own 0 none) [(0,.arr .sh aa v0.2),(1000000,.box [.data TBy b,dI r2.2])])) ((Sm TBy b)/\(M.aj b)/\(0<=r2.2)/\(r2.2<=998000000000000)/\(LD (M.eT b r2.2 Z0) fun r5=>(Sm TBy b)/\(M.aj b)/\(0<=r5.2)/\(r5.2<=998000000000000)/\(LD (M.eT b r5.2 Z0) fun r6=>(Sm TBy b)/\(M.aj b)/\(0<=r6.2)/\(r6.2<=998000000000000)/\(LD (M.eT b r6.2 Z0) fun r7=>((v0.2.length+[r5.1,r6.1,r7.1].length) * 32<=lim)/\K (.own 0 none) [(0,.arr .sh aa (v0.2++[r5.1,r6.1,r7.1])),(1000000,.box [.data TBy b,dI r7.2])]))))))) (K (.own 0 none) [(0,.arr .sh aa v0.2),(1000000,.box [.data TBy b,dI r1.2])]))) (fun _=>False)) m_ (s128_0 b p columns n Z0 (p,[]))):=by kernel_rfl
theorem lvc128_0 (b:LI) (p:Int) (columns:LC) (n:Int)  (i0:Int) (v0:Int×LV) (m:Nat) (K:KX):lvT C128 (L128 b p columns n) ann128 f128 0 0 (s128_0 b p columns n i0 v0) m K =
 (cond (decide (i0<(columns.length:Int))) ((0<=i0)/\(i0<(columns.length:Int))/\(Sm TBy b)/\(M.aj b)/\(0<=v0.1)/\(v0.1<=998000000000000)/\(LD (M.ko b v0.1 (nC columns i0)) fun r8=>((v0.2.length+[r8.1].length) * 32<=lim)/\(nxT (LP128_0 b p columns n) m K (s128_0 b p columns n (wrap64 (i0+Z1)) (r8.2,(v0.2++[r8.1])))))) (K (.exit 0) (⟨[(0,.ptr 1000000 0),(2,dI n),(7,.own 9 none)],[(1000000,.box [.data TBy b,dI v0.1]),(9,.arr .sh aa v0.2)]⟩:St))):=by kernel_rfl
theorem con128_ok:aV P 128 c128:=bf C128 func128 (kC con67_ok (kC con129_ok (kC con187_ok (kC con188_ok kN)))) fun args hp K h0=>by
 unfold c128 at h0
 dsimp only at h0
 obtain⟨b,p,rfl,h00⟩:=eC h0
 obtain⟨a0,a1,a2,rfl,_,h1⟩:=fU h00
 obtain⟨rfl,h2⟩:=cQ h1
 obtain⟨columns,rfl,h3⟩:=bK h2
 obtain⟨n,rfl,h4⟩:=bg h3
 obtain⟨h_b,h_columns,p0,p1,p2,hK⟩:=h4
 have h:ok (F.kH b p columns n) (fun r=>K (.own 0 none) [(0,.arr .sh aa r.1),(1000000,.box [.data TBy b,dI r.2])]):=aC (F.yw b p columns n h_b h_columns p0 p1 p2) (hK _ rfl)
 refine⟨rfl,ann128,(L128 b p columns n),.raw,(bt (i0:=0) (by kernel_rfl) ?_),?_⟩
 ·rintro _ _ K ⟨hc0,i0,v0,rfl,hl0,rfl,hv0,h⟩
  exact cast (lvc128_0 _ _ _ _ _ _ _ _).symm (bW (t:=ax) hl0 h (fun ht0 h=>⟨hl0,⟨ht0,⟨h_b,(oG h fun _ h=>(oG h fun _ h=>(oG h fun _ h=>(oL h fun _ _ h=>(oG h fun _ h=>(bU (t:=ax) (fun _ hm=>⟨hc0,hm⟩) _ rfl hl0 ht0 (bu h_columns) trivial h))))))⟩⟩⟩) fun h=>(h trivial))
 ·rw[vc128]
  exact(bN (t:=ax) (fun m hm=>⟨trivial,hm⟩) _ rfl trivial (bp h (fun v0 h hv0=>⟨h_b,⟨p0,(oG h fun _ h=>(oG h fun _ h=>(oL h fun _ _ h=>(oC h (fun _ h=>⟨h_b,⟨p0,(oG h fun _ h=>(oG h fun _ h=>(oL h fun _ _ h=>(oC h (fun _ h=>(oG h fun _ h=>h)) fun _ h=>(oC h (fun _ h=>(oC h (fun _ h=>⟨h_b,⟨p0,(oG h fun _ h=>(oG h fun _ h=>(oL h fun _ _ h=>⟨h_b,⟨p0,(oG h fun _ h=>(oG h fun _ h=>(oL h fun _ _ h=>(oG h fun _ h=>(oG h fun _ h=>h)))))⟩⟩)))⟩⟩) fun _ h=>h)) fun _ h=>⟨h_b,⟨p0,(oG h fun _ h=>(oG h fun _ h=>(oL h fun _ _ h=>⟨h_b,⟨p0,(oG h fun _ h=>(oG h fun _ h=>(oL h fun _ _ h=>⟨h_b,⟨p0,(oG h fun _ h=>(oG h fun _ h=>(oL h fun _ _ h=>(oG h fun _ h=>h))))⟩⟩)))⟩⟩)))⟩⟩)))))⟩⟩) fun _ h=>h))))⟩⟩) (fun _ h=>h.elim)))
def c185:Con:=⟨[.any,.lent ax,.dat az],fun args hp K=>hpR (fun b p=>qK (fun a0 a1 a2=>lD a0 (gf ax a1 fun c=>eP az a2 fun n=>(Sm TBy b)/\(Sm TCS c)/\(M.aj b)/\(0<=p)/\(p<=996000000000000)/\(c.length<=6)/\(n=0)/\(LD (M.ny b p c n) fun r=>K (.own 0 none) [(0,.arr .dp TVS r.1),(1000000,.box [.data TBy b,dI r.2])]))) args []) hp,.plain,true⟩
abbrev C185:Ctx:=cx [(67,c67),(110,c110),(128,c128)] 43 [] 0 true
def ann185:=an [[kp 7],[kp 135],[kp 391],[kp 8583],[kp 391],[kp 8388999],[kp 391],[kp 391],[kp 64]] [[kp 128]]
abbrev s185_0 (b:LI) (p:Int) (c:LC) (n:Int) (v0:Int×Int×(List LV)):St:=⟨[(0,.ptr 1000000 0),(1,.brw ax c),(2,dI n),(7,.own 9 none),(8,dI v0.1)],[(1000000,.box [.data TBy b,dI v0.2.1]),(9,.arr .dp TVS v0.2.2)]⟩
abbrev LP185_0 (b:LI) (p:Int) (c:LC) (n:Int) (m:Nat) (st_:St) (K:KX):Prop:=True/\eJ (s185_0 b p c n) (F.je b p c n) (fun v0:Int×Int×(List LV)=>True) (fun e0:Int×(List LV)=>True->K (.exit 0) (⟨[(7,.own 9 none)],[(1000000,.box [.data TBy b,dI e0.1]),(9,.arr .dp TVS e0.2)]⟩:St)) m st_
def L185 (b:LI) (p:Int) (c:LC) (n:Int):bD:=lp1 0 (LP185_0 b p c n)
theorem vc185 (b:LI) (p:Int) (c:LC) (n:Int) (K:KA):vcT C185 (L185 b p c n) ann185 f185 [.ptr 1000000 0,.brw ax c,dI n] [(1000000,.box [.data TBy b,dI p])] .raw K =
 ((Sm TBy b)/\(M.aj b)/\(0<=p)/\(p<=1000000000000000)/\(LD (M.pick b p (7:Int)) fun r1=>(∃m_,True/\eJ (s185_0 b p c n) (F.je b p c n) (fun v0:Int×Int×(List LV)=>True) (fun e0:Int×(List LV)=>True->K (.own 0 none) [(0,.arr .dp TVS e0.2),(1000000,.box [.data TBy b,dI e0.1])]) m_ (s185_0 b p c n (r1.1,r1.2,[]))))):=by kernel_rfl
theorem lvc185_0 (b:LI) (p:Int) (c:LC) (n:Int)  (v0:Int×Int×(List LV)) (m:Nat) (K:KX):lvT C185 (L185 b p c n) ann185 f185 0 0 (s185_0 b p c n v0) m K =
 (cond (decide (Z0<v0.1)) (cond ((decide (Z0<(v0.2.2.length:Int)))==true) ((Sm TBy b)/\(M.aj b)/\(0<=v0.2.1)/\(v0.2.1<=1000000000000000)/\(LD (M.pick b v0.2.1 Z3) fun r2=>cond (decide (r2.1=Z0)) ((Sm TBy b)/\(M.aj b)/\(0<=r2.2)/\(r2.2<=1000000000000000)/\(LD (M.pick b r2.2 (v0.2.2.length:Int)) fun r3=>(0<=r3.1)/\(r3.1<(v0.2.2.length:Int))/\(Sm TVS (nth (t:=TVS) v0.2.2 r3.1))/\(LD (nth (t:=TVS) v0.2.2 r3.1) fun r4=>((v0.2.2.length+[r4].length) * 24<=lim)/\(nxT (LP185_0 b p c n) m K (s185_0 b p c n (wrap64 (v0.1-Z1),r3.2,(v0.2.2++[r4]))))))) ((Sm TBy b)/\(Sm TCS c)/\(M.aj b)/\(0<=r2.2)/\(r2.2<=997000000000000)/\(LD (M.jl b r2.2 c n) fun r5=>((v0.2.2.length+[r5.1].length) * 24<=lim)/\(nxT (LP185_0 b p c n) m K (s185_0 b p c n (wrap64 (v0.1-Z1),r5.2,(v0.2.2++[r5.1])))))))) ((Sm TBy b)/\(Sm TCS c)/\(M.aj b)/\(0<=v0.2.1)/\(v0.2.1<=997000000000000)/\(LD (M.jl b v0.2.1 c n) fun r5=>((v0.2.2.length+[r5.1].length) * 24<=lim)/\(nxT (LP185_0 b p c n) m K (s185_0 b p c n (wrap64 (v0.1-Z1),r5.2,(v0.2.2++[r5.1]))))))) (K (.exit 0) (⟨[(7,.own 9 none)],[(1000000,.box [.data TBy b,dI v0.2.1]),(9,.arr .dp TVS v0.2.2)]⟩:St))):=by kernel_rfl
theorem con185_ok:aV P 185 c185:=bf C185 func185 (kC con67_ok (kC con110_ok (kC con128_ok kN))) fun args hp K h0=>by
 unfold c185 at h0
 dsimp only at h0
 obtain⟨b,p,rfl,h00⟩:=eC h0
 obtain⟨a0,a1,a2,rfl,_,h1⟩:=fU h00
 obtain⟨rfl,h2⟩:=cQ h1
 obtain⟨c,rfl,h3⟩:=bK h2
 obtain⟨n,rfl,h4⟩:=bg h3
 obtain⟨h_b,h_c,p0,p1,p2,p3,p4,hK⟩:=h4
 have h:ok (F.kz b p c n) (fun r=>K (.own 0 none) [(0,.arr .dp TVS r.1),(1000000,.box [.data TBy b,dI r.2])]):=aC (F.zf b p c n h_b h_c p0 p1 p2 p3 p4) (hK _ rfl)
 refine⟨rfl,ann185,(L185 b p c n),.raw,(bt (i0:=0) (by kernel_rfl) ?_),?_⟩
 ·rintro _ _ K ⟨hc0,v0,rfl,hv0,h⟩
  exact cast (lvc185_0 _ _ _ _ _ _ _).symm (cV h (fun m1 hm0 h=>(oC h (fun _ h=>(oC h (fun _ h=>⟨h_b,(oG h fun g1 h=>(oG h fun _ h=>(oG h fun _ h=>(oL h fun _ _ h=>(oC h (fun _ h=>⟨h_b,⟨g1,(oG h fun _ h=>(oG h fun _ h=>(oL h fun _ _ h=>(oG h fun _ h=>(oG h fun _ h=>(oG h fun _ h=>(oL h fun _ _ h=>(oG h fun _ h=>(bR (fun _ hm=>⟨hc0,hm⟩) hm0 _ rfl trivial h)))))))))⟩⟩) fun _ h=>⟨h_b,⟨h_c,⟨g1,(oG h fun _ h=>(oG h fun _ h=>(oL h fun _ _ h=>(oG h fun _ h=>(bR (fun _ hm=>⟨hc0,hm⟩) hm0 _ rfl trivial h)))))⟩⟩⟩)))))⟩) fun _ h=>⟨h_b,⟨h_c,(oG h fun _ h=>(oG h fun _ h=>(oG h fun _ h=>(oL h fun _ _ h=>(oG h fun _ h=>(bR (fun _ hm=>⟨hc0,hm⟩) hm0 _ rfl trivial h))))))⟩⟩)) fun _ h=>((cG h :) trivial))))
 ·rw[vc185]
  exact⟨h_b,⟨p0,⟨p1,(oG h fun _ h=>(oL h fun _ _ h=>(cv (fun m hm=>⟨trivial,hm⟩) _ rfl trivial (gU h (fun e0 h hv0=>h)))))⟩⟩⟩
def c126:Con:=⟨[.any,.dat az],fun args hp K=>hpR (fun b p=>args2 (fun a0 a1=>lD a0 (eP az a1 fun n=>(Sm TBy b)/\(M.aj b)/\(0<=p)/\(p<=995000000000000)/\(LD (M.ee b p n) fun r=>K (.own 0 none) [(0,.arr .dp ag r.1),(1000000,.box [.data TBy b,dI r.2])]))) args []) hp,.plain,true⟩
abbrev C126:Ctx:=cx [(67,c67),(129,c129),(184,c184),(185,c185)] 73 [] 0 true
def ann126:=an [[kp 3],[kp 35],[kp 99],[kp 16483],[kp 99],[kp 227],[kp 227],[.fixRow 8 ag,kp 355],[kp 99],[kp 274877906977],[.keep [5,40]],[kp 32],[.keep [5,40,51]],[kp 32],[.keep [5,59]],[kp 32],[kp 16]] [[kp 35]]
abbrev s126_0 (b:LI) (p:Int) (n:Int) (v0:Int×Int×LTb):St:=⟨[(0,.ptr 1000000 0),(1,dI n),(5,.own 9 none),(6,dI v0.1)],[(1000000,.box [.data TBy b,dI v0.2.1]),(9,.arr .dp ag v0.2.2)]⟩
abbrev LP126_0 (b:LI) (p:Int) (n:Int) (m:Nat) (st_:St) (K:KX):Prop:=True/\eJ (s126_0 b p n) (F.gv b p n) (fun v0:Int×Int×LTb=>True) (fun e0:Int×LTb=>True->K (.exit 0) (⟨[(0,.ptr 1000000 0),(1,dI n),(5,.own 9 none)],[(1000000,.box [.data TBy b,dI e0.1]),(9,.arr .dp ag e0.2)]⟩:St)) m st_
def L126 (b:LI) (p:Int) (n:Int):bD:=lp1 0 (LP126_0 b p n)
theorem vc126 (b:LI) (p:Int) (n:Int) (K:KA):vcT C126 (L126 b p n) ann126 f126 [.ptr 1000000 0,dI n] [(1000000,.box [.data TBy b,dI p])] .raw K =
 ((Sm TBy b)/\(M.aj b)/\(0<=p)/\(p<=1000000000000000)/\(LD (M.pick b p Z3) fun r1=>(∃m_,True/\eJ (s126_0 b p n) (F.gv b p n) (fun v0:Int×Int×LTb=>True) (fun e0:Int×LTb=>True->(Sm TBy b)/\(M.aj b)/\(0<=e0.1)/\(e0.1<=999000000000000)/\(LD (M.odd b e0.1 n) fun r2=>cond r2.1 ((Sm TBy b)/\(M.aj b)/\(0<=r2.2)/\(r2.2<=1000000000000000)/\(LD (M.pick b r2.2 Z3) fun r3=>cond (decide (r3.1=Z0)) (((e0.2.length+([([],([],())),([],([],())),([],([],()))]:List ag.D).length) * 48<=lim)/\K (.own 0 none) [(0,.arr .dp ag (e0.2++[([],([],())),([],([],())),([],([],()))])),(1000000,.box [.data TBy b,dI r3.2])]) (cond (decide (r3.1=Z1)) ((0<=Z0)/\(Z0<(e0.2.length:Int))/\(((nT e0.2 Z0).2.1.length+([[((9:Int),(Z0,((⟨#[]⟩:ByteArray),())))]]:List TVS.D).length) * 24<=lim)/\(0<=Z0)/\(Z0<((e0.2.set Z0.toNat ((nT e0.2 Z0).1,([],()))).length:Int))/\(Z0=Z0)/\(let y1:LTb:=((e0.2.set Z0.toNat ((nT e0.2 Z0).1,([],()))).set Z0.toNat ((nT (e0.2.set Z0.toNat ((nT e0.2 Z0).1,([],()))) Z0).1,(((nT e0.2 Z0).2.1++[[((9:Int),(Z0,((⟨#[]⟩:ByteArray),())))]]),())));K (.own 0 none) [(0,.arr .dp ag y1),(1000000,.box [.data TBy b,dI r3.2])])) ((0<=Z0)/\(Z0<(e0.2.length:Int))/\(((nT e0.2 Z0).1.length+[(Z1,(false,()))].length) * 16<=lim)/\(0<=Z0)/\(Z0<((e0.2.set Z0.toNat ([],(nT e0.2 Z0).2)).length:Int))/\(Z0=Z0)/\(let y2:LTb:=((e0.2.set Z0.toNat ([],(nT e0.2 Z0).2)).set Z0.toNat (((nT e0.2 Z0).1++[(Z1,(false,()))]),(nT (e0.2.set Z0.toNat ([],(nT e0.2 Z0).2)) Z0).2));K (.own 0 none) [(0,.arr .dp ag y2),(1000000,.box [.data TBy b,dI r3.2])]))))) (K (.own 0 none) [(0,.arr .dp ag e0.2),(1000000,.box [.data TBy b,dI r2.2])]))) m_ (s126_0 b p n (wrap64 (Z1+r1.1),r1.2,[]))))):=by kernel_rfl
theorem lvc126_0 (b:LI) (p:Int) (n:Int)  (v0:Int×Int×LTb) (m:Nat) (K:KX):lvT C126 (L126 b p n) ann126 f126 0 0 (s126_0 b p n v0) m K =
 (cond (decide (Z0<v0.1)) ((Sm TBy b)/\(M.aj b)/\(0<=v0.2.1)/\(v0.2.1<=998000000000000)/\(LD (M.fW b v0.2.1 Z0) fun r4=>(Sm TBy b)/\(M.aj b)/\(0<=r4.2)/\(r4.2<=1000000000000000)/\(LD (M.pick b r4.2 Z2) fun r5=>((r4.1.length:Int)≠0)/\(0<=Z0)/\(Z0<=wrap64 (Z1+(r5.1.tmod (r4.1.length:Int))))/\(wrap64 (Z1+(r5.1.tmod (r4.1.length:Int)))<=(r4.1.length:Int))/\(wrap64 (Z1+(r5.1.tmod (r4.1.length:Int)))=wrap64 (Z1+(r5.1.tmod (r4.1.length:Int))))/\(Sm TBy b)/\(Sm TCS (aD r4.1 (some (Z0,wrap64 (Z1+(r5.1.tmod (r4.1.length:Int)))))))/\(M.aj b)/\(0<=r5.2)/\(r5.2<=996000000000000)/\((aD r4.1 (some (Z0,wrap64 (Z1+(r5.1.tmod (r4.1.length:Int)))))).length<=6)/\(Z0=0)/\(LD (M.ny b r5.2 (aD r4.1 (some (Z0,wrap64 (Z1+(r5.1.tmod (r4.1.length:Int)))))) Z0) fun r6=>((v0.2.2.length+[((aD r4.1 (some (Z0,wrap64 (Z1+(r5.1.tmod (r4.1.length:Int)))))),(r6.1,()))].length) * 48<=lim)/\(nxT (LP126_0 b p n) m K (s126_0 b p n (wrap64 (v0.1-Z1),r6.2,(v0.2.2++[((aD r4.1 (some (Z0,wrap64 (Z1+(r5.1.tmod (r4.1.length:Int)))))),(r6.1,()))])))))))) (K (.exit 0) (⟨[(0,.ptr 1000000 0),(1,dI n),(5,.own 9 none)],[(1000000,.box [.data TBy b,dI v0.2.1]),(9,.arr .dp ag v0.2.2)]⟩:St))):=by kernel_rfl
theorem con126_ok:aV P 126 c126:=bf C126 func126 (kC con67_ok (kC con129_ok (kC con184_ok (kC con185_ok kN)))) fun args hp K h0=>by
 unfold c126 at h0
 dsimp only at h0
 obtain⟨b,p,rfl,h00⟩:=eC h0
 obtain⟨a0,a1,rfl,_,h1⟩:=br h00
 obtain⟨rfl,h2⟩:=cQ h1
 obtain⟨n,rfl,h3⟩:=bg h2
 obtain⟨h_b,p0,p1,p2,hK⟩:=h3
 have h:ok (F.gG b p n) (fun r=>K (.own 0 none) [(0,.arr .dp ag r.1),(1000000,.box [.data TBy b,dI r.2])]):=aC (F.tC b p n h_b p0 p1 p2) (hK _ rfl)
 refine⟨rfl,ann126,(L126 b p n),.raw,(bt (i0:=0) (by kernel_rfl) ?_),?_⟩
 ·rintro _ _ K ⟨hc0,v0,rfl,hv0,h⟩
  exact cast (lvc126_0 _ _ _ _ _ _).symm (cV h (fun m1 hm0 h=>(oC h (fun _ h=>⟨h_b,(oG h fun g1 h=>(oG h fun _ h=>(oG h fun _ h=>(oL h fun _ _ h=>⟨h_b,⟨g1,(oG h fun _ h=>(oG h fun _ h=>(oL h fun _ _ h=>(oG h fun _ h=>⟨(Int.natCast_nonneg 0),(oG h fun _ h=>(oG h fun _ h=>⟨rfl,⟨h_b,(oG h fun _ h=>⟨g1,(oG h fun _ h=>(oG h fun _ h=>(oG h fun _ h=>(oG h fun _ h=>(oL h fun _ _ h=>(oG h fun _ h=>(bR (fun _ hm=>⟨hc0,hm⟩) hm0 _ rfl trivial h)))))))⟩)⟩⟩))⟩))))⟩⟩))))⟩) fun _ h=>((cG h :) trivial))))
 ·rw[vc126]
  exact⟨h_b,⟨p0,⟨p1,(oG h fun _ h=>(oL h fun _ _ h=>(cv (fun m hm=>⟨trivial,hm⟩) _ rfl trivial (gU h (fun e0 h hv0=>⟨h_b,⟨p0,(oG h fun _ h=>(oG h fun _ h=>(oL h fun _ _ h=>(oC h (fun _ h=>⟨h_b,⟨p0,(oG h fun _ h=>(oG h fun _ h=>(oL h fun _ _ h=>(oC h (fun _ h=>(oG h fun _ h=>h)) fun _ h=>(oC h (fun _ h=>⟨(Int.natCast_nonneg 0),(oG h fun _ h=>(oG h fun _ h=>⟨(Int.natCast_nonneg 0),(oG h fun _ h=>⟨rfl,(have h:=di h _ rfl;h)⟩)⟩))⟩) fun _ h=>⟨(Int.natCast_nonneg 0),(oG h fun _ h=>(oG h fun _ h=>⟨(Int.natCast_nonneg 0),(oG h fun _ h=>⟨rfl,(have h:=di h _ rfl;h)⟩)⟩))⟩)))))⟩⟩) fun _ h=>h))))⟩⟩)))))⟩⟩⟩
def c205:Con:=⟨[.any,.dat TCS,.dat az],fun args hp K=>hpR (fun b p=>qK (fun a0 a1 a2=>lD a0 (eP TCS a1 fun columns=>eP az a2 fun kind=>(Sm TBy b)/\(Sm TCS columns)/\(M.aj b)/\(0<=p)/\(p<=997000000000000)/\(LD (M.dF b p columns kind) fun r=>K (.data aE r.1) [(1000000,.box [.data TBy b,dI r.2])]))) args []) hp,.plain,true⟩
abbrev C205:Ctx:=cx [(67,c67),(187,c187)] 41 [] 0 false
def ann205:=an [[kp 71],[kp 199],[kp 32967],[kp 199],[kp 455],[kp 8589935047],[kp 64],[kp 64]] [[kp 69]]
abbrev s205_0 (b:LI) (p:Int) (columns:LC) (kind:Int) (v0:Int×Int):St:=⟨[(0,.ptr 1000000 0),(1,.data TCS columns),(2,dI kind),(6,.ptr 6 0),(7,dI v0.1)],[(1000000,.box [.data TBy b,dI v0.2]),(6,.box [dI Z0,dI Z0,dI Z0,dI Z0,.data Ty.str (⟨#[]⟩:ByteArray)])]⟩
abbrev LP205_0 (b:LI) (p:Int) (columns:LC) (kind:Int) (m:Nat) (st_:St) (K:KX):Prop:=True/\eJ (s205_0 b p columns kind) (F.iK b p columns kind) (fun v0:Int×Int=>True) (bB (fun e0:Int=>True->K (.exit 0) (⟨[(0,.ptr 1000000 0),(2,dI kind),(6,.ptr 6 0)],[(1000000,.box [.data TBy b,dI e0]),(6,.box [dI Z0,dI Z0,dI Z0,dI Z0,.data Ty.str (⟨#[]⟩:ByteArray)])]⟩:St)) (fun q0:Int×Int=>K .ret (⟨[(6,.ptr 6 0)],[(1000000,.box [.data TBy b,dI q0.1]),(6,.box [dI Z2,dI q0.2,dI Z0,dI Z0,.data Ty.str (⟨#[]⟩:ByteArray)])]⟩:St))) m st_
def L205 (b:LI) (p:Int) (columns:LC) (kind:Int):bD:=lp1 0 (LP205_0 b p columns kind)
theorem vc205 (b:LI) (p:Int) (columns:LC) (kind:Int) (K:KA):vcT C205 (L205 b p columns kind) ann205 f205 [.ptr 1000000 0,.data TCS columns,dI kind] [(1000000,.box [.data TBy b,dI p])] (.dat aE) K =
 (∃m_,True/\eJ (s205_0 b p columns kind) (F.iK b p columns kind) (fun v0:Int×Int=>True) (bB (fun e0:Int=>True->(Sm TBy b)/\(M.aj b)/\(0<=e0)/\(e0<=998000000000000)/\(LD (M.ko b e0 (kind,(false,()))) fun r1=>K (.data aE (Z1,(Z0,(r1.1,())))) [(1000000,.box [.data TBy b,dI r1.2])])) (fun q0:Int×Int=>K (.data aE (Z2,(q0.2,((Z0,(Z0,((⟨#[]⟩:ByteArray),()))),())))) [(1000000,.box [.data TBy b,dI q0.1])])) m_ (s205_0 b p columns kind (Z0,p))):=by kernel_rfl
abbrev S205l0_0 (b:LI) (p:Int) (columns:LC) (kind:Int)  (v0:Int×Int) (m:Nat) (K:KX):Prop:=K (.exit 0) (⟨[(0,.ptr 1000000 0),(2,dI kind),(6,.ptr 6 0)],[(1000000,.box [.data TBy b,dI v0.2]),(6,.box [dI Z0,dI Z0,dI Z0,dI Z0,.data Ty.str (⟨#[]⟩:ByteArray)])]⟩:St)
theorem lvc205_0 (b:LI) (p:Int) (columns:LC) (kind:Int)  (v0:Int×Int) (m:Nat) (K:KX):lvT C205 (L205 b p columns kind) ann205 f205 0 0 (s205_0 b p columns kind v0) m K =
 (cond ((decide (v0.1<Z4))==true) (cond (decide (Z0<(columns.length:Int))) ((Sm TBy b)/\(M.aj b)/\(0<=v0.2)/\(v0.2<=1000000000000000)/\(LD (M.pick b v0.2 (columns.length:Int)) fun r2=>(0<=r2.1)/\(r2.1<(columns.length:Int))/\cond ((decide ((nC columns r2.1).1=kind))==true) ((Sm TBy b)/\(M.aj b)/\(0<=r2.2)/\(r2.2<=1000000000000000)/\(LD (M.pick b r2.2 Z3) fun r3=>cond (decide (Z0<r3.1)) (K .ret (⟨[(6,.ptr 6 0)],[(1000000,.box [.data TBy b,dI r3.2]),(6,.box [dI Z2,dI r2.1,dI Z0,dI Z0,.data Ty.str (⟨#[]⟩:ByteArray)])]⟩:St)) (nxT (LP205_0 b p columns kind) m K (s205_0 b p columns kind (wrap64 (v0.1+Z1),r3.2))))) (nxT (LP205_0 b p columns kind) m K (s205_0 b p columns kind (wrap64 (v0.1+Z1),r2.2))))) (S205l0_0  b p columns kind v0 m K)) (S205l0_0  b p columns kind v0 m K)):=by kernel_rfl
theorem con205_ok:aV P 205 c205:=bf C205 func205 (kC con67_ok (kC con187_ok kN)) fun args hp K h0=>by
 unfold c205 at h0
 dsimp only at h0
 obtain⟨b,p,rfl,h00⟩:=eC h0
 obtain⟨a0,a1,a2,rfl,_,h1⟩:=fU h00
 obtain⟨rfl,h2⟩:=cQ h1
 obtain⟨columns,rfl,h3⟩:=bg h2
 obtain⟨kind,rfl,h4⟩:=bg h3
 obtain⟨h_b,h_columns,p0,p1,p2,hK⟩:=h4
 have h:ok (F.ji b p columns kind) (fun r=>K (.data aE r.1) [(1000000,.box [.data TBy b,dI r.2])]):=aC (F.wQ b p columns kind h_b h_columns p0 p1 p2) (hK _ rfl)
 refine⟨rfl,ann205,(L205 b p columns kind),(.dat aE),(bt (i0:=0) (by kernel_rfl) ?_),?_⟩
 ·rintro _ _ K ⟨hc0,v0,rfl,hv0,h⟩
  exact cast (lvc205_0 _ _ _ _ _ _ _).symm (cV h (fun m1 hm0 h=>(oC h (fun _ h=>(oC h (fun _ h=>⟨h_b,(oG h fun g1 h=>(oG h fun _ h=>(oG h fun _ h=>(oL h fun _ _ h=>(oG h fun _ h=>(oG h fun _ h=>(oC h (fun _ h=>⟨h_b,⟨g1,(oG h fun _ h=>(oG h fun _ h=>(oL h fun _ _ h=>(oC h (fun _ h=>h) fun _ h=>(bR (fun _ hm=>⟨hc0,hm⟩) hm0 _ rfl trivial h)))))⟩⟩) fun _ h=>(bR (fun _ hm=>⟨hc0,hm⟩) hm0 _ rfl trivial h))))))))⟩) fun _ h=>((cG h :) trivial))) fun _ h=>((cG h :) trivial))))
 ·rw[vc205]
  exact(cv (fun m hm=>⟨trivial,hm⟩) _ rfl trivial (bp h (fun e0 h hv0=>⟨h_b,⟨p0,(oG h fun _ h=>(oG h fun _ h=>(oL h fun _ _ h=>h)))⟩⟩) (fun q0 h=>h)))
def c160r (n_:Nat):Con:=⟨[.any,.dat TCS,.dat az,.dat az],fun args hp K=>hpR (fun b p=>Ee (fun a0 a1 a2 a3=>lD a0 (eP TCS a1 fun columns=>eP az a2 fun kind=>eP az a3 fun deep=>(Sm TBy b)/\(Sm TCS columns)/\(M.aj b)/\(0<=p)/\(p+40 * (M.eB deep:Int)<=996000000000000)/\(deep<=3)/\(deep.toNat<n_)/\(LD (M.bG n_ b p columns kind deep) fun r=>K (.own 0 none) [(0,.arr .sh aE r.1),(1000000,.box [.data TBy b,dI r.2])]))) args []) hp,.plain,true⟩
abbrev C160 (n_:Nat):Ctx:=cx [(67,c67),(205,c205),(160,c160r n_)] 111 [] 0 false
def ann160:=an [[kp 15],[kp 65551],[kp 256],[kp 8388623],[kp 256],[kp 1099511627791],[kp 256],[kp 140737488355339],[kp 422212465065995],[kp 256],[.keep [0,1,3,47,67]],[kp 256],[.keep [0,1,3,77]],[kp 256],[kp 523],[kp 256]] []
theorem vc160 (n_:Nat) (b:LI) (p:Int) (columns:LC) (kind:Int) (deep:Int) (K:KA):vcT (C160 n_) ay ann160 f160 [.ptr 1000000 0,.data TCS columns,dI kind,dI deep] [(1000000,.box [.data TBy b,dI p])] .raw K =
 (cond ((decide (deep<Z1))==false) ((Sm TBy b)/\(M.aj b)/\(0<=p)/\(p<=1000000000000000)/\(LD (M.pick b p Z4) fun r1=>cond (decide (r1.1=Z0)) ((Sm TBy b)/\(Sm TCS columns)/\(M.aj b)/\(0<=r1.2)/\(r1.2<=997000000000000)/\(LD (M.dF b r1.2 columns kind) fun r2=>K (.own 0 none) [(0,.arr .sh aE [r2.1]),(1000000,.box [.data TBy b,dI r2.2])])) (cond (decide (kind=Z1)) ((Sm TBy b)/\(Sm TCS columns)/\(M.aj b)/\(0<=r1.2)/\(r1.2+40 * (M.eB (wrap64 (deep-Z1)):Int)<=996000000000000)/\((wrap64 (deep-Z1))<=3)/\((wrap64 (deep-Z1)).toNat<n_)/\(LD (M.bG n_ b r1.2 columns kind (wrap64 (deep-Z1))) fun r3=>(Sm TBy b)/\(Sm TCS columns)/\(M.aj b)/\(0<=r3.2)/\(r3.2<=997000000000000)/\(LD (M.dF b r3.2 columns kind) fun r4=>((r3.1.length+[r4.1].length) * 48<=lim)/\(((r3.1++[r4.1]).length+([(Z3,(Z0,((Z0,(Z0,((⟨#[]⟩:ByteArray),()))),())))]:List aE.D).length) * 48<=lim)/\K (.own 0 none) [(0,.arr .sh aE ((r3.1++[r4.1])++[(Z3,(Z0,((Z0,(Z0,((⟨#[]⟩:ByteArray),()))),())))])),(1000000,.box [.data TBy b,dI r4.2])]))) (cond (decide (kind=Z2)) ((Sm TBy b)/\(Sm TCS columns)/\(M.aj b)/\(0<=r1.2)/\(r1.2<=997000000000000)/\(LD (M.dF b r1.2 columns kind) fun r5=>K (.own 0 none) [(0,.arr .sh aE [r5.1]),(1000000,.box [.data TBy b,dI r5.2])])) ((Sm TBy b)/\(M.aj b)/\(0<=r1.2)/\(r1.2<=1000000000000000)/\(LD (M.pick b r1.2 Z6) fun r6=>cond (decide (r6.1=Z0)) ((Sm TBy b)/\(Sm TCS columns)/\(M.aj b)/\(0<=r6.2)/\(r6.2+40 * (M.eB (wrap64 (deep-Z1)):Int)<=996000000000000)/\((wrap64 (deep-Z1))<=3)/\((wrap64 (deep-Z1)).toNat<n_)/\(LD (M.bG n_ b r6.2 columns Z3 (wrap64 (deep-Z1))) fun r7=>(Sm TBy b)/\(Sm TCS columns)/\(M.aj b)/\(0<=r7.2)/\(r7.2+40 * (M.eB (wrap64 (deep-Z2)):Int)<=996000000000000)/\((wrap64 (deep-Z2))<=3)/\((wrap64 (deep-Z2)).toNat<n_)/\(LD (M.bG n_ b r7.2 columns Z3 (wrap64 (deep-Z2))) fun r8=>((r7.1.length+r8.1.length) * 48<=lim)/\(Sm TBy b)/\(M.aj b)/\(0<=r8.2)/\(r8.2<=1000000000000000)/\(LD (M.pick b r8.2 Z2) fun r9=>(((r7.1++r8.1).length+([(wrap64 (Z5+r9.1),(Z0,((Z0,(Z0,((⟨#[]⟩:ByteArray),()))),())))]:List aE.D).length) * 48<=lim)/\K (.own 0 none) [(0,.arr .sh aE ((r7.1++r8.1)++[(wrap64 (Z5+r9.1),(Z0,((Z0,(Z0,((⟨#[]⟩:ByteArray),()))),())))])),(1000000,.box [.data TBy b,dI r9.2])])))) (cond (decide (r6.1=Z1)) ((Sm TBy b)/\(Sm TCS columns)/\(M.aj b)/\(0<=r6.2)/\(r6.2+40 * (M.eB (wrap64 (deep-Z1)):Int)<=996000000000000)/\((wrap64 (deep-Z1))<=3)/\((wrap64 (deep-Z1)).toNat<n_)/\(LD (M.bG n_ b r6.2 columns Z3 (wrap64 (deep-Z1))) fun r10=>((r10.1.length+([((7:Int),(Z0,((Z0,(Z0,((⟨#[]⟩:ByteArray),()))),())))]:List aE.D).length) * 48<=lim)/\K (.own 0 none) [(0,.arr .sh aE (r10.1++[((7:Int),(Z0,((Z0,(Z0,((⟨#[]⟩:ByteArray),()))),())))])),(1000000,.box [.data TBy b,dI r10.2])])) (cond (decide (r6.1=Z2)) ((Sm TBy b)/\(M.aj b)/\(0<=r6.2)/\(r6.2<=1000000000000000)/\(LD (M.pick b r6.2 Z3) fun r11=>(Sm TBy b)/\(Sm TCS columns)/\(M.aj b)/\(0<=r11.2)/\(r11.2+40 * (M.eB (wrap64 (deep-Z1)):Int)<=996000000000000)/\((wrap64 (deep-Z1))<=3)/\((wrap64 (deep-Z1)).toNat<n_)/\(LD (M.bG n_ b r11.2 columns (wrap64 (Z1+r11.1)) (wrap64 (deep-Z1))) fun r12=>((r12.1.length+([((8:Int),(Z0,((Z0,(Z0,((⟨#[]⟩:ByteArray),()))),())))]:List aE.D).length) * 48<=lim)/\K (.own 0 none) [(0,.arr .sh aE (r12.1++[((8:Int),(Z0,((Z0,(Z0,((⟨#[]⟩:ByteArray),()))),())))])),(1000000,.box [.data TBy b,dI r12.2])]))) ((Sm TBy b)/\(M.aj b)/\(0<=r6.2)/\(r6.2<=1000000000000000)/\(LD (M.pick b r6.2 Z3) fun r13=>(Sm TBy b)/\(Sm TCS columns)/\(M.aj b)/\(0<=r13.2)/\(r13.2+40 * (M.eB (wrap64 (deep-Z1)):Int)<=996000000000000)/\((wrap64 (deep-Z1))<=3)/\((wrap64 (deep-Z1)).toNat<n_)/\(LD (M.bG n_ b r13.2 columns (wrap64 (Z1+r13.1)) (wrap64 (deep-Z1))) fun r14=>(Sm TBy b)/\(Sm TCS columns)/\(M.aj b)/\(0<=r14.2)/\(r14.2<=997000000000000)/\(LD (M.dF b r14.2 columns (wrap64 (Z1+r13.1))) fun r15=>((r14.1.length+[r15.1].length) * 48<=lim)/\(Sm TBy b)/\(M.aj b)/\(0<=r15.2)/\(r15.2<=1000000000000000)/\(LD (M.pick b r15.2 Z4) fun r16=>(((r14.1++[r15.1]).length+([(Z4,(wrap64 (Z1+r16.1),((Z0,(Z0,((⟨#[]⟩:ByteArray),()))),())))]:List aE.D).length) * 48<=lim)/\K (.own 0 none) [(0,.arr .sh aE ((r14.1++[r15.1])++[(Z4,(wrap64 (Z1+r16.1),((Z0,(Z0,((⟨#[]⟩:ByteArray),()))),())))])),(1000000,.box [.data TBy b,dI r16.2])]))))))))))))) ((Sm TBy b)/\(Sm TCS columns)/\(M.aj b)/\(0<=p)/\(p<=997000000000000)/\(LD (M.dF b p columns kind) fun r2=>K (.own 0 none) [(0,.arr .sh aE [r2.1]),(1000000,.box [.data TBy b,dI r2.2])]))):=by kernel_rfl
theorem con160r_ok:∀n_,aV P 160 (c160r n_)
 | 0=>bf (cx [] 111 [] 0 false) func160 kN fun args hp K h0=>by
  unfold c160r at h0
  dsimp only at h0
  obtain⟨b,p,rfl,h00⟩:=eC h0
  obtain⟨a0,a1,a2,a3,rfl,_,h1⟩:=xX h00
  obtain⟨rfl,h2⟩:=cQ h1
  obtain⟨columns,rfl,h3⟩:=bg h2
  obtain⟨kind,rfl,h4⟩:=bg h3
  obtain⟨deep,rfl,h5⟩:=bg h4
  obtain⟨h_b,h_columns,p0,p1,p2,p3,p4,_⟩:=h5
  exact absurd p4 (Nat.not_lt_zero _)
 | n_+1=>(fun ih=>bf (C160 n_) func160 (kC con67_ok (kC con205_ok (kC ih kN))) fun args hp K h0=>by
  unfold c160r at h0
  dsimp only at h0
  obtain⟨b,p,rfl,h00⟩:=eC h0
  obtain⟨a0,a1,a2,a3,rfl,_,h1⟩:=xX h00
  obtain⟨rfl,h2⟩:=cQ h1
  obtain⟨columns,rfl,h3⟩:=bg h2
  obtain⟨kind,rfl,h4⟩:=bg h3
  obtain⟨deep,rfl,h5⟩:=bg h4
  obtain⟨h_b,h_columns,p0,p1,p2,p3,p4,hK⟩:=h5
  have h:ok (F.lK n_ b p columns kind deep) (fun r=>K (.own 0 none) [(0,.arr .sh aE r.1),(1000000,.box [.data TBy b,dI r.2])]):=aC (F.xl n_ b p columns kind deep h_b h_columns p0 p1 p2 p3 p4) (hK _ rfl)
  refine⟨rfl,ann160,ay,.raw,(aG (by kernel_rfl)),?_⟩
  ·rw[vc160]
   exact(oC h (fun _ h=>⟨h_b,⟨p0,⟨p1,(oG h fun _ h=>(oL h fun _ _ h=>(oC h (fun _ h=>⟨h_b,⟨h_columns,⟨p0,(oG h fun _ h=>(oG h fun _ h=>(oL h fun _ _ h=>h)))⟩⟩⟩) fun _ h=>(oC h (fun _ h=>⟨h_b,⟨h_columns,⟨p0,(oG h fun _ h=>(oG h fun _ h=>(oG h fun _ h=>(oG h fun _ h=>(oL h fun _ _ h=>⟨h_b,⟨h_columns,⟨p0,(oG h fun _ h=>(oG h fun _ h=>(oL h fun _ _ h=>(oG h fun _ h=>(oG h fun _ h=>h)))))⟩⟩⟩)))))⟩⟩⟩) fun _ h=>(oC h (fun _ h=>⟨h_b,⟨h_columns,⟨p0,(oG h fun _ h=>(oG h fun _ h=>(oL h fun _ _ h=>h)))⟩⟩⟩) fun _ h=>⟨h_b,⟨p0,(oG h fun _ h=>(oG h fun _ h=>(oL h fun _ _ h=>(oC h (fun _ h=>⟨h_b,⟨h_columns,⟨p0,(oG h fun _ h=>(oG h fun _ h=>(oG h fun _ h=>(oG h fun _ h=>(oL h fun _ _ h=>⟨h_b,⟨h_columns,⟨p0,(oG h fun _ h=>(oG h fun _ h=>(oG h fun _ h=>(oG h fun _ h=>(oL h fun _ _ h=>(oG h fun _ h=>⟨h_b,⟨p0,(oG h fun _ h=>(oG h fun _ h=>(oL h fun _ _ h=>(oG h fun _ h=>h))))⟩⟩))))))⟩⟩⟩)))))⟩⟩⟩) fun _ h=>(oC h (fun _ h=>⟨h_b,⟨h_columns,⟨p0,(oG h fun _ h=>(oG h fun _ h=>(oG h fun _ h=>(oG h fun _ h=>(oL h fun _ _ h=>(oG h fun _ h=>h))))))⟩⟩⟩) fun _ h=>(oC h (fun _ h=>⟨h_b,⟨p0,(oG h fun _ h=>(oG h fun _ h=>(oL h fun _ _ h=>⟨h_b,⟨h_columns,⟨p0,(oG h fun _ h=>(oG h fun _ h=>(oG h fun _ h=>(oG h fun _ h=>(oL h fun _ _ h=>(oG h fun _ h=>h))))))⟩⟩⟩)))⟩⟩) fun _ h=>⟨h_b,⟨p0,(oG h fun _ h=>(oG h fun _ h=>(oL h fun _ _ h=>⟨h_b,⟨h_columns,⟨p0,(oG h fun _ h=>(oG h fun _ h=>(oG h fun _ h=>(oG h fun _ h=>(oL h fun _ _ h=>⟨h_b,⟨h_columns,⟨p0,(oG h fun _ h=>(oG h fun _ h=>(oL h fun _ _ h=>(oG h fun _ h=>⟨h_b,⟨p0,(oG h fun _ h=>(oG h fun _ h=>(oL h fun _ _ h=>(oG h fun _ h=>h))))⟩⟩))))⟩⟩⟩)))))⟩⟩⟩)))⟩⟩))))))⟩⟩)))))⟩⟩⟩) fun _ h=>⟨h_b,⟨h_columns,⟨p0,⟨p1,(oG h fun _ h=>(oL h fun _ _ h=>h))⟩⟩⟩⟩)) (con160r_ok n_)
def c160:Con:=c160r 64
theorem con160_ok:aV P 160 c160:=con160r_ok 64
end Go.AE
