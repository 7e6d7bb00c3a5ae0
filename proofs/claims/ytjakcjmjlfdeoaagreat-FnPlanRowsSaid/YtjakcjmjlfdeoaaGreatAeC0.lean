/- Contracts. -/
import Derived.Test.YtjakcjmjlfdeoaaGreatAeInl
import Derived.Test.YtjakcjmjlfdeoaaGreatAeEq
namespace Go.AE
open Go Go.RowKit Go.Proofs.Tryz
set_option maxRecDepth 100000
set_option maxHeartbeats 2000000
set_option linter.unusedVariables false
abbrev Q0 (p:Prop):Prop:=(p/\p)
theorem q0 {p:Prop} (h:p):Q0 p:=⟨h,h⟩
abbrev Q1 (p:Prop):Prop:=((p/\p)/\p)
theorem q1 {p:Prop} (h:p):Q1 p:=⟨⟨h,h⟩,h⟩
abbrev Q2 (p:Prop):Prop:=((p/\p)/\(p/\(p/\p))/\(p/\(p/\p)))
theorem q2 {p:Prop} (h:p):Q2 p:=⟨⟨h,h⟩,⟨h,⟨h,h⟩⟩,⟨h,⟨h,h⟩⟩⟩
abbrev Q3 (p:Prop):Prop:=(p/\(p/\p))
theorem q3 {p:Prop} (h:p):Q3 p:=⟨h,⟨h,h⟩⟩
abbrev Q4 (p:Prop):Prop:=(p/\(p/\(p/\p)))
theorem q4 {p:Prop} (h:p):Q4 p:=⟨h,⟨h,⟨h,h⟩⟩⟩
abbrev Q5 (p:Prop):Prop:=((p/\(p/\p))/\((p/\p)/\p))
theorem q5 {p:Prop} (h:p):Q5 p:=⟨⟨h,⟨h,h⟩⟩,⟨⟨h,h⟩,h⟩⟩
def c60:Con:=⟨[.dat aE,.dat aE,.dat aE],fun args hp K=>g3 (pD aE) (pD aE) (pD aE) (fun n low high=>K (dB (M.inR n low high)) []) args hp,.plain,false⟩
abbrev C60:Ctx:=cx [] 15 [] 0 false
def ann60:=an [[kp 7],[kp 64]] []
theorem vc60 (n:Int) (low:Int) (high:Int) (K:KA):vcT C60 ay ann60 f60 [dI n,dI low,dI high] [] (.dat Ty.bool) K =
 (cond ((decide (low<=n))==true) (K (dB (decide (n<=high))) []) (K (dB false) [])):=by kernel_rfl
theorem con60_ok:aT P 60 c60:=aZ C60 func60 kN fun args hp K h0=>by
 obtain⟨n,low,high,rfl,rfl,hK⟩:=g3e h0
 have h:ok (F.oD n low high) (fun r=>K (dB r) []):=az (F.wj n low high) hK
 refine⟨rfl,ann60,ay,(.dat Ty.bool),(aG (by kernel_rfl)),?_⟩
 ·rw[vc60]
  exact(oC h (fun _ h=>h) fun _ h=>h)
def c162:Con:=⟨[.dat ag],fun args hp K=>g1 (pD ag) (fun c=>K (dB (!M.dQ c)) []) args hp,.plain,false⟩
abbrev C162:Ctx:=cx [(60,c60)] 7 [] 0 false
def ann162:=an [[.fixRow 1 ag,kp 2],[kp 4]] []
theorem vc162 (c:ag.D) (K:KA):vcT C162 ay ann162 f162 [.data ag c] [] (.dat Ty.bool) K =
 (K (dB (!(M.inR c.1 Z1 Z3))) []):=by kernel_rfl
theorem con162_ok:aT P 162 c162:=aZ C162 func162 (kC con60_ok kN) fun args hp K h0=>by
 obtain⟨c,rfl,rfl,hK⟩:=g1e h0
 have h:ok (F.ny c) (fun r=>K (dB r) []):=az (F.rj c) hK
 refine⟨rfl,ann162,ay,(.dat Ty.bool),(aG (by kernel_rfl)),?_⟩
 ·rw[vc162]
  exact h
def c191:Con:=⟨[.lent ag,.any],fun args hp K=>args2 (fun a0 a1=>kL ag a0 fun xs=>pI 162 a1 (we ((Sm TCS xs)/\K (dI (M.idx (t:=ag) (fun e=>!M.dQ e) xs)) []))) args hp,.plain,false⟩
abbrev C191:Ctx:=cx [(162,c162)] 19 [] 0 false
def ann191:=an [[kp 3],[kp 387],[kp 899],[kp 419],[kp 65955],[kp 16],[kp 387],[kp 16]] [[kp 0]]
abbrev s191_0 (xs:LC) (i0:Int) (v0:Unit):St:=⟨[(0,.brw ag xs),(1,.fn 162 []),(7,dI (xs.length:Int)),(8,dI i0)],[]⟩
abbrev LP191_0 (xs:LC) (m:Nat) (st_:St) (K:KX):Prop:=True/\dJ (s191_0 xs) Z0 (xs.length:Int) (F.cD xs) (fun v0:Unit=>True) (bq (fun v0:Unit=>True->K (.exit 0) (⟨[],[]⟩:St)) (fun q0:Int=>K .ret (⟨[(4,dI q0)],[]⟩:St))) m st_
def L191 (xs:LC):bD:=lp1 0 (LP191_0 xs)
theorem vc191 (xs:LC) (K:KA):vcT C191 (L191 xs) ann191 f191 [.brw ag xs,.fn 162 []] [] (.dat aE) K =
 (∃m_,True/\dJ (s191_0 xs) Z0 (xs.length:Int) (F.cD xs) (fun v0:Unit=>True) (bq (fun v0:Unit=>True->K (dI (-1:Int)) []) (fun q0:Int=>K (dI q0) [])) m_ (s191_0 xs Z0 ())):=by kernel_rfl
theorem lvc191_0 (xs:LC)  (i0:Int) (v0:Unit) (m:Nat) (K:KX):lvT C191 (L191 xs) ann191 f191 0 0 (s191_0 xs i0 v0) m K =
 (cond (decide (i0<(xs.length:Int))) ((0<=i0)/\(i0<(xs.length:Int))/\cond (!M.dQ (nC xs i0)) (K .ret (⟨[(4,dI i0)],[]⟩:St)) (nxT (LP191_0 xs) m K (s191_0 xs (wrap64 (i0+Z1)) ()))) (K (.exit 0) (⟨[],[]⟩:St))):=by kernel_rfl
theorem con191_ok:aT P 191 c191:=aZ C191 func191 (kC con162_ok kN) fun args hp K h0=>by
 obtain⟨a0,a1,rfl,rfl,h1⟩:=bO h0
 obtain⟨xs,rfl,h2⟩:=cW h1
 obtain⟨cs1,rfl,h3⟩:=eN h2
 obtain⟨rfl,h4⟩:=jw h3
 obtain⟨h_xs,hK⟩:=h4
 have h:ok (F.gn xs) (fun r=>K (dI r) []):=az (F.jV xs h_xs) hK
 refine⟨rfl,ann191,(L191 xs),(.dat aE),(bH (i0:=0) (by kernel_rfl) ?_),?_⟩
 ·rintro _ _ K ⟨hc0,i0,v0,rfl,hl0,rfl,hv0,h⟩
  exact cast (lvc191_0 _ _ _ _ _).symm (cC h (fun ht0 h=>⟨hl0,⟨ht0,(oC h (fun _ h=>h) fun _ h=>(bT (fun _ hm=>⟨hc0,hm⟩) _ rfl hl0 nu ht0 (bu h_xs) trivial h))⟩⟩) fun h=>(h trivial))
 ·rw[vc191]
  exact(bZ (fun m hm=>⟨trivial,hm⟩) Z0 _ rfl (Int.natCast_nonneg 0) trivial (aU h (fun v0 h hv0=>h) (fun q0 h=>h)))
def c161:Con:=⟨[.lent ag,.any],fun args hp K=>args2 (fun a0 a1=>kL ag a0 fun xs=>pI 162 a1 (we ((Sm TCS xs)/\K (dB (List.any xs (fun e=>!M.dQ e))) []))) args hp,.plain,false⟩
abbrev C161:Ctx:=cx [(162,c162),(191,c191)] 9 [] 0 false
def ann161:=an [[kp 3],[kp 16]] []
theorem vc161 (xs:LC) (K:KA):vcT C161 ay ann161 f161 [.brw ag xs,.fn 162 []] [] (.dat Ty.bool) K =
 ((Sm TCS xs)/\K (dB (decide (Z0<=(M.idx (t:=ag) (fun e=>!M.dQ e) xs)))) []):=by kernel_rfl
theorem con161_ok:aT P 161 c161:=aZ C161 func161 (kC con162_ok (kC con191_ok kN)) fun args hp K h0=>by
 obtain⟨a0,a1,rfl,rfl,h1⟩:=bO h0
 obtain⟨xs,rfl,h2⟩:=cW h1
 obtain⟨cs1,rfl,h3⟩:=eN h2
 obtain⟨rfl,h4⟩:=jw h3
 obtain⟨h_xs,hK⟩:=h4
 have h:ok (F.dA xs) (fun r=>K (dB r) []):=az (F.iN xs h_xs) hK
 refine⟨rfl,ann161,ay,(.dat Ty.bool),(aG (by kernel_rfl)),?_⟩
 ·rw[vc161]
  exact⟨h_xs,h⟩
def c107:Con:=⟨[.dat TCS],fun args hp K=>g1 (pD TCS) (fun columns=>(Sm TCS columns)/\K (dB (M.bA columns)) []) args hp,.plain,false⟩
abbrev C107:Ctx:=cx [(161,c161)] 11 [] 0 false
def ann107:=an [[kp 1],[kp 4]] []
theorem vc107 (columns:LC) (K:KA):vcT C107 ay ann107 f107 [.data TCS columns] [] (.dat Ty.bool) K =
 (cond ((decide ((columns.length:Int)<=Z4))==true) ((Sm TCS columns)/\K (dB (!(List.any columns (fun e=>!M.dQ e)))) []) (K (dB false) [])):=by kernel_rfl
theorem con107_ok:aT P 107 c107:=aZ C107 func107 (kC con161_ok kN) fun args hp K h0=>by
 obtain⟨columns,rfl,rfl,h_columns,hK⟩:=g1e h0
 have h:ok (F.lN columns) (fun r=>K (dB r) []):=az (F.tC columns h_columns) hK
 refine⟨rfl,ann107,ay,(.dat Ty.bool),(aG (by kernel_rfl)),?_⟩
 ·rw[vc107]
  exact(oC h (fun _ h=>⟨h_columns,h⟩) fun _ h=>h)
def c143:Con:=⟨[.dat Ty.str],fun args hp K=>g1 (pD Ty.str) (fun s=>(Sm Ty.str s)/\K (dB (M.lower (bM s))) []) args hp,.plain,false⟩
abbrev C143:Ctx:=cx [(60,c60)] 17 [] 0 false
def ann143:=an [[kp 1],[kp 448],[kp 960],[kp 464],[kp 33216],[kp 4],[kp 448],[kp 4]] [[kp 0]]
abbrev s143_0 (s:ByteArray) (i0:Int) (v0:Unit):St:=⟨[(6,.data TBy (bM s)),(7,dI ((bM s).length:Int)),(8,dI i0)],[]⟩
abbrev LP143_0 (s:ByteArray) (m:Nat) (st_:St) (K:KX):Prop:=True/\bJ (t:=(Ty.int .u8)) (s143_0 s) (bM s) (F.ir s) (fun v0:Unit=>True) (bq (fun v0:Unit=>True->K (.exit 0) (⟨[],[]⟩:St)) (fun q0:Unit=>K .ret (⟨[(2,dB false)],[]⟩:St))) m st_
def L143 (s:ByteArray):bD:=lp1 0 (LP143_0 s)
theorem vc143 (s:ByteArray) (K:KA):vcT C143 (L143 s) ann143 f143 [.data Ty.str s] [] (.dat Ty.bool) K =
 (∃m_,True/\bJ (t:=(Ty.int .u8)) (s143_0 s) (bM s) (F.ir s) (fun v0:Unit=>True) (bq (fun v0:Unit=>True->K (dB true) []) (fun q0:Unit=>K (dB false) [])) m_ (s143_0 s Z0 ())):=by kernel_rfl
theorem lvc143_0 (s:ByteArray)  (i0:Int) (v0:Unit) (m:Nat) (K:KX):lvT C143 (L143 s) ann143 f143 0 0 (s143_0 s i0 v0) m K =
 (cond (decide (i0<((bM s).length:Int))) ((0<=i0)/\(i0<((bM s).length:Int))/\cond (!(M.inR (wrap64 (nth (t:=(Ty.int .u8)) (bM s) i0)) (97:Int) (122:Int))) (K .ret (⟨[(2,dB false)],[]⟩:St)) (nxT (LP143_0 s) m K (s143_0 s (wrap64 (i0+Z1)) ()))) (K (.exit 0) (⟨[],[]⟩:St))):=by kernel_rfl
theorem con143_ok:aT P 143 c143:=aZ C143 func143 (kC con60_ok kN) fun args hp K h0=>by
 obtain⟨s,rfl,rfl,h_s,hK⟩:=g1e h0
 have h:ok (F.oS s) (fun r=>K (dB r) []):=az (F.wK s h_s) hK
 refine⟨rfl,ann143,(L143 s),(.dat Ty.bool),(bH (i0:=0) (by kernel_rfl) ?_),?_⟩
 ·rintro _ _ K ⟨hc0,i0,v0,rfl,hl0,rfl,hv0,h⟩
  exact cast (lvc143_0 _ _ _ _ _).symm (aW (t:=(Ty.int .u8)) hl0 h (fun ht0 h=>⟨hl0,⟨ht0,(oC h (fun _ h=>h) fun _ h=>(aP (t:=(Ty.int .u8)) (fun _ hm=>⟨hc0,hm⟩) _ rfl hl0 ht0 (bu (Gm h_s)) trivial h))⟩⟩) fun h=>(h trivial))
 ·rw[vc143]
  exact(aQ (t:=(Ty.int .u8)) (fun m hm=>⟨trivial,hm⟩) _ rfl trivial (aU h (fun v0 h hv0=>h) (fun q0 h=>h)))
def c91:Con:=⟨[.dat aa],fun args hp K=>g1 (pD aa) (fun v=>(Sm aa v)/\K (dB (M.aL v)) []) args hp,.plain,false⟩
abbrev C91:Ctx:=cx [(60,c60),(143,c143)] 46 [] 0 false
def ann91:=an [[.fixRow 1 aa,kp 2],[kp 18],[kp 50],[kp 4],[kp 1042],[kp 4],[kp 1048594],[kp 4],[.keep [1,36]],[kp 4],[kp 4]] []
theorem vc91 (v:aa.D) (K:KA):vcT C91 ay ann91 f91 [.data aa v] [] (.dat Ty.bool) K =
 (cond (decide (v.1=Z0)) (K (dB (Ty.beq aa v (Z0,(Z0,((⟨#[]⟩:ByteArray),()))))) []) (cond (decide (v.1=Z1)) (cond ((decide (v.2.2.1=(⟨#[]⟩:ByteArray)))==true) (K (dB (M.inR v.2.1 (-9999:Int) (9999:Int))) []) (K (dB false) [])) (cond (decide (v.1=Z2)) (cond ((decide (v.2.1=Z0))==true) (cond ((decide ((v.2.2.1.size:Int)<=Z6))==true) ((Sm Ty.str v.2.2.1)/\K (dB (M.lower (bM v.2.2.1))) []) (K (dB false) [])) (K (dB false) [])) (cond (decide (v.1=Z3)) (cond ((decide (v.2.2.1=(⟨#[]⟩:ByteArray)))==true) (K (dB (M.inR v.2.1 Z0 Z1)) []) (K (dB false) [])) (K (dB false) []))))):=by kernel_rfl
theorem con91_ok:aT P 91 c91:=aZ C91 func91 (kC con60_ok (kC con143_ok kN)) fun args hp K h0=>by
 obtain⟨v,rfl,rfl,h_v,hK⟩:=g1e h0
 have h:ok (F.mV v) (fun r=>K (dB r) []):=az (F.vu v h_v) hK
 refine⟨rfl,ann91,ay,(.dat Ty.bool),(aG (by kernel_rfl)),?_⟩
 ·rw[vc91]
  exact(oC h (fun _ h=>h) fun _ h=>(oC h (fun _ h=>(oC h (fun _ h=>h) fun _ h=>h)) fun _ h=>(oC h (fun _ h=>(oC h (fun _ h=>(oC h (fun _ h=>⟨h_v.2.2.1,h⟩) fun _ h=>h)) fun _ h=>h)) fun _ h=>(oC h (fun _ h=>(oC h (fun _ h=>h) fun _ h=>h)) fun _ h=>h))))
def c136:Con:=⟨[.dat aa],fun args hp K=>g1 (pD aa) (fun v=>(Sm aa v)/\K (dB (!M.aL v)) []) args hp,.plain,false⟩
abbrev C136:Ctx:=cx [(91,c91)] 6 [] 0 false
def ann136:=an [[.fixRow 1 aa,kp 2],[kp 4]] []
theorem vc136 (v:aa.D) (K:KA):vcT C136 ay ann136 f136 [.data aa v] [] (.dat Ty.bool) K =
 ((Sm aa v)/\K (dB (!(M.aL v))) []):=by kernel_rfl
theorem con136_ok:aT P 136 c136:=aZ C136 func136 (kC con91_ok kN) fun args hp K h0=>by
 obtain⟨v,rfl,rfl,h_v,hK⟩:=g1e h0
 have h:ok (F.tq v) (fun r=>K (dB r) []):=az (F.wX v h_v) hK
 refine⟨rfl,ann136,ay,(.dat Ty.bool),(aG (by kernel_rfl)),?_⟩
 ·rw[vc136]
  exact⟨h_v,h⟩
def c177:Con:=⟨[.lent aa,.any],fun args hp K=>args2 (fun a0 a1=>kL aa a0 fun xs=>pI 136 a1 (we ((Sm TVS xs)/\K (dI (M.idx (t:=aa) (fun e=>!M.aL e) xs)) []))) args hp,.plain,false⟩
abbrev C177:Ctx:=cx [(136,c136)] 19 [] 0 false
def ann177:=an [[kp 3],[kp 387],[kp 899],[kp 419],[kp 65955],[kp 16],[kp 387],[kp 16]] [[kp 0]]
abbrev s177_0 (xs:LV) (i0:Int) (v0:Unit):St:=⟨[(0,.brw aa xs),(1,.fn 136 []),(7,dI (xs.length:Int)),(8,dI i0)],[]⟩
abbrev LP177_0 (xs:LV) (m:Nat) (st_:St) (K:KX):Prop:=True/\dJ (s177_0 xs) Z0 (xs.length:Int) (F.dh xs) (fun v0:Unit=>True) (bq (fun v0:Unit=>True->K (.exit 0) (⟨[],[]⟩:St)) (fun q0:Int=>K .ret (⟨[(4,dI q0)],[]⟩:St))) m st_
def L177 (xs:LV):bD:=lp1 0 (LP177_0 xs)
theorem vc177 (xs:LV) (K:KA):vcT C177 (L177 xs) ann177 f177 [.brw aa xs,.fn 136 []] [] (.dat aE) K =
 (∃m_,True/\dJ (s177_0 xs) Z0 (xs.length:Int) (F.dh xs) (fun v0:Unit=>True) (bq (fun v0:Unit=>True->K (dI (-1:Int)) []) (fun q0:Int=>K (dI q0) [])) m_ (s177_0 xs Z0 ())):=by kernel_rfl
theorem lvc177_0 (xs:LV)  (i0:Int) (v0:Unit) (m:Nat) (K:KX):lvT C177 (L177 xs) ann177 f177 0 0 (s177_0 xs i0 v0) m K =
 (cond (decide (i0<(xs.length:Int))) ((0<=i0)/\(i0<(xs.length:Int))/\(Sm aa (nV xs i0))/\cond (!M.aL (nV xs i0)) (K .ret (⟨[(4,dI i0)],[]⟩:St)) (nxT (LP177_0 xs) m K (s177_0 xs (wrap64 (i0+Z1)) ()))) (K (.exit 0) (⟨[],[]⟩:St))):=by kernel_rfl
theorem con177_ok:aT P 177 c177:=aZ C177 func177 (kC con136_ok kN) fun args hp K h0=>by
 obtain⟨a0,a1,rfl,rfl,h1⟩:=bO h0
 obtain⟨xs,rfl,h2⟩:=cW h1
 obtain⟨cs1,rfl,h3⟩:=eN h2
 obtain⟨rfl,h4⟩:=jw h3
 obtain⟨h_xs,hK⟩:=h4
 have h:ok (F.iV xs) (fun r=>K (dI r) []):=az (F.lX xs h_xs) hK
 refine⟨rfl,ann177,(L177 xs),(.dat aE),(bH (i0:=0) (by kernel_rfl) ?_),?_⟩
 ·rintro _ _ K ⟨hc0,i0,v0,rfl,hl0,rfl,hv0,h⟩
  exact cast (lvc177_0 _ _ _ _ _).symm (cC h (fun ht0 h=>⟨hl0,⟨ht0,⟨(aJ h_xs i0),(oC h (fun _ h=>h) fun _ h=>(bT (fun _ hm=>⟨hc0,hm⟩) _ rfl hl0 nu ht0 (bu h_xs) trivial h))⟩⟩⟩) fun h=>(h trivial))
 ·rw[vc177]
  exact(bZ (fun m hm=>⟨trivial,hm⟩) Z0 _ rfl (Int.natCast_nonneg 0) trivial (aU h (fun v0 h hv0=>h) (fun q0 h=>h)))
def c135:Con:=⟨[.lent aa,.any],fun args hp K=>args2 (fun a0 a1=>kL aa a0 fun xs=>pI 136 a1 (we ((Sm TVS xs)/\K (dB (List.any xs (fun e=>!M.aL e))) []))) args hp,.plain,false⟩
abbrev C135:Ctx:=cx [(136,c136),(177,c177)] 9 [] 0 false
def ann135:=an [[kp 3],[kp 16]] []
theorem vc135 (xs:LV) (K:KA):vcT C135 ay ann135 f135 [.brw aa xs,.fn 136 []] [] (.dat Ty.bool) K =
 ((Sm TVS xs)/\K (dB (decide (Z0<=(M.idx (t:=aa) (fun e=>!M.aL e) xs)))) []):=by kernel_rfl
theorem con135_ok:aT P 135 c135:=aZ C135 func135 (kC con136_ok (kC con177_ok kN)) fun args hp K h0=>by
 obtain⟨a0,a1,rfl,rfl,h1⟩:=bO h0
 obtain⟨xs,rfl,h2⟩:=cW h1
 obtain⟨cs1,rfl,h3⟩:=eN h2
 obtain⟨rfl,h4⟩:=jw h3
 obtain⟨h_xs,hK⟩:=h4
 have h:ok (F.ew xs) (fun r=>K (dB r) []):=az (F.ki xs h_xs) hK
 refine⟨rfl,ann135,ay,(.dat Ty.bool),(aG (by kernel_rfl)),?_⟩
 ·rw[vc135]
  exact⟨h_xs,h⟩
def c83:Con:=⟨[.dat TVS],fun args hp K=>g1 (pD TVS) (fun row=>(Sm TVS row)/\K (dB (M.nE row)) []) args hp,.plain,false⟩
abbrev C83:Ctx:=cx [(135,c135)] 11 [] 0 false
def ann83:=an [[kp 1],[kp 4]] []
theorem vc83 (row:LV) (K:KA):vcT C83 ay ann83 f83 [.data TVS row] [] (.dat Ty.bool) K =
 (cond ((decide ((row.length:Int)<=Z4))==true) ((Sm TVS row)/\K (dB (!(List.any row (fun e=>!M.aL e)))) []) (K (dB false) [])):=by kernel_rfl
theorem con83_ok:aT P 83 c83:=aZ C83 func83 (kC con135_ok kN) fun args hp K h0=>by
 obtain⟨row,rfl,rfl,h_row,hK⟩:=g1e h0
 have h:ok (F.rO row) (fun r=>K (dB r) []):=az (F.zv row h_row) hK
 refine⟨rfl,ann83,ay,(.dat Ty.bool),(aG (by kernel_rfl)),?_⟩
 ·rw[vc83]
  exact(oC h (fun _ h=>⟨h_row,h⟩) fun _ h=>h)
def c65:Con:=⟨[.dat TCS,.dat TVS],fun args hp K=>g2 (pD TCS) (pD TVS) (fun columns row=>(Sm TCS columns)/\(Sm TVS row)/\K (dB (M.cr columns row)) []) args hp,.plain,false⟩
abbrev C65:Ctx:=cx [(83,c83),(107,c107)] 51 [] 0 false
def ann65:=an [[kp 3],[kp 2097155],[kp 16],[kp 29360129],[kp 62914561],[.fixRow 6 aa,kp 29360225],[kp 562949982781441],[kp 16],[kp 29360129],[kp 16]] [[kp 0]]
abbrev s65_0 (columns:LC) (row:LV) (i0:Int) (v0:Unit):St:=⟨[(0,.data TCS columns),(22,.data TVS row),(23,dI (row.length:Int)),(24,dI i0)],[]⟩
abbrev LP65_0 (columns:LC) (row:LV) (m:Nat) (st_:St) (K:KX):Prop:=True/\dJ (s65_0 columns row) Z0 (row.length:Int) (F.iA columns row) (fun v0:Unit=>True) (bq (fun v0:Unit=>True->K (.exit 0) (⟨[],[]⟩:St)) (fun q0:Unit=>K .ret (⟨[(4,dB false)],[]⟩:St))) m st_
def L65 (columns:LC) (row:LV):bD:=lp1 0 (LP65_0 columns row)
theorem vc65 (columns:LC) (row:LV) (K:KA):vcT C65 (L65 columns row) ann65 f65 [.data TCS columns,.data TVS row] [] (.dat Ty.bool) K =
 ((Sm TCS columns)/\cond ((!(M.bA columns))==false) ((Sm TVS row)/\cond ((!(M.nE row))==false) (cond (!decide ((row.length:Int)=(columns.length:Int))) (K (dB false) []) (∃m_,True/\dJ (s65_0 columns row) Z0 (row.length:Int) (F.iA columns row) (fun v0:Unit=>True) (bq (fun v0:Unit=>True->K (dB true) []) (fun q0:Unit=>K (dB false) [])) m_ (s65_0 columns row Z0 ()))) (K (dB false) [])) (K (dB false) [])):=by kernel_rfl
theorem lvc65_0 (columns:LC) (row:LV)  (i0:Int) (v0:Unit) (m:Nat) (K:KX):lvT C65 (L65 columns row) ann65 f65 0 0 (s65_0 columns row i0 v0) m K =
 (cond (decide (i0<(row.length:Int))) ((0<=i0)/\(i0<(row.length:Int))/\(0<=i0)/\(i0<(columns.length:Int))/\cond ((!decide ((nV row i0).1=(nC columns i0).1))==true) (cond ((!decide ((nV row i0).1=Z0))==false) ((0<=i0)/\(i0<(columns.length:Int))/\cond (!(nC columns i0).2.1) (K .ret (⟨[(4,dB false)],[]⟩:St)) (nxT (LP65_0 columns row) m K (s65_0 columns row (wrap64 (i0+Z1)) ()))) (K .ret (⟨[(4,dB false)],[]⟩:St))) (nxT (LP65_0 columns row) m K (s65_0 columns row (wrap64 (i0+Z1)) ()))) (K (.exit 0) (⟨[],[]⟩:St))):=by kernel_rfl
theorem con65_ok:aT P 65 c65:=aZ C65 func65 (kC con83_ok (kC con107_ok kN)) fun args hp K h0=>by
 obtain⟨columns,row,rfl,rfl,h_columns,h_row,hK⟩:=g2e h0
 have h:ok (F.oH columns row) (fun r=>K (dB r) []):=az (F.wP columns row h_columns h_row) hK
 refine⟨rfl,ann65,(L65 columns row),(.dat Ty.bool),(bH (i0:=0) (by kernel_rfl) ?_),?_⟩
 ·rintro _ _ K ⟨hc0,i0,v0,rfl,hl0,rfl,hv0,h⟩
  exact cast (lvc65_0 _ _ _ _ _ _).symm (cC h (fun ht0 h=>⟨hl0,⟨ht0,⟨hl0,(oG h fun g1 h=>(oC h (fun _ h=>(oC h (fun _ h=>⟨hl0,⟨g1,(oC h (fun _ h=>h) fun _ h=>(bT (fun _ hm=>⟨hc0,hm⟩) _ rfl hl0 nu ht0 (bu h_row) trivial h))⟩⟩) fun _ h=>h)) fun _ h=>(bT (fun _ hm=>⟨hc0,hm⟩) _ rfl hl0 nu ht0 (bu h_row) trivial h)))⟩⟩⟩) fun h=>(h trivial))
 ·rw[vc65]
  exact⟨h_columns,(oC h (fun _ h=>⟨h_row,(oC h (fun _ h=>(oC h (fun _ h=>h) fun _ h=>(bZ (fun m hm=>⟨trivial,hm⟩) Z0 _ rfl (Int.natCast_nonneg 0) trivial (aU h (fun v0 h hv0=>h) (fun q0 h=>h))))) fun _ h=>h)⟩) fun _ h=>h)⟩
def c172:Con:=⟨[.dat TVS,.any],fun args hp K=>g2 (pD TVS) (pR TCS) (fun r columns=>(Sm TVS r)/\(Sm TCS columns)/\K (dB (!M.cr columns r)) []) args hp,.plain,false⟩
abbrev C172:Ctx:=cx [(65,c65)] 8 [] 0 false
def ann172:=an [[kp 3],[kp 8]] []
theorem vc172 (r:LV) (columns:LC) (K:KA):vcT C172 ay ann172 f172 [.data TVS r,.ref (.data TCS columns)] [] (.dat Ty.bool) K =
 ((Sm TCS columns)/\(Sm TVS r)/\K (dB (!(M.cr columns r))) []):=by kernel_rfl
theorem con172_ok:aT P 172 c172:=aZ C172 func172 (kC con65_ok kN) fun args hp K h0=>by
 obtain⟨r,columns,rfl,rfl,h_r,h_columns,hK⟩:=g2e h0
 have h:ok (F.rL r columns) (fun r=>K (dB r) []):=az (F.vi r columns h_r h_columns) hK
 refine⟨rfl,ann172,ay,(.dat Ty.bool),(aG (by kernel_rfl)),?_⟩
 ·rw[vc172]
  exact⟨h_columns,⟨h_r,h⟩⟩
def c167:Con:=⟨[.lent TVS,.any],fun args hp K=>args2 (fun a0 a1=>kL TVS a0 fun xs=>pI 172 a1 (zW (fun b1_0=>yF TCS b1_0 fun k0=>(Sm (Ty.sl TVS) xs)/\(Sm TCS k0)/\K (dI (M.idx (t:=TVS) (fun e=>!M.cr k0 e) xs)) []))) args hp,.plain,false⟩
abbrev C167:Ctx:=cx [(172,c172)] 19 [] 0 false
def ann167:=an [[kp 3],[kp 387],[kp 899],[kp 419],[kp 65955],[kp 16],[kp 387],[kp 16]] [[kp 0]]
abbrev s167_0 (xs:(List LV)) (k0:LC) (i0:Int) (v0:Unit):St:=⟨[(0,.brw TVS xs),(1,.fn 172 [.ref (.data TCS k0)]),(7,dI (xs.length:Int)),(8,dI i0)],[]⟩
abbrev LP167_0 (xs:(List LV)) (k0:LC) (m:Nat) (st_:St) (K:KX):Prop:=True/\dJ (s167_0 xs k0) Z0 (xs.length:Int) (F.cS xs k0) (fun v0:Unit=>True) (bq (fun v0:Unit=>True->K (.exit 0) (⟨[],[]⟩:St)) (fun q0:Int=>K .ret (⟨[(4,dI q0)],[]⟩:St))) m st_
def L167 (xs:(List LV)) (k0:LC):bD:=lp1 0 (LP167_0 xs k0)
theorem vc167 (xs:(List LV)) (k0:LC) (K:KA):vcT C167 (L167 xs k0) ann167 f167 [.brw TVS xs,.fn 172 [.ref (.data TCS k0)]] [] (.dat aE) K =
 (∃m_,True/\dJ (s167_0 xs k0) Z0 (xs.length:Int) (F.cS xs k0) (fun v0:Unit=>True) (bq (fun v0:Unit=>True->K (dI (-1:Int)) []) (fun q0:Int=>K (dI q0) [])) m_ (s167_0 xs k0 Z0 ())):=by kernel_rfl
theorem lvc167_0 (xs:(List LV)) (k0:LC)  (i0:Int) (v0:Unit) (m:Nat) (K:KX):lvT C167 (L167 xs k0) ann167 f167 0 0 (s167_0 xs k0 i0 v0) m K =
 (cond (decide (i0<(xs.length:Int))) ((0<=i0)/\(i0<(xs.length:Int))/\(Sm TVS (nth (t:=TVS) xs i0))/\(Sm TCS k0)/\cond (!M.cr k0 (nth (t:=TVS) xs i0)) (K .ret (⟨[(4,dI i0)],[]⟩:St)) (nxT (LP167_0 xs k0) m K (s167_0 xs k0 (wrap64 (i0+Z1)) ()))) (K (.exit 0) (⟨[],[]⟩:St))):=by kernel_rfl
theorem con167_ok:aT P 167 c167:=aZ C167 func167 (kC con172_ok kN) fun args hp K h0=>by
 obtain⟨a0,a1,rfl,rfl,h1⟩:=bO h0
 obtain⟨xs,rfl,h2⟩:=cW h1
 obtain⟨cs1,rfl,h3⟩:=eN h2
 obtain⟨b1_0,rfl,h4⟩:=oV h3
 obtain⟨k0,rfl,h5⟩:=lW h4
 obtain⟨h_xs,h_k0,hK⟩:=h5
 have h:ok (F.iH xs k0) (fun r=>K (dI r) []):=az (F.lI xs k0 h_xs h_k0) hK
 refine⟨rfl,ann167,(L167 xs k0),(.dat aE),(bH (i0:=0) (by kernel_rfl) ?_),?_⟩
 ·rintro _ _ K ⟨hc0,i0,v0,rfl,hl0,rfl,hv0,h⟩
  exact cast (lvc167_0 _ _ _ _ _ _).symm (cC h (fun ht0 h=>⟨hl0,⟨ht0,⟨(aJ h_xs i0),⟨h_k0,(oC h (fun _ h=>h) fun _ h=>(bT (fun _ hm=>⟨hc0,hm⟩) _ rfl hl0 nu ht0 (bu h_xs) trivial h))⟩⟩⟩⟩) fun h=>(h trivial))
 ·rw[vc167]
  exact(bZ (fun m hm=>⟨trivial,hm⟩) Z0 _ rfl (Int.natCast_nonneg 0) trivial (aU h (fun v0 h hv0=>h) (fun q0 h=>h)))
def c171:Con:=⟨[.lent TVS,.any],fun args hp K=>args2 (fun a0 a1=>kL TVS a0 fun xs=>pI 172 a1 (zW (fun b1_0=>yF TCS b1_0 fun k0=>(Sm (Ty.sl TVS) xs)/\(Sm TCS k0)/\K (dB (List.any xs (fun e=>!M.cr k0 e))) []))) args hp,.plain,false⟩
abbrev C171:Ctx:=cx [(167,c167),(172,c172)] 9 [] 0 false
def ann171:=an [[kp 3],[kp 16]] []
theorem vc171 (xs:(List LV)) (k0:LC) (K:KA):vcT C171 ay ann171 f171 [.brw TVS xs,.fn 172 [.ref (.data TCS k0)]] [] (.dat Ty.bool) K =
 ((Sm (Ty.sl TVS) xs)/\(Sm TCS k0)/\K (dB (decide (Z0<=(M.idx (t:=TVS) (fun e=>!M.cr k0 e) xs)))) []):=by kernel_rfl
theorem con171_ok:aT P 171 c171:=aZ C171 func171 (kC con167_ok (kC con172_ok kN)) fun args hp K h0=>by
 obtain⟨a0,a1,rfl,rfl,h1⟩:=bO h0
 obtain⟨xs,rfl,h2⟩:=cW h1
 obtain⟨cs1,rfl,h3⟩:=eN h2
 obtain⟨b1_0,rfl,h4⟩:=oV h3
 obtain⟨k0,rfl,h5⟩:=lW h4
 obtain⟨h_xs,h_k0,hK⟩:=h5
 have h:ok (F.dY xs k0) (fun r=>K (dB r) []):=az (F.jO xs k0 h_xs h_k0) hK
 refine⟨rfl,ann171,ay,(.dat Ty.bool),(aG (by kernel_rfl)),?_⟩
 ·rw[vc171]
  exact⟨h_xs,⟨h_k0,h⟩⟩
def c127:Con:=⟨[.dat TCS,.dat (Ty.sl TVS)],fun args hp K=>g2 (pD TCS) (pD (Ty.sl TVS)) (fun columns rows=>(Sm TCS columns)/\(Sm (Ty.sl TVS) rows)/\K (dB (M.gG columns rows)) []) args hp,.plain,false⟩
abbrev C127:Ctx:=cx [(107,c107),(171,c171),(172,c172)] 13 [] 0 false
def ann127:=an [[.fixBox 2,kp 6],[kp 16]] []
theorem vc127 (columns:LC) (rows:(List LV)) (K:KA):vcT C127 ay ann127 f127 [.data TCS columns,.data (Ty.sl TVS) rows] [] (.dat Ty.bool) K =
 ((Sm TCS columns)/\cond ((M.bA columns)==true) ((Sm (Ty.sl TVS) rows)/\(Sm TCS columns)/\K (dB (!(List.any rows (fun e=>!M.cr columns e)))) []) (K (dB false) [])):=by kernel_rfl
theorem con127_ok:aT P 127 c127:=aZ C127 func127 (kC con107_ok (kC con171_ok (kC con172_ok kN))) fun args hp K h0=>by
 obtain⟨columns,rows,rfl,rfl,h_columns,h_rows,hK⟩:=g2e h0
 have h:ok (F.qi columns rows) (fun r=>K (dB r) []):=az (F.yP columns rows h_columns h_rows) hK
 refine⟨rfl,ann127,ay,(.dat Ty.bool),(aG (by kernel_rfl)),?_⟩
 ·rw[vc127]
  exact⟨h_columns,(oC h (fun _ h=>⟨h_rows,⟨h_columns,h⟩⟩) fun _ h=>h)⟩
def c126:Con:=⟨[.dat ax],fun args hp K=>g1 (pD ax) (fun t=>(Sm ax t)/\K (dB (!M.de t)) []) args hp,.plain,false⟩
abbrev C126:Ctx:=cx [(107,c107),(127,c127)] 21 [] 0 false
def ann126:=an [[.fixRow 1 ax,kp 2],[kp 4]] []
theorem vc126 (t:ax.D) (K:KA):vcT C126 ay ann126 f126 [.data ax t] [] (.dat Ty.bool) K =
 ((Sm TCS t.1)/\cond ((!(M.bA t.1))==false) (cond ((decide (Z6<(t.2.1.length:Int)))==false) ((Sm TCS t.1)/\(Sm (Ty.sl TVS) t.2.1)/\K (dB (!(M.gG t.1 t.2.1))) []) (K (dB true) [])) (K (dB true) [])):=by kernel_rfl
theorem con126_ok:aT P 126 c126:=aZ C126 func126 (kC con107_ok (kC con127_ok kN)) fun args hp K h0=>by
 obtain⟨t,rfl,rfl,h_t,hK⟩:=g1e h0
 have h:ok (F.kq t) (fun r=>K (dB r) []):=az (F.sC t h_t) hK
 refine⟨rfl,ann126,ay,(.dat Ty.bool),(aG (by kernel_rfl)),?_⟩
 ·rw[vc126]
  exact⟨h_t.1,(oC h (fun _ h=>(oC h (fun _ h=>⟨h_t.1,⟨h_t.2.1,h⟩⟩) fun _ h=>h)) fun _ h=>h)⟩
def c170:Con:=⟨[.lent ax,.any],fun args hp K=>args2 (fun a0 a1=>kL ax a0 fun xs=>pI 126 a1 (we ((Sm TTb xs)/\K (dI (M.idx (t:=ax) (fun e=>!M.de e) xs)) []))) args hp,.plain,false⟩
abbrev C170:Ctx:=cx [(126,c126)] 19 [] 0 false
def ann170:=an [[kp 3],[kp 387],[kp 899],[kp 419],[kp 65955],[kp 16],[kp 387],[kp 16]] [[kp 0]]
abbrev s170_0 (xs:LTb) (i0:Int) (v0:Unit):St:=⟨[(0,.brw ax xs),(1,.fn 126 []),(7,dI (xs.length:Int)),(8,dI i0)],[]⟩
abbrev LP170_0 (xs:LTb) (m:Nat) (st_:St) (K:KX):Prop:=True/\dJ (s170_0 xs) Z0 (xs.length:Int) (F.cI xs) (fun v0:Unit=>True) (bq (fun v0:Unit=>True->K (.exit 0) (⟨[],[]⟩:St)) (fun q0:Int=>K .ret (⟨[(4,dI q0)],[]⟩:St))) m st_
def L170 (xs:LTb):bD:=lp1 0 (LP170_0 xs)
theorem vc170 (xs:LTb) (K:KA):vcT C170 (L170 xs) ann170 f170 [.brw ax xs,.fn 126 []] [] (.dat aE) K =
 (∃m_,True/\dJ (s170_0 xs) Z0 (xs.length:Int) (F.cI xs) (fun v0:Unit=>True) (bq (fun v0:Unit=>True->K (dI (-1:Int)) []) (fun q0:Int=>K (dI q0) [])) m_ (s170_0 xs Z0 ())):=by kernel_rfl
theorem lvc170_0 (xs:LTb)  (i0:Int) (v0:Unit) (m:Nat) (K:KX):lvT C170 (L170 xs) ann170 f170 0 0 (s170_0 xs i0 v0) m K =
 (cond (decide (i0<(xs.length:Int))) ((0<=i0)/\(i0<(xs.length:Int))/\(Sm ax (nT xs i0))/\cond (!M.de (nT xs i0)) (K .ret (⟨[(4,dI i0)],[]⟩:St)) (nxT (LP170_0 xs) m K (s170_0 xs (wrap64 (i0+Z1)) ()))) (K (.exit 0) (⟨[],[]⟩:St))):=by kernel_rfl
theorem con170_ok:aT P 170 c170:=aZ C170 func170 (kC con126_ok kN) fun args hp K h0=>by
 obtain⟨a0,a1,rfl,rfl,h1⟩:=bO h0
 obtain⟨xs,rfl,h2⟩:=cW h1
 obtain⟨cs1,rfl,h3⟩:=eN h2
 obtain⟨rfl,h4⟩:=jw h3
 obtain⟨h_xs,hK⟩:=h4
 have h:ok (F.gW xs) (fun r=>K (dI r) []):=az (F.ko xs h_xs) hK
 refine⟨rfl,ann170,(L170 xs),(.dat aE),(bH (i0:=0) (by kernel_rfl) ?_),?_⟩
 ·rintro _ _ K ⟨hc0,i0,v0,rfl,hl0,rfl,hv0,h⟩
  exact cast (lvc170_0 _ _ _ _ _).symm (cC h (fun ht0 h=>⟨hl0,⟨ht0,⟨(aJ h_xs i0),(oC h (fun _ h=>h) fun _ h=>(bT (fun _ hm=>⟨hc0,hm⟩) _ rfl hl0 nu ht0 (bu h_xs) trivial h))⟩⟩⟩) fun h=>(h trivial))
 ·rw[vc170]
  exact(bZ (fun m hm=>⟨trivial,hm⟩) Z0 _ rfl (Int.natCast_nonneg 0) trivial (aU h (fun v0 h hv0=>h) (fun q0 h=>h)))
def c125:Con:=⟨[.lent ax,.any],fun args hp K=>args2 (fun a0 a1=>kL ax a0 fun xs=>pI 126 a1 (we ((Sm TTb xs)/\K (dB (List.any xs (fun e=>!M.de e))) []))) args hp,.plain,false⟩
abbrev C125:Ctx:=cx [(126,c126),(170,c170)] 9 [] 0 false
def ann125:=an [[kp 3],[kp 16]] []
theorem vc125 (xs:LTb) (K:KA):vcT C125 ay ann125 f125 [.brw ax xs,.fn 126 []] [] (.dat Ty.bool) K =
 ((Sm TTb xs)/\K (dB (decide (Z0<=(M.idx (t:=ax) (fun e=>!M.de e) xs)))) []):=by kernel_rfl
theorem con125_ok:aT P 125 c125:=aZ C125 func125 (kC con126_ok (kC con170_ok kN)) fun args hp K h0=>by
 obtain⟨a0,a1,rfl,rfl,h1⟩:=bO h0
 obtain⟨xs,rfl,h2⟩:=cW h1
 obtain⟨cs1,rfl,h3⟩:=eN h2
 obtain⟨rfl,h4⟩:=jw h3
 obtain⟨h_xs,hK⟩:=h4
 have h:ok (F.dM xs) (fun r=>K (dB r) []):=az (F.ji xs h_xs) hK
 refine⟨rfl,ann125,ay,(.dat Ty.bool),(aG (by kernel_rfl)),?_⟩
 ·rw[vc125]
  exact⟨h_xs,h⟩
def c78:Con:=⟨[.dat TTb],fun args hp K=>g1 (pD TTb) (fun tables=>(Sm TTb tables)/\K (dB (M.cA tables)) []) args hp,.plain,false⟩
abbrev C78:Ctx:=cx [(125,c125)] 11 [] 0 false
def ann78:=an [[kp 1],[kp 4]] []
theorem vc78 (tables:LTb) (K:KA):vcT C78 ay ann78 f78 [.data TTb tables] [] (.dat Ty.bool) K =
 (cond ((decide ((tables.length:Int)<=Z3))==true) ((Sm TTb tables)/\K (dB (!(List.any tables (fun e=>!M.de e)))) []) (K (dB false) [])):=by kernel_rfl
theorem con78_ok:aT P 78 c78:=aZ C78 func78 (kC con125_ok kN) fun args hp K h0=>by
 obtain⟨tables,rfl,rfl,h_tables,hK⟩:=g1e h0
 have h:ok (F.mZ tables) (fun r=>K (dB r) []):=az (F.vt tables h_tables) hK
 refine⟨rfl,ann78,ay,(.dat Ty.bool),(aG (by kernel_rfl)),?_⟩
 ·rw[vc78]
  exact(oC h (fun _ h=>⟨h_tables,h⟩) fun _ h=>h)
def c108:Con:=⟨[.dat aC],fun args hp K=>g1 (pD aC) (fun p=>(Sm aC p)/\K (dI (M.takes p)) []) args hp,.plain,false⟩
abbrev C108:Ctx:=cx [] 13 [] 0 false
def ann108:=an [[.fixRow 1 aC,kp 2],[kp 16],[kp 48],[kp 48],[kp 48],[kp 48],[kp 4],[kp 1040],[kp 1024],[kp 4],[kp 4]] []
abbrev S108_0 (p:aC.D) (K:KA):Prop:=cond (decide (p.1=(7:Int))) (cond (decide (p.1=(7:Int))) (K (dI Z1) []) (K (dI Z0) [])) (cond (decide (p.1=(8:Int))) (K (dI Z1) []) (K (dI Z0) []))
theorem vc108 (p:aC.D) (K:KA):vcT C108 ay ann108 f108 [.data aC p] [] (.dat aE) K =
 (cond (decide (p.1=Z3)) (cond (decide (p.1=Z3)) (K (dI Z2) []) (S108_0 p K)) (cond (decide (p.1=Z4)) (cond (decide (p.1=Z4)) (K (dI Z2) []) (S108_0 p K)) (cond (decide (p.1=Z5)) (cond (decide (p.1=Z5)) (K (dI Z2) []) (S108_0 p K)) (cond (decide (p.1=Z6)) (K (dI Z2) []) (S108_0 p K))))):=by kernel_rfl
theorem con108_ok:aT P 108 c108:=aZ C108 func108 kN fun args hp K h0=>by
 obtain⟨p,rfl,rfl,h_p,hK⟩:=g1e h0
 have h:ok (F.kj p) (fun r=>K (dI r) []):=az (F.rS p h_p) hK
 refine⟨rfl,ann108,ay,(.dat aE),(aG (by kernel_rfl)),?_⟩
 ·rw[vc108]
  exact(oC h (fun b_1 h=>(bC b_1 h)) fun _ h=>(oC h (fun b_6 h=>(bC b_6 h)) fun _ h=>(oC h (fun b_8 h=>(bC b_8 h)) fun _ h=>(oC h (fun _ h=>h) fun _ h=>(oC h (fun b_11 h=>(bC b_11 h)) fun _ h=>(oC h (fun _ h=>h) fun _ h=>h))))))
def c109:Con:=⟨[.dat aC,.dat TCS],fun args hp K=>g2 (pD aC) (pD TCS) (fun p columns=>(Sm aC p)/\(Sm TCS columns)/\K (dB (M.kK p columns)) []) args hp,.plain,false⟩
abbrev C109:Ctx:=cx [(60,c60),(91,c91)] 63 [] 0 false
def ann109:=an [[.fixRow 2 aC,kp 6],[kp 70],[kp 198],[kp 16],[kp 8388678],[kp 16],[kp 137438953540],[kp 16],[.keep [2,6,48]],[.keep [2,6,48]],[.keep [2,6,48]],[.keep [2,6,48]],[.keep [2,48]],[kp 16],[kp 16]] []
abbrev S109_0 (p:aC.D) (columns:LC) (K:KA):Prop:=cond ((decide (p.2.1=Z0))==true) (K (dB (Ty.beq aa p.2.2.1 (Z0,(Z0,((⟨#[]⟩:ByteArray),()))))) []) (K (dB false) [])
theorem vc109 (p:aC.D) (columns:LC) (K:KA):vcT C109 ay ann109 f109 [.data aC p,.data TCS columns] [] (.dat Ty.bool) K =
 (cond (decide (p.1=Z1)) (cond ((decide (p.2.1=Z0))==true) ((Sm aa p.2.2.1)/\cond ((M.aL p.2.2.1)==true) (K (dB (!decide (p.2.2.1.1=Z0))) []) (K (dB false) [])) (K (dB false) [])) (cond (decide (p.1=Z2)) (cond ((M.inR p.2.1 Z0 (wrap64 ((columns.length:Int)-Z1)))==true) (K (dB (Ty.beq aa p.2.2.1 (Z0,(Z0,((⟨#[]⟩:ByteArray),()))))) []) (K (dB false) [])) (cond (decide (p.1=Z4)) (cond ((M.inR p.2.1 Z1 Z4)==true) (K (dB (Ty.beq aa p.2.2.1 (Z0,(Z0,((⟨#[]⟩:ByteArray),()))))) []) (K (dB false) [])) (cond (decide (p.1=Z3)) (cond (decide (p.1=Z3)) (S109_0 p columns K) (K (dB false) [])) (cond (decide (p.1=Z5)) (cond (decide (p.1=Z5)) (S109_0 p columns K) (K (dB false) [])) (cond (decide (p.1=Z6)) (cond (decide (p.1=Z6)) (S109_0 p columns K) (K (dB false) [])) (cond (decide (p.1=(7:Int))) (cond (decide (p.1=(7:Int))) (S109_0 p columns K) (K (dB false) [])) (cond (decide (p.1=(8:Int))) (S109_0 p columns K) (K (dB false) []))))))))):=by kernel_rfl
theorem con109_ok:aT P 109 c109:=aZ C109 func109 (kC con60_ok (kC con91_ok kN)) fun args hp K h0=>by
 obtain⟨p,columns,rfl,rfl,h_p,h_columns,hK⟩:=g2e h0
 have h:ok (F.kD p columns) (fun r=>K (dB r) []):=az (F.sA p columns h_p h_columns) hK
 refine⟨rfl,ann109,ay,(.dat Ty.bool),(aG (by kernel_rfl)),?_⟩
 ·rw[vc109]
  exact(oC h (fun _ h=>(oC h (fun _ h=>⟨h_p.2.2.1,(oC h (fun _ h=>h) fun _ h=>h)⟩) fun _ h=>h)) fun _ h=>(oC h (fun _ h=>(oC h (fun _ h=>h) fun _ h=>h)) fun _ h=>(oC h (fun _ h=>(oC h (fun _ h=>h) fun _ h=>h)) fun _ h=>(oC h (fun b_8 h=>(bC b_8 (oC h (fun _ h=>h) fun _ h=>h))) fun _ h=>(oC h (fun b_11 h=>(bC b_11 (oC h (fun _ h=>h) fun _ h=>h))) fun _ h=>(oC h (fun b_14 h=>(bC b_14 (oC h (fun _ h=>h) fun _ h=>h))) fun _ h=>(oC h (fun b_17 h=>(bC b_17 (oC h (fun _ h=>h) fun _ h=>h))) fun _ h=>(oC h (fun _ h=>(oC h (fun _ h=>h) fun _ h=>h)) fun _ h=>h))))))))
def c165:Con:=⟨[.dat aE,.any],fun args hp K=>g2 (pD aE) (pR aE) (fun k kind=>K (dB (!decide (k=kind))) []) args hp,.plain,false⟩
abbrev C165:Ctx:=cx [] 7 [] 0 false
def ann165:=an [[kp 3],[kp 8]] []
theorem vc165 (k:Int) (kind:Int) (K:KA):vcT C165 ay ann165 f165 [dI k,.ref (dI kind)] [] (.dat Ty.bool) K =
 (K (dB (!decide (k=kind))) []):=by kernel_rfl
theorem con165_ok:aT P 165 c165:=aZ C165 func165 kN fun args hp K h0=>by
 obtain⟨k,kind,rfl,rfl,hK⟩:=g2e h0
 have h:ok (F.lB k kind) (fun r=>K (dB r) []):=az (F.pM k kind) hK
 refine⟨rfl,ann165,ay,(.dat Ty.bool),(aG (by kernel_rfl)),?_⟩
 ·rw[vc165]
  exact h
def c192:Con:=⟨[.lent aE,.any],fun args hp K=>args2 (fun a0 a1=>kL aE a0 fun xs=>pI 165 a1 (zW (fun b1_0=>yF aE b1_0 fun k0=>(Sm (Ty.sl aE) xs)/\K (dI (M.idx (t:=aE) (fun e=>!decide (e=k0)) xs)) []))) args hp,.plain,false⟩
abbrev C192:Ctx:=cx [(165,c165)] 19 [] 0 false
def ann192:=an [[kp 3],[kp 387],[kp 899],[kp 419],[kp 65955],[kp 16],[kp 387],[kp 16]] [[kp 0]]
abbrev s192_0 (xs:LI) (k0:Int) (i0:Int) (v0:Unit):St:=⟨[(0,.brw aE xs),(1,.fn 165 [.ref (dI k0)]),(7,dI (xs.length:Int)),(8,dI i0)],[]⟩
abbrev LP192_0 (xs:LI) (k0:Int) (m:Nat) (st_:St) (K:KX):Prop:=True/\dJ (s192_0 xs k0) Z0 (xs.length:Int) (F.cq xs k0) (fun v0:Unit=>True) (bq (fun v0:Unit=>True->K (.exit 0) (⟨[],[]⟩:St)) (fun q0:Int=>K .ret (⟨[(4,dI q0)],[]⟩:St))) m st_
def L192 (xs:LI) (k0:Int):bD:=lp1 0 (LP192_0 xs k0)
theorem vc192 (xs:LI) (k0:Int) (K:KA):vcT C192 (L192 xs k0) ann192 f192 [.brw aE xs,.fn 165 [.ref (dI k0)]] [] (.dat aE) K =
 (∃m_,True/\dJ (s192_0 xs k0) Z0 (xs.length:Int) (F.cq xs k0) (fun v0:Unit=>True) (bq (fun v0:Unit=>True->K (dI (-1:Int)) []) (fun q0:Int=>K (dI q0) [])) m_ (s192_0 xs k0 Z0 ())):=by kernel_rfl
theorem lvc192_0 (xs:LI) (k0:Int)  (i0:Int) (v0:Unit) (m:Nat) (K:KX):lvT C192 (L192 xs k0) ann192 f192 0 0 (s192_0 xs k0 i0 v0) m K =
 (cond (decide (i0<(xs.length:Int))) ((0<=i0)/\(i0<(xs.length:Int))/\cond (!decide ((nI xs i0)=k0)) (K .ret (⟨[(4,dI i0)],[]⟩:St)) (nxT (LP192_0 xs k0) m K (s192_0 xs k0 (wrap64 (i0+Z1)) ()))) (K (.exit 0) (⟨[],[]⟩:St))):=by kernel_rfl
theorem con192_ok:aT P 192 c192:=aZ C192 func192 (kC con165_ok kN) fun args hp K h0=>by
 obtain⟨a0,a1,rfl,rfl,h1⟩:=bO h0
 obtain⟨xs,rfl,h2⟩:=cW h1
 obtain⟨cs1,rfl,h3⟩:=eN h2
 obtain⟨b1_0,rfl,h4⟩:=oV h3
 obtain⟨k0,rfl,h5⟩:=lW h4
 obtain⟨h_xs,hK⟩:=h5
 have h:ok (F.fG xs k0) (fun r=>K (dI r) []):=az (F.jh xs k0 h_xs) hK
 refine⟨rfl,ann192,(L192 xs k0),(.dat aE),(bH (i0:=0) (by kernel_rfl) ?_),?_⟩
 ·rintro _ _ K ⟨hc0,i0,v0,rfl,hl0,rfl,hv0,h⟩
  exact cast (lvc192_0 _ _ _ _ _ _).symm (cC h (fun ht0 h=>⟨hl0,⟨ht0,(oC h (fun _ h=>h) fun _ h=>(bT (fun _ hm=>⟨hc0,hm⟩) _ rfl hl0 nu ht0 (bu h_xs) trivial h))⟩⟩) fun h=>(h trivial))
 ·rw[vc192]
  exact(bZ (fun m hm=>⟨trivial,hm⟩) Z0 _ rfl (Int.natCast_nonneg 0) trivial (aU h (fun v0 h hv0=>h) (fun q0 h=>h)))
def c164:Con:=⟨[.lent aE,.any],fun args hp K=>args2 (fun a0 a1=>kL aE a0 fun xs=>pI 165 a1 (zW (fun b1_0=>yF aE b1_0 fun k0=>(Sm (Ty.sl aE) xs)/\K (dB (List.any xs (fun e=>!decide (e=k0)))) []))) args hp,.plain,false⟩
abbrev C164:Ctx:=cx [(165,c165),(192,c192)] 9 [] 0 false
def ann164:=an [[kp 3],[kp 16]] []
theorem vc164 (xs:LI) (k0:Int) (K:KA):vcT C164 ay ann164 f164 [.brw aE xs,.fn 165 [.ref (dI k0)]] [] (.dat Ty.bool) K =
 ((Sm (Ty.sl aE) xs)/\K (dB (decide (Z0<=(M.idx (t:=aE) (fun e=>!decide (e=k0)) xs)))) []):=by kernel_rfl
theorem con164_ok:aT P 164 c164:=aZ C164 func164 (kC con165_ok (kC con192_ok kN)) fun args hp K h0=>by
 obtain⟨a0,a1,rfl,rfl,h1⟩:=bO h0
 obtain⟨xs,rfl,h2⟩:=cW h1
 obtain⟨cs1,rfl,h3⟩:=eN h2
 obtain⟨b1_0,rfl,h4⟩:=oV h3
 obtain⟨k0,rfl,h5⟩:=lW h4
 obtain⟨h_xs,hK⟩:=h5
 have h:ok (F.dc xs k0) (fun r=>K (dB r) []):=az (F.iF xs k0 h_xs) hK
 refine⟨rfl,ann164,ay,(.dat Ty.bool),(aG (by kernel_rfl)),?_⟩
 ·rw[vc164]
  exact⟨h_xs,h⟩
def c163:Con:=⟨[.dat aE,.any],fun args hp K=>g2 (pD aE) (pQ aE) (fun kind ins=>(Sm (Ty.sl aE) ins)/\K (dB (List.all ins (fun k=>decide (k=kind)))) []) args hp,.plain,false⟩
abbrev C163:Ctx:=cx [(164,c164),(165,c165)] 8 [] 0 false
def ann163:=an [[.fixBox 2,kp 6],[kp 8]] []
theorem vc163 (kind:Int) (ins:LI) (K:KA):vcT C163 ay ann163 f163 [dI kind,.ref (.brw aE ins)] [] (.dat Ty.bool) K =
 ((Sm (Ty.sl aE) ins)/\K (dB (!(List.any ins (fun e=>!decide (e=kind))))) []):=by kernel_rfl
theorem con163_ok:aT P 163 c163:=aZ C163 func163 (kC con164_ok (kC con165_ok kN)) fun args hp K h0=>by
 obtain⟨kind,ins,rfl,rfl,h_ins,hK⟩:=g2e h0
 have h:ok (F.jv kind ins) (fun r=>K (dB r) []):=az (F.rA kind ins h_ins) hK
 refine⟨rfl,ann163,ay,(.dat Ty.bool),(aG (by kernel_rfl)),?_⟩
 ·rw[vc163]
  exact⟨h_ins,h⟩
def c110:Con:=⟨[.dat aC,.dat TCS,.lent aE],fun args hp K=>g3 (pD aC) (pD TCS) (pB aE) (fun p columns inp=>(Sm aC p)/\(Sm TCS columns)/\(Sm (Ty.sl aE) inp)/\(M.kK p columns=true)/\((inp.length:Int)=M.takes p)/\(LD (M.cE p columns inp) fun r=>K (.tup [dI r.1,dB r.2]) [])) args hp,.plain,false⟩
abbrev C110:Ctx:=cx [(163,c163)] 42 [] 0 false
def ann110:=an [[.fixRow 3 aC,.fixBox 5,kp 42],[kp 298],[kp 2346],[kp 6442],[kp 192],[kp 133418],[kp 192],[kp 33556768],[kp 192],[kp 536873248],[kp 192],[.keep [8,38]],[kp 192],[kp 192]] []
theorem vc110 (p:aC.D) (columns:LC) (inp:LI) (K:KA):vcT C110 ay ann110 f110 [.data aC p,.data TCS columns,.brw aE inp] [] (.tup [aE,Ty.bool]) K =
 (cond (decide (p.1=Z1)) (K (.tup [dI p.2.2.1.1,dB true]) []) (cond (decide (p.1=Z2)) ((0<=p.2.1)/\(p.2.1<(columns.length:Int))/\K (.tup [dI (nC columns p.2.1).1,dB true]) []) (cond (decide (p.1=Z3)) ((Sm (Ty.sl aE) inp)/\K (.tup [dI Z1,dB (List.all inp (fun k=>decide (k=Z1)))]) []) (cond (decide (p.1=Z4)) ((0<=Z0)/\(Z0<(inp.length:Int))/\(0<=Z1)/\(Z1<(inp.length:Int))/\K (.tup [dI Z3,dB (decide ((nI inp Z0)=(nI inp Z1)))]) []) (cond (decide (p.1=(8:Int))) (K (.tup [dI Z3,dB true]) []) ((Sm (Ty.sl aE) inp)/\K (.tup [dI Z3,dB (List.all inp (fun k=>decide (k=Z3)))]) [])))))):=by kernel_rfl
theorem con110_ok:aT P 110 c110:=aZ C110 func110 (kC con163_ok kN) fun args hp K h0=>by
 obtain⟨p,columns,inp,rfl,rfl,h_p,h_columns,h_inp,p0,p1,hK⟩:=g3e h0
 have h:ok (F.lG p columns inp) (fun r=>K (.tup [dI r.1,dB r.2]) []):=az (F.tX p columns inp h_p h_columns h_inp p0 p1) (hK _ rfl)
 refine⟨rfl,ann110,ay,(.tup [aE,Ty.bool]),(aG (by kernel_rfl)),?_⟩
 ·rw[vc110]
  exact(oC h (fun _ h=>h) fun _ h=>(oC h (fun _ h=>(oG h fun _ h=>(oG h fun _ h=>h))) fun _ h=>(oC h (fun _ h=>⟨h_inp,h⟩) fun _ h=>(oC h (fun _ h=>⟨(Int.natCast_nonneg 0),(oG h fun _ h=>⟨(Int.natCast_nonneg 1),(oG h fun _ h=>h)⟩)⟩) fun _ h=>(oC h (fun _ h=>h) fun _ h=>⟨h_inp,h⟩)))))
def c64:Con:=⟨[.dat TCS,.dat TPS],fun args hp K=>g2 (pD TCS) (pD TPS) (fun columns e=>(Sm TCS columns)/\(Sm TPS e)/\K (dI (M.cO columns e)) []) args hp,.plain,false⟩
abbrev C64:Ctx:=cx [(107,c107),(108,c108),(109,c109),(110,c110)] 67 [] 0 false
def ann64:=an [[kp 3],[kp 262147],[kp 16],[kp 35],[kp 3670049],[kp 7864353],[.fixRow 7 aC,kp 3670177],[kp 3670433],[kp 68723147169],[kp 16],[kp 3671841],[kp 1125899910513441],[kp 16],[kp 3670049],[kp 3670049],[.keep [5,63]],[kp 16],[kp 16]] [[kp 32]]
abbrev s64_0 (columns:LC) (e:LPt) (i0:Int) (v0:LI):St:=⟨[(0,.data TCS columns),(5,.own 5 none),(19,.data TPS e),(20,dI (e.length:Int)),(21,dI i0)],[(5,.arr .sh aE v0)]⟩
abbrev LP64_0 (columns:LC) (e:LPt) (m:Nat) (st_:St) (K:KX):Prop:=True/\bJ (t:=aC) (s64_0 columns e) e (F.dS columns e) (fun v0:LI=>True) (bq (fun v0:LI=>True->K (.exit 0) (⟨[(5,.own 5 none)],[(5,.arr .sh aE v0)]⟩:St)) (fun q0:Unit=>K .ret (⟨[(4,dI (-1:Int))],[]⟩:St))) m st_
def L64 (columns:LC) (e:LPt):bD:=lp1 0 (LP64_0 columns e)
theorem vc64 (columns:LC) (e:LPt) (K:KA):vcT C64 (L64 columns e) ann64 f64 [.data TCS columns,.data TPS e] [] (.dat aE) K =
 ((Sm TCS columns)/\cond ((!(M.bA columns))==false) (cond (decide ((12:Int)<(e.length:Int))) (K (dI (-1:Int)) []) (∃m_,True/\bJ (t:=aC) (s64_0 columns e) e (F.dS columns e) (fun v0:LI=>True) (bq (fun v0:LI=>True->cond (!decide ((v0.length:Int)=Z1)) (K (dI (-1:Int)) []) ((0<=Z0)/\(Z0<(v0.length:Int))/\K (dI (nI v0 Z0)) [])) (fun q0:Unit=>K (dI (-1:Int)) [])) m_ (s64_0 columns e Z0 []))) (K (dI (-1:Int)) [])):=by kernel_rfl
theorem lvc64_0 (columns:LC) (e:LPt)  (i0:Int) (v0:LI) (m:Nat) (K:KX):lvT C64 (L64 columns e) ann64 f64 0 0 (s64_0 columns e i0 v0) m K =
 (cond (decide (i0<(e.length:Int))) ((0<=i0)/\(i0<(e.length:Int))/\(Sm aC (nP e i0))/\(Sm aC (nP e i0))/\(Sm TCS columns)/\cond ((!(M.kK (nP e i0) columns))==false) (cond (decide ((v0.length:Int)<(M.takes (nP e i0)))) (K .ret (⟨[(4,dI (-1:Int))],[]⟩:St)) ((0<=wrap64 ((v0.length:Int)-(M.takes (nP e i0))))/\(wrap64 ((v0.length:Int)-(M.takes (nP e i0)))<=(v0.length:Int))/\((v0.length:Int)<=(v0.length:Int))/\((v0.length:Int)=(v0.length:Int))/\(Sm aC (nP e i0))/\(Sm TCS columns)/\(Sm (Ty.sl aE) (aB v0 (some (wrap64 ((v0.length:Int)-(M.takes (nP e i0))),(v0.length:Int)))))/\(M.kK (nP e i0) columns=true)/\(((aB v0 (some (wrap64 ((v0.length:Int)-(M.takes (nP e i0))),(v0.length:Int)))).length:Int)=M.takes (nP e i0))/\(LD (M.cE (nP e i0) columns (aB v0 (some (wrap64 ((v0.length:Int)-(M.takes (nP e i0))),(v0.length:Int))))) fun r1=>cond (!r1.2) (K .ret (⟨[(4,dI (-1:Int))],[]⟩:St)) ((0<=Z0)/\(Z0<=wrap64 ((v0.length:Int)-(M.takes (nP e i0))))/\(wrap64 ((v0.length:Int)-(M.takes (nP e i0)))<=(v0.length:Int))/\(wrap64 ((v0.length:Int)-(M.takes (nP e i0)))=wrap64 ((v0.length:Int)-(M.takes (nP e i0))))/\(Z0=0)/\(((wrap64 ((v0.length:Int)-(M.takes (nP e i0)))).toNat+[r1.1].length) * 8<=lim)/\(nxT (LP64_0 columns e) m K (s64_0 columns e (wrap64 (i0+Z1)) (v0.take (wrap64 ((v0.length:Int)-(M.takes (nP e i0)))).toNat++[r1.1]))))))) (K .ret (⟨[(4,dI (-1:Int))],[]⟩:St))) (K (.exit 0) (⟨[(5,.own 5 none)],[(5,.arr .sh aE v0)]⟩:St))):=by kernel_rfl
theorem con64_ok:aT P 64 c64:=aZ C64 func64 (kC con107_ok (kC con108_ok (kC con109_ok (kC con110_ok kN)))) fun args hp K h0=>by
 obtain⟨columns,e,rfl,rfl,h_columns,h_e,hK⟩:=g2e h0
 have h:ok (F.ni columns e) (fun r=>K (dI r) []):=az (F.uS columns e h_columns h_e) hK
 refine⟨rfl,ann64,(L64 columns e),(.dat aE),(bH (i0:=0) (by kernel_rfl) ?_),?_⟩
 ·rintro _ _ K ⟨hc0,i0,v0,rfl,hl0,rfl,hv0,h⟩
  exact cast (lvc64_0 _ _ _ _ _ _).symm (aW (t:=aC) hl0 h (fun ht0 h=>⟨hl0,⟨ht0,⟨(aJ h_e i0),⟨(aJ h_e i0),⟨h_columns,(oC h (fun b_37 h=>(oC h (fun _ h=>h) fun _ h=>(oG h fun _ h=>(oG h fun g1 h=>⟨(Int.le_refl _),⟨rfl,⟨(aJ h_e i0),⟨h_columns,(oG h fun _ h=>⟨(bnf (bgt b_37)),(oG h fun _ h=>(oL h fun _ _ h=>(oC h (fun _ h=>h) fun _ h=>⟨(Int.natCast_nonneg 0),(oG h fun _ h=>⟨g1,⟨rfl,⟨rfl,(oG h fun _ h=>(aP (t:=aC) (fun _ hm=>⟨hc0,hm⟩) _ rfl hl0 ht0 (bu h_e) trivial h))⟩⟩⟩)⟩)))⟩)⟩⟩⟩⟩)))) fun _ h=>h)⟩⟩⟩⟩⟩) fun h=>(h trivial))
 ·rw[vc64]
  exact⟨h_columns,(oC h (fun _ h=>(oC h (fun _ h=>h) fun _ h=>(aQ (t:=aC) (fun m hm=>⟨trivial,hm⟩) _ rfl trivial (aU h (fun v0 h hv0=>(oC h (fun _ h=>h) fun _ h=>⟨(Int.natCast_nonneg 0),(oG h fun _ h=>h)⟩)) (fun q0 h=>h))))) fun _ h=>h)⟩
def c128:Con:=⟨[.dat aj],fun args hp K=>g1 (pD aj) (fun s=>(Sm aj s)/\K (dB (M.bR s)) []) args hp,.plain,false⟩
abbrev C128:Ctx:=cx [] 67 [] 0 false
def ann128:=an [[.fixRow 1 aj,kp 2],[kp 10],[kp 26],[kp 4]] []
abbrev S128_0 (s:aj.D) (K:KA):Prop:=cond ((decide (s.1=Z3))==false) (K (dB (decide ((s.2.2.2.2.2.1.length:Int)=Z0))) []) (K (dB true) [])
abbrev S128_1 (s:aj.D) (K:KA):Prop:=cond ((decide (s.1=Z4))==false) (cond ((decide ((s.2.2.2.2.1.length:Int)=Z0))==true) (S128_0 s K) (K (dB false) [])) (S128_0 s K)
abbrev S128_2 (s:aj.D) (K:KA):Prop:=cond ((decide (s.1=Z1))==false) (cond ((decide (s.2.2.2.1=Z0))==true) (S128_1 s K) (K (dB false) [])) (S128_1 s K)
abbrev S128_3 (s:aj.D) (K:KA):Prop:=cond ((decide (s.1=Z5))==false) (cond ((decide (s.2.2.1=Z0))==true) (S128_2 s K) (K (dB false) [])) (S128_2 s K)
abbrev S128_4 (s:aj.D) (K:KA):Prop:=cond ((decide (s.1=Z1))==false) (cond ((decide (s.2.2.2.1=Z0))==true) (S128_0 s K) (K (dB false) [])) (S128_0 s K)
abbrev S128_5 (s:aj.D) (K:KA):Prop:=cond ((decide (s.1=Z5))==false) (cond ((decide (s.2.2.1=Z0))==true) (S128_4 s K) (K (dB false) [])) (S128_4 s K)
theorem vc128 (s:aj.D) (K:KA):vcT C128 ay ann128 f128 [.data aj s] [] (.dat Ty.bool) K =
 (cond ((decide (s.1=Z4))==false) (cond ((decide (s.1=Z2))==false) (cond ((!decide (s.1=Z1))==false) (cond ((decide (s.2.1=Z0))==true) (S128_3 s K) (K (dB false) [])) (S128_3 s K)) (cond ((!decide (s.1=Z1))==false) (cond ((decide (s.2.1=Z0))==true) (S128_5 s K) (K (dB false) [])) (S128_5 s K))) (cond ((decide (s.1=Z2))==false) (cond ((!decide (s.1=Z1))==false) (cond ((decide (s.2.1=Z0))==true) (S128_2 s K) (K (dB false) [])) (S128_2 s K)) (cond ((!decide (s.1=Z1))==false) (cond ((decide (s.2.1=Z0))==true) (S128_4 s K) (K (dB false) [])) (S128_4 s K)))):=by kernel_rfl
theorem con128_ok:aT P 128 c128:=aZ C128 func128 kN fun args hp K h0=>by
 obtain⟨s,rfl,rfl,h_s,hK⟩:=g1e h0
 have h:ok (F.kJ s) (fun r=>K (dB r) []):=az (F.sB s h_s) hK
 refine⟨rfl,ann128,ay,(.dat Ty.bool),(aG (by kernel_rfl)),?_⟩
 ·rw[vc128]
  exact(oC h (fun b_1 h=>(oC h (fun _ h=>(oC h (fun b_3 h=>(oC h (fun _ h=>(bC (ugt (cL (bnf (bgt b_3)) (by decide))) (oC h (fun _ h=>(dW (ugf (bnf (bgt b_3))) (bC (ugt (bgt b_1)) (oC h (fun _ h=>(bC (ugt (cL (bnf (bgt b_3)) (by decide))) h)) fun _ h=>h)))) fun _ h=>h))) fun _ h=>h)) fun b_3 h=>(oC h (fun _ h=>(oC h (fun _ h=>(bC (ugt (bnt (bgf b_3))) (oC h (fun _ h=>(bC (ugt (bgt b_1)) (oC h (fun _ h=>(oC h (fun _ h=>h) fun _ h=>h)) fun _ h=>h))) fun _ h=>h))) fun _ h=>h)) fun b_27 h=>(bC (ugt (bnt (bgf b_3))) (oC h (fun _ h=>(bC (ugt (bgt b_1)) (oC h (fun _ h=>(bC (ugt (cL (bgf b_27) (by decide))) h)) fun _ h=>h))) fun _ h=>h))))) fun b_2 h=>(dW (ugf (unt (cL (bgf b_2) (by decide)))) (bC (ugt (cL (bgf b_2) (by decide))) (oC h (fun _ h=>(bC (ugt (cL (bgf b_2) (by decide))) (oC h (fun _ h=>(bC (ugt (cL (bgf b_2) (by decide))) h)) fun _ h=>h))) fun _ h=>h))))) fun b_1 h=>(bC (ugt (cL (bgf b_1) (by decide))) (dW (ugf (unt (cL (bgf b_1) (by decide)))) (bC (ugt (cL (bgf b_1) (by decide))) (oC h (fun _ h=>(dW (ugf (bgf b_1)) (bC (ugt (cL (bgf b_1) (by decide))) h))) fun _ h=>h)))))
def c173:Con:=⟨[.any,.dat aE],fun args hp K=>args2 (fun a0 a1=>BP a0 (fy aE a1 fun n=>(0<=n)/\(n<=1099511627776)/\(LD ([]:List ag.D) fun r=>K (.own 0 none) [(0,.arr .sh ag r)]))) args hp,.plain,false⟩
abbrev C173:Ctx:=cx [] 27 [] 0 false
def ann173:=an [[kp 3],[kp 67],[kp 3],[kp 3],[kp 65539],[kp 1],[kp 16]] []
theorem vc173 (n:Int) (K:KA):vcT C173 ay ann173 f173 [.cst (.slice none 0 0),dI n] [] .raw K =
 (cond (decide (n<Z0)) False (cond (decide (Z0<wrap64 (n-(wrap64 (Z0-Z0))))) ((0<=Z0)/\(Z0<=Z0)/\(Z0<=Z0)/\(Z0=Z0)/\(0<=wrap64 (n-(wrap64 (Z0-Z0))))/\((wrap64 (n-(wrap64 (Z0-Z0)))) * 16<=(lim:Int))/\(0<=Z0)/\(Z0<=Z0)/\(Z0<=((List.replicate (wrap64 (n-(wrap64 (Z0-Z0)))).toNat (Z0,(false,()))).length:Int))/\(Z0=Z0)/\(Z0=0)/\K (.own 0 none) [(0,.arr .sh ag ((List.replicate (wrap64 (n-(wrap64 (Z0-Z0)))).toNat (Z0,(false,()))).take Z0.toNat))]) (K (.own 0 none) [(0,.arr .sh ag [])]))):=by kernel_rfl
theorem con173_ok:aT P 173 c173:=aZ C173 func173 kN fun args hp K h0=>by
 obtain⟨a0,a1,rfl,rfl,h1⟩:=bO h0
 obtain⟨rfl,h2⟩:=sD h1
 obtain⟨n,rfl,h3⟩:=bt h2
 obtain⟨p0,p1,hK⟩:=h3
 have h:ok (F.ou n) (fun r=>K (.own 0 none) [(0,.arr .sh ag r)]):=az (F.wF n p0 p1) (hK _ rfl)
 refine⟨rfl,ann173,ay,.raw,(aG (by kernel_rfl)),?_⟩
 ·rw[vc173]
  exact(oC h (fun _ h=>h) fun _ h=>(oC h (fun _ h=>⟨(Int.natCast_nonneg 0),⟨(Int.le_refl _),⟨(Int.le_refl _),⟨rfl,(oG h fun _ h=>(oG h fun _ h=>⟨(Int.natCast_nonneg 0),⟨(Int.le_refl _),⟨(Int.natCast_nonneg _),⟨rfl,⟨rfl,h⟩⟩⟩⟩⟩))⟩⟩⟩⟩) fun _ h=>h))
def c129:Con:=⟨[.dat (Ty.sl TCS)],fun args hp K=>g1 (pD (Ty.sl TCS)) (fun xss=>(Sm (Ty.sl TCS) xss)/\(LD (List.flatten xss) fun r=>K (.own 0 none) [(0,.arr .sh ag r)])) args hp,.plain,false⟩
abbrev C129:Ctx:=cx [(173,c173)] 36 [] 0 false
def ann129:=an [[kp 1],[kp 9],[kp 3593],[kp 7689],[kp 3625],[kp 3593],[kp 1052169],[kp 3593],[kp 3593],[kp 65],[kp 234881088],[kp 503316544],[kp 234881344],[kp 234881088],[kp 234881088],[kp 4]] [[kp 9],[],[kp 64]]
abbrev s129_0 (xss:(List LC)) (i0:Int) (v0:Int):St:=⟨[(0,.data (Ty.sl TCS) xss),(3,dI v0),(9,.data (Ty.sl TCS) xss),(10,dI (xss.length:Int)),(11,dI i0)],[]⟩
abbrev LP129_0 (xss:(List LC)) (m:Nat) (st_:St) (K:KX):Prop:=True/\bJ (t:=TCS) (s129_0 xss) xss (F.ga xss) (fun v0:Int=>True) (bq (fun v0:Int=>True->K (.exit 0) (⟨[(0,.data (Ty.sl TCS) xss),(3,dI v0)],[]⟩:St)) (fun _=>False)) m st_
abbrev s129_2 (xss:(List LC)) (i2:Int) (v2:LC):St:=⟨[(6,.own 24 none),(25,.data (Ty.sl TCS) xss),(26,dI (xss.length:Int)),(27,dI i2)],[(24,.arr .sh ag v2)]⟩
abbrev LP129_2 (xss:(List LC)) (m:Nat) (st_:St) (K:KX):Prop:=True/\bJ (t:=TCS) (s129_2 xss) xss (F.gf xss) (fun v2:LC=>True) (bq (fun v2:LC=>True->K (.exit 2) (⟨[(6,.own 24 none)],[(24,.arr .sh ag v2)]⟩:St)) (fun _=>False)) m st_
def L129 (xss:(List LC)):bD:=lp2 0 (LP129_0 xss) 2 (LP129_2 xss)
theorem vc129 (xss:(List LC)) (K:KA):vcT C129 (L129 xss) ann129 f129 [.data (Ty.sl TCS) xss] [] .raw K =
 (∃m_,True/\bJ (t:=TCS) (s129_0 xss) xss (F.ga xss) (fun v0:Int=>True) (bq (fun v0:Int=>True->(0<=v0)/\(v0<=1099511627776)/\(LD ([]:List ag.D) fun r1=>(∃m_,True/\bJ (t:=TCS) (s129_2 xss) xss (F.gf xss) (fun v2:LC=>True) (bq (fun v2:LC=>True->K (.own 0 none) [(0,.arr .sh ag v2)]) (fun _=>False)) m_ (s129_2 xss Z0 r1)))) (fun _=>False)) m_ (s129_0 xss Z0 Z0)):=by kernel_rfl
theorem lvc129_0 (xss:(List LC))  (i0:Int) (v0:Int) (m:Nat) (K:KX):lvT C129 (L129 xss) ann129 f129 0 0 (s129_0 xss i0 v0) m K =
 (cond (decide (i0<(xss.length:Int))) ((0<=i0)/\(i0<(xss.length:Int))/\cond (decide (wrap64 (v0+((nth (t:=TCS) xss i0).length:Int))<Z0)) False (nxT (LP129_0 xss) m K (s129_0 xss (wrap64 (i0+Z1)) (wrap64 (v0+((nth (t:=TCS) xss i0).length:Int)))))) (K (.exit 0) (⟨[(0,.data (Ty.sl TCS) xss),(3,dI v0)],[]⟩:St))):=by kernel_rfl
theorem lvc129_1 (xss:(List LC))  (i2:Int) (v2:LC) (m:Nat) (K:KX):lvT C129 (L129 xss) ann129 f129 1 2 (s129_2 xss i2 v2) m K =
 (cond (decide (i2<(xss.length:Int))) ((0<=i2)/\(i2<(xss.length:Int))/\((v2.length+(nth (t:=TCS) xss i2).length) * 16<=lim)/\(nxT (LP129_2 xss) m K (s129_2 xss (wrap64 (i2+Z1)) (v2++(nth (t:=TCS) xss i2))))) (K (.exit 2) (⟨[(6,.own 24 none)],[(24,.arr .sh ag v2)]⟩:St))):=by kernel_rfl
theorem con129_ok:aT P 129 c129:=aZ C129 func129 (kC con173_ok kN) fun args hp K h0=>by
 obtain⟨xss,rfl,rfl,h_xss,hK⟩:=g1e h0
 have h:ok (F.lF xss) (fun r=>K (.own 0 none) [(0,.arr .sh ag r)]):=az (F.uz xss h_xss) (hK _ rfl)
 refine⟨rfl,ann129,(L129 xss),.raw,(qW (i0:=0) (i1:=2) (by kernel_rfl) ?_ ?_),?_⟩
 ·rintro _ _ K ⟨hc0,i0,v0,rfl,hl0,rfl,hv0,h⟩
  exact cast (lvc129_0 _ _ _ _ _).symm (aW (t:=TCS) hl0 h (fun ht0 h=>⟨hl0,⟨ht0,(oC h (fun _ h=>h) fun _ h=>(aP (t:=TCS) (fun _ hm=>⟨hc0,hm⟩) _ rfl hl0 ht0 (bu h_xss) trivial h))⟩⟩) fun h=>(h trivial))
 ·rintro _ _ K ⟨hc2,i2,v2,rfl,hl2,rfl,hv2,h⟩
  exact cast (lvc129_1 _ _ _ _ _).symm (aW (t:=TCS) hl2 h (fun ht2 h=>⟨hl2,⟨ht2,(oG h fun _ h=>(aP (t:=TCS) (fun _ hm=>⟨hc2,hm⟩) _ rfl hl2 ht2 (bu h_xss) trivial h))⟩⟩) fun h=>(h trivial))
 ·rw[vc129]
  exact(aQ (t:=TCS) (fun m hm=>⟨trivial,hm⟩) _ rfl trivial (aU h (fun v0 h hv0=>(oG h fun _ h=>(oG h fun _ h=>(oL h fun _ _ h=>(aQ (t:=TCS) (fun m hm=>⟨trivial,hm⟩) _ rfl trivial (aU h (fun v2 h hv2=>h) (fun _ h=>h.elim))))))) (fun _ h=>h.elim)))
abbrev C174:Ctx:=cx [] 9 [] 400000 true
def T174:Inl:=By C174 (fun _=>[]) (eT f174) f174.results.toList
theorem inlOk174:Dg P 174 T174:=GJ C174 func174 kN
def c130:Con:=⟨[.dat TCS],fun args hp K=>g1 (pD TCS) (fun xs=>(Sm TCS xs)/\(LD xs fun r=>K (.clp 0 (r.length:Int)) [(0,.arr .sh ag r)])) args hp,.bor,false⟩
abbrev C130:Ctx:=cx [] 9 [(174,T174)] 0 true
def ann130:=an [[kp 1],[kp 33],[.clip 2,kp 4],[kp 4]] []
theorem vc130 (xs:LC) (K:KA):vcT C130 ay ann130 f130 [.data TCS xs] [] .raw K =
 (cond (decide ((xs.length:Int)=Z0)) (K (.clp 0 (([]:List ag.D).length:Int)) [(0,.arr .sh ag ([]:List ag.D))]) ((xs.length * 16<=lim)/\(0<=Z0)/\(Z0<=(xs.length:Int))/\((xs.length:Int)<=(xs.length:Int))/\((xs.length:Int)=(xs.length:Int))/\(Z0=0)/\K (.clp 0 ((xs.take (xs.length:Int).toNat).length:Int)) [(0,.arr .sh ag (xs.take (xs.length:Int).toNat))])):=by kernel_rfl
theorem con130_ok:aT P 130 c130:=aZ C130 func130 (kI inlOk174 kN) fun args hp K h0=>by
 obtain⟨xs,rfl,rfl,h_xs,hK⟩:=g1e h0
 have h:ok (F.rF xs) (fun r=>K (.clp 0 (r.length:Int)) [(0,.arr .sh ag r)]):=az (F.vA xs h_xs) (hK _ rfl)
 refine⟨rfl,ann130,ay,.raw,(aG (by kernel_rfl)),?_⟩
 ·rw[vc130]
  exact(oC h (fun _ h=>h) fun _ h=>⟨(Ff h_xs rfl),⟨(Int.natCast_nonneg 0),⟨(Int.natCast_nonneg _),⟨(Int.le_refl _),⟨rfl,⟨rfl,h⟩⟩⟩⟩⟩⟩)
def c79:Con:=⟨[.dat aj,.dat TTb,.lent aF],fun args hp K=>g3 (pD aj) (pD TTb) (pB aF) (fun s tables ahead=>(Sm aj s)/\(Sm TTb tables)/\(Sm (Ty.sl aF) ahead)/\(LD (M.make s tables ahead) fun r=>K (.tup [.data aF r.1,dB r.2]) [])) args hp,.plain,false⟩
abbrev C79:Ctx:=cx [(60,c60),(64,c64),(128,c128),(129,c129),(130,c130)] 201 [] 0 true
def ann79:=an [[.fixRow 3 aj,kp 78],[kp 33554510],[kp 192],[kp 536870990],[kp 68719476810],[kp 192],[kp 192],[.keep [2,3,6,60]],[kp 192],[.fixRow 8 aF,.fixRow 9 aF,kp 840],[.keep [3,6,8,9,73]],[kp 28334198897217871283016],[kp 192],[.keep [3,6,8,9,73,83]],[kp 1352],[.mineC .sh 10 0 800160 ag,kp 4332790137498830962146936136],[kp 9284550294640352061743433032],[kp 4332790137498830962146940232],[kp 2539633990593957633955553350984],[kp 192],[kp 4332790137498830962146936136],[kp 4332790137498830962146936136],[.freeze 800160,kp 192],[.keep [3,6,8,9,73,119]],[.fixRow 13 aF,kp 8264],[.freeze 126,kp 192],[.keep [6,8,9,146]],[.fixRow 14 aF,kp 17216],[.keep [6,9,14,163]],[kp 192],[.keep [6,14,166,167,168]],[.keep [6,14,166,167,168,169]],[.fixRow 16 ag,.keep [6,14,15,16,166,167,168]],[.keep [6,14,15,16,166,167,168,181]],[kp 192],[.keep [6,14,166,167,168]],[.keep [6,14,166,167,168]],[.freeze 150,kp 192],[kp 192]] [[],[kp 1096],[],[kp 16448]]
abbrev s79_1 (s:aj.D) (tables:LTb) (ahead:(List aF.D)) (i1:Int) (v1:LC):St:=⟨[(3,.adr aj s),(6,.ptr 6 0),(8,.adr aF (nM ahead s.2.1)),(10,.ptr 10 0),(89,.data (Ty.sl aE) s.2.2.2.2.2.1),(90,dI (s.2.2.2.2.2.1.length:Int)),(91,dI i1)],[(6,.box [.cst (.slice none 0 0),dI Z0]),(10,.box [.own 800160 none,dI (nM ahead s.2.1).2.1]),(800160,.arr .sh ag v1)]⟩
abbrev LP79_1 (s:aj.D) (tables:LTb) (ahead:(List aF.D)) (m:Nat) (st_:St) (K:KX):Prop:=True/\bJ (t:=aE) (s79_1 s tables ahead) s.2.2.2.2.2.1 (F.gb s tables ahead) (fun v1:LC=>True) (bq (fun v1:LC=>True->K (.exit 1) (⟨[(3,.adr aj s),(6,.ptr 6 0),(10,.ptr 10 0)],[(6,.box [.cst (.slice none 0 0),dI Z0]),(10,.box [.own 800160 none,dI (nM ahead s.2.1).2.1]),(800160,.arr .sh ag v1)]⟩:St)) (fun q1:Unit=>K .ret (⟨[(6,.ptr 6 0),(7,dB false)],[(6,.box [.cst (.slice none 0 0),dI Z0])]⟩:St))) m st_
abbrev s79_3 (s:aj.D) (tables:LTb) (ahead:(List aF.D)) (c3_0:Int) (i3:Int) (v3:LC):St:=⟨[(6,.ptr 6 0),(14,.ptr 14 0),(166,.data TCS (nM ahead s.2.2.1).1),(167,dI ((nM ahead s.2.2.1).1.length:Int)),(168,dI i3)],[(6,.box [.cst (.slice none 0 0),dI Z0]),(14,.box [.clp 150 c3_0,dI (wrap64 ((nM ahead s.2.1).2.1+(nM ahead s.2.2.1).2.1))]),(150,.arr .sh ag v3)]⟩
abbrev LP79_3 (s:aj.D) (tables:LTb) (ahead:(List aF.D)) (m:Nat) (st_:St) (K:KX):Prop:=∃c3_0:Int,True/\dJ (s79_3 s tables ahead c3_0) Z0 ((nM ahead s.2.2.1).1.length:Int) (F.eJ s tables ahead c3_0) (fun v3:LC=>True) (bq (fun v3:LC=>True->K (.exit 3) (⟨[(6,.ptr 6 0),(14,.ptr 14 0)],[(6,.box [.cst (.slice none 0 0),dI Z0]),(14,.box [.clp 150 c3_0,dI (wrap64 ((nM ahead s.2.1).2.1+(nM ahead s.2.2.1).2.1))]),(150,.arr .sh ag v3)]⟩:St)) (fun q3:Unit=>K .ret (⟨[(6,.ptr 6 0),(7,dB false)],[(6,.box [.cst (.slice none 0 0),dI Z0])]⟩:St))) m st_
def L79 (s:aj.D) (tables:LTb) (ahead:(List aF.D)):bD:=lp2 1 (LP79_1 s tables ahead) 3 (LP79_3 s tables ahead)
abbrev S79_0 (s:aj.D) (tables:LTb) (ahead:(List aF.D)) (K:KA):Prop:=(Sm (Ty.sl TCS) [(nM ahead s.2.1).1,(nM ahead s.2.2.1).1])/\(LD (List.flatten [(nM ahead s.2.1).1,(nM ahead s.2.2.1).1]) fun r1=>cond ((decide ((r1.length:Int)<=Z4))==true) ((Sm TCS r1)/\(Sm TPS s.2.2.2.2.1)/\Q0 (K (.tup [.data aF (r1,(wrap64 ((nM ahead s.2.1).2.1 * (nM ahead s.2.2.1).2.1),())),dB (decide ((M.cO r1 s.2.2.2.2.1)=Z3))]) [])) (Q0 (K (.tup [.data aF (r1,(wrap64 ((nM ahead s.2.1).2.1 * (nM ahead s.2.2.1).2.1),())),dB false]) [])))
abbrev S79_1 (s:aj.D) (tables:LTb) (ahead:(List aF.D)) (K:KA):Prop:=(Sm TCS (nM ahead s.2.1).1)/\(LD (nM ahead s.2.1).1 fun r2=>cond (!decide (((nM ahead s.2.1).1.length:Int)=((nM ahead s.2.2.1).1.length:Int))) (K (.tup [.data aF ([],(Z0,())),dB false]) []) (∃m_,∃c3_0:Int,True/\dJ (s79_3 s tables ahead c3_0) Z0 ((nM ahead s.2.2.1).1.length:Int) (F.eJ s tables ahead c3_0) (fun v3:LC=>True) (bq (fun v3:LC=>True->K (.tup [.data aF ((aB v3 (some (Z0,c3_0))),(wrap64 ((nM ahead s.2.1).2.1+(nM ahead s.2.2.1).2.1),())),dB true]) []) (fun q3:Unit=>K (.tup [.data aF ([],(Z0,())),dB false]) [])) m_ (s79_3 s tables ahead (r2.length:Int) Z0 r2)))
abbrev S79_2 (s:aj.D) (tables:LTb) (ahead:(List aF.D)) (K:KA):Prop:=cond (decide (s.1=Z2)) ((Sm TCS (nM ahead s.2.1).1)/\(Sm TPS s.2.2.2.2.1)/\K (.tup [.data aF (nM ahead s.2.1),dB (decide ((M.cO (nM ahead s.2.1).1 s.2.2.2.2.1)=Z3))]) []) (cond (decide (s.1=Z3)) (∃m_,True/\bJ (t:=aE) (s79_1 s tables ahead) s.2.2.2.2.2.1 (F.gb s tables ahead) (fun v1:LC=>True) (bq (fun v1:LC=>True->Q0 (K (.tup [.data aF (v1,(nM ahead s.2.1).2),dB (decide ((s.2.2.2.2.2.1.length:Int)<=Z4))]) [])) (fun q1:Unit=>K (.tup [.data aF ([],(Z0,())),dB false]) [])) m_ (s79_1 s tables ahead Z0 [])) (cond (decide (s.1=Z4)) (Q1 (S79_0 s tables ahead K)) (cond (decide (s.1=Z5)) (Q0 (S79_1 s tables ahead K)) (K (.tup [.data aF (nM ahead s.2.1),dB true]) []))))
abbrev S79_3 (s:aj.D) (tables:LTb) (ahead:(List aF.D)) (K:KA):Prop:=(S79_2 s tables ahead K)
theorem vc79 (s:aj.D) (tables:LTb) (ahead:(List aF.D)) (K:KA):vcT C79 (L79 s tables ahead) ann79 f79 [.data aj s,.data TTb tables,.brw aF ahead] [] (.tup [aF,Ty.bool]) K =
 ((Sm aj s)/\cond ((!(M.bR s))==false) (cond (!(M.inR s.1 Z1 Z6)) (K (.tup [.data aF ([],(Z0,())),dB false]) []) (cond (decide (s.1=Z1)) (cond (!(M.inR s.2.2.2.1 Z0 (wrap64 ((tables.length:Int)-Z1)))) (K (.tup [.data aF ([],(Z0,())),dB false]) []) ((0<=s.2.2.2.1)/\(s.2.2.2.1<(tables.length:Int))/\K (.tup [.data aF ((nT tables s.2.2.2.1).1,(Z6,())),dB true]) [])) (cond ((!(M.inR s.2.1 Z0 (wrap64 ((ahead.length:Int)-Z1))))==false) (cond (!(M.inR s.2.2.1 Z0 (wrap64 ((ahead.length:Int)-Z1)))) (K (.tup [.data aF ([],(Z0,())),dB false]) []) ((0<=s.2.1)/\(s.2.1<(ahead.length:Int))/\(0<=s.2.2.1)/\(s.2.2.1<(ahead.length:Int))/\Q2 (S79_3 s tables ahead K))) (K (.tup [.data aF ([],(Z0,())),dB false]) [])))) (K (.tup [.data aF ([],(Z0,())),dB false]) [])):=by kernel_rfl
theorem lvc79_0 (s:aj.D) (tables:LTb) (ahead:(List aF.D))  (i1:Int) (v1:LC) (m:Nat) (K:KX):lvT C79 (L79 s tables ahead) ann79 f79 0 1 (s79_1 s tables ahead i1 v1) m K =
 (cond (decide (i1<(s.2.2.2.2.2.1.length:Int))) ((0<=i1)/\(i1<(s.2.2.2.2.2.1.length:Int))/\cond (!(M.inR (nI s.2.2.2.2.2.1 i1) Z0 (wrap64 (((nM ahead s.2.1).1.length:Int)-Z1)))) (K .ret (⟨[(6,.ptr 6 0),(7,dB false)],[(6,.box [.cst (.slice none 0 0),dI Z0])]⟩:St)) ((0<=(nI s.2.2.2.2.2.1 i1))/\((nI s.2.2.2.2.2.1 i1)<((nM ahead s.2.1).1.length:Int))/\((v1.length+[(nC (nM ahead s.2.1).1 (nI s.2.2.2.2.2.1 i1))].length) * 16<=lim)/\(nxT (LP79_1 s tables ahead) m K (s79_1 s tables ahead (wrap64 (i1+Z1)) (v1++[(nC (nM ahead s.2.1).1 (nI s.2.2.2.2.2.1 i1))]))))) (K (.exit 1) (⟨[(3,.adr aj s),(6,.ptr 6 0),(10,.ptr 10 0)],[(6,.box [.cst (.slice none 0 0),dI Z0]),(10,.box [.own 800160 none,dI (nM ahead s.2.1).2.1]),(800160,.arr .sh ag v1)]⟩:St))):=by kernel_rfl
theorem lvc79_1 (s:aj.D) (tables:LTb) (ahead:(List aF.D)) (c3_0:Int) (i3:Int) (v3:LC) (m:Nat) (K:KX):lvT C79 (L79 s tables ahead) ann79 f79 1 3 (s79_3 s tables ahead c3_0 i3 v3) m K =
 (cond (decide (i3<((nM ahead s.2.2.1).1.length:Int))) ((0<=i3)/\(i3<((nM ahead s.2.2.1).1.length:Int))/\(0<=i3)/\(i3<c3_0)/\cond (!decide ((nC (nM ahead s.2.2.1).1 i3).1=(nC v3 i3).1)) (K .ret (⟨[(6,.ptr 6 0),(7,dB false)],[(6,.box [.cst (.slice none 0 0),dI Z0])]⟩:St)) ((0<=i3)/\(i3<c3_0)/\cond ((nC v3 i3).2.1==false) ((0<=i3)/\(i3<c3_0)/\(let y1:LC:=(v3.set i3.toNat ((nC v3 i3).1,(nC (nM ahead s.2.2.1).1 i3).2));(nxT (LP79_3 s tables ahead) m K (s79_3 s tables ahead c3_0 (wrap64 (i3+Z1)) y1)))) ((0<=i3)/\(i3<c3_0)/\(nxT (LP79_3 s tables ahead) m K (s79_3 s tables ahead c3_0 (wrap64 (i3+Z1)) (v3.set i3.toNat ((nC v3 i3).1,(true,())))))))) (K (.exit 3) (⟨[(6,.ptr 6 0),(14,.ptr 14 0)],[(6,.box [.cst (.slice none 0 0),dI Z0]),(14,.box [.clp 150 c3_0,dI (wrap64 ((nM ahead s.2.1).2.1+(nM ahead s.2.2.1).2.1))]),(150,.arr .sh ag v3)]⟩:St))):=by kernel_rfl
theorem con79_ok:aT P 79 c79:=aZ C79 func79 (kC con60_ok (kC con64_ok (kC con128_ok (kC con129_ok (kC con130_ok kN))))) fun args hp K h0=>by
 obtain⟨s,tables,ahead,rfl,rfl,h_s,h_tables,h_ahead,hK⟩:=g3e h0
 have h:ok (F.gB s tables ahead) (fun r=>K (.tup [.data aF r.1,dB r.2]) []):=az (F.tE s tables ahead h_s h_tables h_ahead) (hK _ rfl)
 refine⟨rfl,ann79,(L79 s tables ahead),(.tup [aF,Ty.bool]),(qW (i0:=1) (i1:=3) (by kernel_rfl) ?_ ?_),?_⟩
 ·rintro _ _ K ⟨hc1,i1,v1,rfl,hl1,rfl,hv1,h⟩
  exact cast (lvc79_0 _ _ _ _ _ _ _).symm (aW (t:=aE) hl1 h (fun ht1 h=>⟨hl1,⟨ht1,(oC h (fun _ h=>h) fun b_22 h=>⟨(fR (bnf b_22)),⟨(mC (bnf b_22)),(oG h fun _ h=>(aP (t:=aE) (fun _ hm=>⟨hc1,hm⟩) _ rfl hl1 ht1 (bu h_s.2.2.2.2.2.1) trivial h))⟩⟩)⟩⟩) fun h=>(h trivial))
 ·rintro _ _ K ⟨c3_0,hc3,i3,v3,rfl,hl3,rfl,hv3,h⟩
  exact cast (lvc79_1 _ _ _ _ _ _ _ _).symm (cC h (fun ht3 h=>⟨hl3,⟨ht3,⟨hl3,(oG h fun g1 h=>(oC h (fun _ h=>h) fun _ h=>⟨hl3,⟨g1,(oC h (fun _ h=>⟨hl3,⟨g1,(have h:=dR h _ rfl;(bT (fun _ hm=>⟨c3_0,hc3,hm⟩) _ rfl hl3 nu ht3 (bu (aJ h_ahead s.2.2.1).1) trivial h))⟩⟩) fun _ h=>⟨hl3,⟨g1,(bT (fun _ hm=>⟨c3_0,hc3,hm⟩) _ rfl hl3 nu ht3 (bu (aJ h_ahead s.2.2.1).1) trivial h)⟩⟩)⟩⟩))⟩⟩⟩) fun h=>(h trivial))
 ·rw[vc79]
  exact⟨h_s,(oC h (fun _ h=>(oC h (fun _ h=>h) fun _ h=>(oC h (fun _ h=>(oC h (fun _ h=>h) fun b_4 h=>⟨(fR (bnf b_4)),⟨(mC (bnf b_4)),h⟩⟩)) fun _ h=>(oC h (fun b_5 h=>(oC h (fun _ h=>h) fun b_6 h=>⟨(fR (bnf (bgt b_5))),⟨(mC (bnf (bgt b_5))),⟨(fR (bnf b_6)),⟨(mC (bnf b_6)),(q2 (oC h (fun _ h=>⟨(aJ h_ahead s.2.1).1,⟨h_s.2.2.2.2.1,h⟩⟩) fun _ h=>(oC h (fun _ h=>(aQ (t:=aE) (fun m hm=>⟨trivial,hm⟩) _ rfl trivial (aU h (fun v1 h hv1=>(q0 h)) (fun q1 h=>h)))) fun _ h=>(oC h (fun _ h=>(q1 (oG h fun _ h=>(oL h fun _ _ h=>(oC h (fun _ h=>(oG h fun _ h=>⟨h_s.2.2.2.2.1,(q0 h)⟩)) fun _ h=>(q0 h)))))) fun _ h=>(oC h (fun _ h=>(q0 (⟨(aJ h_ahead s.2.1).1,(oL h fun r2 _ h=>(oC h (fun _ h=>h) fun _ h=>(bZ (fun m hm=>⟨(r2.length:Int),trivial,hm⟩) Z0 _ rfl (Int.natCast_nonneg 0) trivial (aU h (fun v3 h hv3=>h) (fun q3 h=>h)))))⟩))) fun _ h=>h)))))⟩⟩⟩⟩)) fun _ h=>h)))) fun _ h=>h)⟩
def c36:Con:=⟨[.dat TTb,.dat TSS],fun args hp K=>g2 (pD TTb) (pD TSS) (fun tables plan=>(Sm TTb tables)/\(Sm TSS plan)/\(LD (M.makes tables plan) fun r=>K (.tup [.data (Ty.sl aF) r.1,dB r.2]) [])) args hp,.plain,false⟩
abbrev C36:Ctx:=cx [(60,c60),(78,c78),(79,c79)] 46 [] 0 false
def ann36:=an [[kp 3],[kp 524291],[kp 48],[kp 67],[kp 7340097],[kp 15728705],[.fixRow 8 aj,kp 7340353],[.fixRow 9 aF,kp 7341633],[kp 549763154497],[kp 48],[kp 7340097],[kp 7340097],[kp 48]] [[kp 64]]
abbrev s36_0 (tables:LTb) (plan:LS) (i0:Int) (v0:(List aF.D)):St:=⟨[(0,.data TTb tables),(6,.own 6 none),(20,.data TSS plan),(21,dI (plan.length:Int)),(22,dI i0)],[(6,.arr .sh aF v0)]⟩
abbrev LP36_0 (tables:LTb) (plan:LS) (m:Nat) (st_:St) (K:KX):Prop:=True/\bJ (t:=aj) (s36_0 tables plan) plan (F.hG tables plan) (fun v0:(List aF.D)=>True) (bq (fun v0:(List aF.D)=>True->K (.exit 0) (⟨[(6,.own 6 none)],[(6,.arr .sh aF v0)]⟩:St)) (fun q0:Unit=>K .ret (⟨[(4,.own 4 none),(5,dB false)],[(4,.arr .sh aF [])]⟩:St))) m st_
def L36 (tables:LTb) (plan:LS):bD:=lp1 0 (LP36_0 tables plan)
theorem vc36 (tables:LTb) (plan:LS) (K:KA):vcT C36 (L36 tables plan) ann36 f36 [.data TTb tables,.data TSS plan] [] (.tup [(Ty.sl aF),Ty.bool]) K =
 ((Sm TTb tables)/\cond ((!(M.cA tables))==false) (cond (!(M.inR (plan.length:Int) Z1 Z6)) (K (.tup [.data (Ty.sl aF) [],dB false]) []) (∃m_,True/\bJ (t:=aj) (s36_0 tables plan) plan (F.hG tables plan) (fun v0:(List aF.D)=>True) (bq (fun v0:(List aF.D)=>True->K (.tup [.data (Ty.sl aF) v0,dB true]) []) (fun q0:Unit=>K (.tup [.data (Ty.sl aF) [],dB false]) [])) m_ (s36_0 tables plan Z0 []))) (K (.tup [.data (Ty.sl aF) [],dB false]) [])):=by kernel_rfl
theorem lvc36_0 (tables:LTb) (plan:LS)  (i0:Int) (v0:(List aF.D)) (m:Nat) (K:KX):lvT C36 (L36 tables plan) ann36 f36 0 0 (s36_0 tables plan i0 v0) m K =
 (cond (decide (i0<(plan.length:Int))) ((0<=i0)/\(i0<(plan.length:Int))/\(Sm aj (nS plan i0))/\(Sm TTb tables)/\(Sm (Ty.sl aF) v0)/\(LD (M.make (nS plan i0) tables v0) fun r1=>cond ((!r1.2)==false) (cond (decide ((300:Int)<r1.1.2.1)) (K .ret (⟨[(4,.own 4 none),(5,dB false)],[(4,.arr .sh aF [])]⟩:St)) (((v0.length+[r1.1].length) * 32<=lim)/\(nxT (LP36_0 tables plan) m K (s36_0 tables plan (wrap64 (i0+Z1)) (v0++[r1.1]))))) (K .ret (⟨[(4,.own 4 none),(5,dB false)],[(4,.arr .sh aF [])]⟩:St)))) (K (.exit 0) (⟨[(6,.own 6 none)],[(6,.arr .sh aF v0)]⟩:St))):=by kernel_rfl
theorem con36_ok:aT P 36 c36:=aZ C36 func36 (kC con60_ok (kC con78_ok (kC con79_ok kN))) fun args hp K h0=>by
 obtain⟨tables,plan,rfl,rfl,h_tables,h_plan,hK⟩:=g2e h0
 have h:ok (F.lT tables plan) (fun r=>K (.tup [.data (Ty.sl aF) r.1,dB r.2]) []):=az (F.zI tables plan h_tables h_plan) (hK _ rfl)
 refine⟨rfl,ann36,(L36 tables plan),(.tup [(Ty.sl aF),Ty.bool]),(bH (i0:=0) (by kernel_rfl) ?_),?_⟩
 ·rintro _ _ K ⟨hc0,i0,v0,rfl,hl0,rfl,hv0,h⟩
  exact cast (lvc36_0 _ _ _ _ _ _).symm (aW (t:=aj) hl0 h (fun ht0 h=>⟨hl0,⟨ht0,⟨(aJ h_plan i0),⟨h_tables,(oG h fun _ h=>(oL h fun _ _ h=>(oC h (fun _ h=>(oC h (fun _ h=>h) fun _ h=>(oG h fun _ h=>(aP (t:=aj) (fun _ hm=>⟨hc0,hm⟩) _ rfl hl0 ht0 (bu h_plan) trivial h)))) fun _ h=>h)))⟩⟩⟩⟩) fun h=>(h trivial))
 ·rw[vc36]
  exact⟨h_tables,(oC h (fun _ h=>(oC h (fun _ h=>h) fun _ h=>(aQ (t:=aj) (fun m hm=>⟨trivial,hm⟩) _ rfl trivial (aU h (fun v0 h hv0=>h) (fun q0 h=>h))))) fun _ h=>h)⟩
def c10:Con:=⟨[.dat TTb,.dat TSS],fun args hp K=>g2 (pD TTb) (pD TSS) (fun tables plan=>(Sm TTb tables)/\(Sm TSS plan)/\K (dB (M.bL tables plan)) []) args hp,.plain,false⟩
abbrev C10:Ctx:=cx [(36,c36)] 14 [] 0 false
def ann10:=an [[kp 3],[kp 64],[kp 16]] []
theorem vc10 (tables:LTb) (plan:LS) (K:KA):vcT C10 ay ann10 f10 [.data TTb tables,.data TSS plan] [] (.dat Ty.bool) K =
 ((Sm TTb tables)/\(Sm TSS plan)/\(LD (M.makes tables plan) fun r1=>K (dB r1.2) [])):=by kernel_rfl
theorem con10_ok:aT P 10 c10:=aZ C10 func10 (kC con36_ok kN) fun args hp K h0=>by
 obtain⟨tables,plan,rfl,rfl,h_tables,h_plan,hK⟩:=g2e h0
 have h:ok (F.qk tables plan) (fun r=>K (dB r) []):=az (F.zd tables plan h_tables h_plan) hK
 refine⟨rfl,ann10,ay,(.dat Ty.bool),(aG (by kernel_rfl)),?_⟩
 ·rw[vc10]
  exact⟨h_tables,⟨h_plan,(oL h fun _ _ h=>h)⟩⟩
abbrev C142:Ctx:=cx [] 9 [] 400000 true
def T142:Inl:=By C142 (fun _=>[]) (eT f142) f142.results.toList
theorem inlOk142:Dg P 142 T142:=GJ C142 func142 kN
def c87:Con:=⟨[.dat TVS],fun args hp K=>g1 (pD TVS) (fun xs=>(Sm TVS xs)/\(LD xs fun r=>K (.clp 0 (r.length:Int)) [(0,.arr .sh aa r)])) args hp,.bor,false⟩
abbrev C87:Ctx:=cx [] 9 [(142,T142)] 0 true
def ann87:=an [[kp 1],[kp 33],[.clip 2,kp 4],[kp 4]] []
theorem vc87 (xs:LV) (K:KA):vcT C87 ay ann87 f87 [.data TVS xs] [] .raw K =
 (cond (decide ((xs.length:Int)=Z0)) (K (.clp 0 (([]:List aa.D).length:Int)) [(0,.arr .sh aa ([]:List aa.D))]) ((xs.length * 32<=lim)/\(0<=Z0)/\(Z0<=(xs.length:Int))/\((xs.length:Int)<=(xs.length:Int))/\((xs.length:Int)=(xs.length:Int))/\(Z0=0)/\K (.clp 0 ((xs.take (xs.length:Int).toNat).length:Int)) [(0,.arr .sh aa (xs.take (xs.length:Int).toNat))])):=by kernel_rfl
theorem con87_ok:aT P 87 c87:=aZ C87 func87 (kI inlOk142 kN) fun args hp K h0=>by
 obtain⟨xs,rfl,rfl,h_xs,hK⟩:=g1e h0
 have h:ok (F.tR xs) (fun r=>K (.clp 0 (r.length:Int)) [(0,.arr .sh aa r)]):=az (F.wU xs h_xs) (hK _ rfl)
 refine⟨rfl,ann87,ay,.raw,(aG (by kernel_rfl)),?_⟩
 ·rw[vc87]
  exact(oC h (fun _ h=>h) fun _ h=>⟨(Ff h_xs rfl),⟨(Int.natCast_nonneg 0),⟨(Int.natCast_nonneg _),⟨(Int.le_refl _),⟨rfl,⟨rfl,h⟩⟩⟩⟩⟩⟩)
abbrev C88:Ctx:=cx [] 9 [] 400000 true
def T88:Inl:=By C88 (fun _=>[]) (eT f88) f88.results.toList
theorem inlOk88:Dg P 88 T88:=GJ C88 func88 kN
def c42:Con:=⟨[.dat (Ty.sl TVS)],fun args hp K=>g1 (pD (Ty.sl TVS)) (fun rows=>(Sm (Ty.sl TVS) rows)/\(LD rows fun r=>K (.clp 0 (r.length:Int)) [(0,.arr .dp TVS r)])) args hp,.bor,false⟩
abbrev C42:Ctx:=cx [(87,c87)] 20 [(88,T88)] 0 true
def ann42:=an [[kp 1],[kp 9],[kp 456],[kp 968],[kp 488],[kp 456],[kp 456],[kp 4]] [[kp 8]]
abbrev s42_0 (rows:(List LV)) (i0:Int) (v0:(List LV)):St:=⟨[(3,.own 3 none),(6,.data (Ty.sl TVS) rows),(7,dI (rows.length:Int)),(8,dI i0)],[(3,.arr .dp TVS v0)]⟩
abbrev LP42_0 (rows:(List LV)) (m:Nat) (st_:St) (K:KX):Prop:=True/\bJ (t:=TVS) (s42_0 rows) rows (F.gK rows) (fun v0:(List LV)=>True) (bq (fun v0:(List LV)=>True->K (.exit 0) (⟨[(3,.own 3 none)],[(3,.arr .dp TVS v0)]⟩:St)) (fun _=>False)) m st_
def L42 (rows:(List LV)):bD:=lp1 0 (LP42_0 rows)
theorem vc42 (rows:(List LV)) (K:KA):vcT C42 (L42 rows) ann42 f42 [.data (Ty.sl TVS) rows] [] .raw K =
 (∃m_,True/\bJ (t:=TVS) (s42_0 rows) rows (F.gK rows) (fun v0:(List LV)=>True) (bq (fun v0:(List LV)=>True->(0<=Z0)/\(Z0<=(v0.length:Int))/\((v0.length:Int)<=(v0.length:Int))/\((v0.length:Int)=(v0.length:Int))/\(Z0=0)/\K (.clp 0 ((v0.take (v0.length:Int).toNat).length:Int)) [(0,.arr .dp TVS (v0.take (v0.length:Int).toNat))]) (fun _=>False)) m_ (s42_0 rows Z0 [])):=by kernel_rfl
theorem lvc42_0 (rows:(List LV))  (i0:Int) (v0:(List LV)) (m:Nat) (K:KX):lvT C42 (L42 rows) ann42 f42 0 0 (s42_0 rows i0 v0) m K =
 (cond (decide (i0<(rows.length:Int))) ((0<=i0)/\(i0<(rows.length:Int))/\(Sm TVS (nth (t:=TVS) rows i0))/\(LD (nth (t:=TVS) rows i0) fun r1=>((v0.length+[(aB r1 (some (Z0,(r1.length:Int))))].length) * 24<=lim)/\(nxT (LP42_0 rows) m K (s42_0 rows (wrap64 (i0+Z1)) (v0++[(aB r1 (some (Z0,(r1.length:Int))))]))))) (K (.exit 0) (⟨[(3,.own 3 none)],[(3,.arr .dp TVS v0)]⟩:St))):=by kernel_rfl
theorem con42_ok:aT P 42 c42:=aZ C42 func42 (kC con87_ok (kI inlOk88 kN)) fun args hp K h0=>by
 obtain⟨rows,rfl,rfl,h_rows,hK⟩:=g1e h0
 have h:ok (F.mI rows) (fun r=>K (.clp 0 (r.length:Int)) [(0,.arr .dp TVS r)]):=az (F.va rows h_rows) (hK _ rfl)
 refine⟨rfl,ann42,(L42 rows),.raw,(bH (i0:=0) (by kernel_rfl) ?_),?_⟩
 ·rintro _ _ K ⟨hc0,i0,v0,rfl,hl0,rfl,hv0,h⟩
  exact cast (lvc42_0 _ _ _ _ _).symm (aW (t:=TVS) hl0 h (fun ht0 h=>⟨hl0,⟨ht0,⟨(aJ h_rows i0),(oL h fun _ _ h=>(oG h fun _ h=>(aP (t:=TVS) (fun _ hm=>⟨hc0,hm⟩) _ rfl hl0 ht0 (bu h_rows) trivial h)))⟩⟩⟩) fun h=>(h trivial))
 ·rw[vc42]
  exact(aQ (t:=TVS) (fun m hm=>⟨trivial,hm⟩) _ rfl trivial (aU h (fun v0 h hv0=>⟨(Int.natCast_nonneg 0),⟨(Int.natCast_nonneg _),⟨(Int.le_refl _),⟨rfl,⟨rfl,h⟩⟩⟩⟩⟩) (fun _ h=>h.elim)))
def c90:Con:=⟨[.lent aa,.lent aa],fun args hp K=>g2 (pB aa) (pB aa) (fun xs ys=>(Sm TVS xs)/\(Sm TVS ys)/\K (dB (decide (xs=ys))) []) args hp,.plain,false⟩
abbrev C90:Ctx:=cx [] 26 [] 0 false
def ann90:=an [[kp 3],[kp 1027],[kp 16],[kp 12291],[kp 28675],[kp 12323],[kp 16789507],[kp 16],[kp 12291],[kp 16]] [[kp 0]]
abbrev s90_0 (xs:LV) (ys:LV) (i0:Int) (v0:Unit):St:=⟨[(0,.brw aa xs),(1,.brw aa ys),(12,dI (xs.length:Int)),(13,dI i0)],[]⟩
abbrev LP90_0 (xs:LV) (ys:LV) (m:Nat) (st_:St) (K:KX):Prop:=True/\dJ (s90_0 xs ys) Z0 (xs.length:Int) (F.ij xs ys) (fun v0:Unit=>True) (bq (fun v0:Unit=>True->K (.exit 0) (⟨[],[]⟩:St)) (fun q0:Unit=>K .ret (⟨[(4,dB false)],[]⟩:St))) m st_
def L90 (xs:LV) (ys:LV):bD:=lp1 0 (LP90_0 xs ys)
theorem vc90 (xs:LV) (ys:LV) (K:KA):vcT C90 (L90 xs ys) ann90 f90 [.brw aa xs,.brw aa ys] [] (.dat Ty.bool) K =
 (cond (!decide ((xs.length:Int)=(ys.length:Int))) (K (dB false) []) (∃m_,True/\dJ (s90_0 xs ys) Z0 (xs.length:Int) (F.ij xs ys) (fun v0:Unit=>True) (bq (fun v0:Unit=>True->K (dB true) []) (fun q0:Unit=>K (dB false) [])) m_ (s90_0 xs ys Z0 ()))):=by kernel_rfl
theorem lvc90_0 (xs:LV) (ys:LV)  (i0:Int) (v0:Unit) (m:Nat) (K:KX):lvT C90 (L90 xs ys) ann90 f90 0 0 (s90_0 xs ys i0 v0) m K =
 (cond (decide (i0<(xs.length:Int))) ((0<=i0)/\(i0<(xs.length:Int))/\(0<=i0)/\(i0<(ys.length:Int))/\cond (!(Ty.beq aa (nV xs i0) (nV ys i0))) (K .ret (⟨[(4,dB false)],[]⟩:St)) (nxT (LP90_0 xs ys) m K (s90_0 xs ys (wrap64 (i0+Z1)) ()))) (K (.exit 0) (⟨[],[]⟩:St))):=by kernel_rfl
theorem con90_ok:aT P 90 c90:=aZ C90 func90 kN fun args hp K h0=>by
 obtain⟨xs,ys,rfl,rfl,h_xs,h_ys,hK⟩:=g2e h0
 have h:ok (F.uj xs ys) (fun r=>K (dB r) []):=az (F.wI xs ys h_xs h_ys) hK
 refine⟨rfl,ann90,(L90 xs ys),(.dat Ty.bool),(bH (i0:=0) (by kernel_rfl) ?_),?_⟩
 ·rintro _ _ K ⟨hc0,i0,v0,rfl,hl0,rfl,hv0,h⟩
  exact cast (lvc90_0 _ _ _ _ _ _).symm (cC h (fun ht0 h=>⟨hl0,⟨ht0,⟨hl0,(oG h fun _ h=>(oC h (fun _ h=>h) fun _ h=>(bT (fun _ hm=>⟨hc0,hm⟩) _ rfl hl0 nu ht0 (bu h_xs) trivial h)))⟩⟩⟩) fun h=>(h trivial))
 ·rw[vc90]
  exact(oC h (fun _ h=>h) fun _ h=>(bZ (fun m hm=>⟨trivial,hm⟩) Z0 _ rfl (Int.natCast_nonneg 0) trivial (aU h (fun v0 h hv0=>h) (fun q0 h=>h))))
def c44:Con:=⟨[.lent TVS,.dat TVS],fun args hp K=>g2 (pB TVS) (pD TVS) (fun rows row=>(Sm (Ty.sl TVS) rows)/\(Sm TVS row)/\K (dI (M.dx rows row:Int)) []) args hp,.plain,false⟩
abbrev C44:Ctx:=cx [(90,c90)] 21 [] 0 false
def ann44:=an [[kp 3],[kp 35],[kp 1826],[kp 3874],[kp 1954],[kp 67362],[kp 1826],[kp 1826],[kp 16]] [[kp 32]]
abbrev s44_0 (rows:(List LV)) (row:LV) (i0:Int) (v0:Int):St:=⟨[(1,.data TVS row),(5,dI v0),(8,.brw TVS rows),(9,dI (rows.length:Int)),(10,dI i0)],[]⟩
abbrev LP44_0 (rows:(List LV)) (row:LV) (m:Nat) (st_:St) (K:KX):Prop:=True/\bJ (t:=TVS) (s44_0 rows row) rows (F.fH rows row) (fun v0:Int=>True) (bq (fun v0:Int=>True->K (.exit 0) (⟨[(5,dI v0)],[]⟩:St)) (fun _=>False)) m st_
def L44 (rows:(List LV)) (row:LV):bD:=lp1 0 (LP44_0 rows row)
theorem vc44 (rows:(List LV)) (row:LV) (K:KA):vcT C44 (L44 rows row) ann44 f44 [.brw TVS rows,.data TVS row] [] (.dat aE) K =
 (∃m_,True/\bJ (t:=TVS) (s44_0 rows row) rows (F.fH rows row) (fun v0:Int=>True) (bq (fun v0:Int=>True->K (dI v0) []) (fun _=>False)) m_ (s44_0 rows row Z0 Z0)):=by kernel_rfl
theorem lvc44_0 (rows:(List LV)) (row:LV)  (i0:Int) (v0:Int) (m:Nat) (K:KX):lvT C44 (L44 rows row) ann44 f44 0 0 (s44_0 rows row i0 v0) m K =
 (cond (decide (i0<(rows.length:Int))) ((0<=i0)/\(i0<(rows.length:Int))/\(Sm TVS (nth (t:=TVS) rows i0))/\(Sm TVS row)/\cond (decide ((nth (t:=TVS) rows i0)=row)) (nxT (LP44_0 rows row) m K (s44_0 rows row (wrap64 (i0+Z1)) (wrap64 (v0+Z1)))) (nxT (LP44_0 rows row) m K (s44_0 rows row (wrap64 (i0+Z1)) v0))) (K (.exit 0) (⟨[(5,dI v0)],[]⟩:St))):=by kernel_rfl
theorem con44_ok:aT P 44 c44:=aZ C44 func44 (kC con90_ok kN) fun args hp K h0=>by
 obtain⟨rows,row,rfl,rfl,h_rows,h_row,hK⟩:=g2e h0
 have h:ok (F.oJ rows row) (fun r=>K (dI r) []):=az (F.xg rows row h_rows h_row) hK
 refine⟨rfl,ann44,(L44 rows row),(.dat aE),(bH (i0:=0) (by kernel_rfl) ?_),?_⟩
 ·rintro _ _ K ⟨hc0,i0,v0,rfl,hl0,rfl,hv0,h⟩
  exact cast (lvc44_0 _ _ _ _ _ _).symm (aW (t:=TVS) hl0 h (fun ht0 h=>⟨hl0,⟨ht0,⟨(aJ h_rows i0),⟨h_row,(oC h (fun _ h=>(aP (t:=TVS) (fun _ hm=>⟨hc0,hm⟩) _ rfl hl0 ht0 (bu h_rows) trivial h)) fun _ h=>(aP (t:=TVS) (fun _ hm=>⟨hc0,hm⟩) _ rfl hl0 ht0 (bu h_rows) trivial h))⟩⟩⟩⟩) fun h=>(h trivial))
 ·rw[vc44]
  exact(aQ (t:=TVS) (fun m hm=>⟨trivial,hm⟩) _ rfl trivial (aU h (fun v0 h hv0=>h) (fun _ h=>h.elim)))
def c59:Con:=⟨[.lent TVS,.dat TVS],fun args hp K=>g2 (pB TVS) (pD TVS) (fun rows row=>(Sm (Ty.sl TVS) rows)/\(Sm TVS row)/\K (dB (decide (0<(M.dx rows row:Int)))) []) args hp,.plain,false⟩
abbrev C59:Ctx:=cx [(44,c44)] 9 [] 0 false
def ann59:=an [[kp 3],[kp 16]] []
theorem vc59 (rows:(List LV)) (row:LV) (K:KA):vcT C59 ay ann59 f59 [.brw TVS rows,.data TVS row] [] (.dat Ty.bool) K =
 ((Sm (Ty.sl TVS) rows)/\(Sm TVS row)/\K (dB (decide (Z0<(M.dx rows row:Int)))) []):=by kernel_rfl
theorem con59_ok:aT P 59 c59:=aZ C59 func59 (kC con44_ok kN) fun args hp K h0=>by
 obtain⟨rows,row,rfl,rfl,h_rows,h_row,hK⟩:=g2e h0
 have h:ok (F.tB rows row) (fun r=>K (dB r) []):=az (F.wG rows row h_rows h_row) hK
 refine⟨rfl,ann59,ay,(.dat Ty.bool),(aG (by kernel_rfl)),?_⟩
 ·rw[vc59]
  exact⟨h_rows,⟨h_row,h⟩⟩
def c22:Con:=⟨[.dat (Ty.sl TVS)],fun args hp K=>g1 (pD (Ty.sl TVS)) (fun rows=>(Sm (Ty.sl TVS) rows)/\(LD (M.cB rows) fun r=>K (.clp 0 (r.length:Int)) [(0,.arr .dp TVS r)])) args hp,.bor,false⟩
abbrev C22:Ctx:=cx [(42,c42),(59,c59)] 23 [] 0 true
def ann22:=an [[kp 1],[.weak 3,kp 9],[kp 456],[kp 968],[kp 488],[kp 33256],[kp 456],[kp 456],[kp 4]] [[kp 8]]
abbrev s22_0 (rows:(List LV)) (i0:Int) (v0:(List LV)):St:=⟨[(3,.own 3 none),(6,.data (Ty.sl TVS) rows),(7,dI (rows.length:Int)),(8,dI i0)],[(3,.arr .sh TVS v0)]⟩
abbrev LP22_0 (rows:(List LV)) (m:Nat) (st_:St) (K:KX):Prop:=True/\bJ (t:=TVS) (s22_0 rows) rows (F.fh rows) (fun v0:(List LV)=>True) (bq (fun v0:(List LV)=>True->K (.exit 0) (⟨[(3,.own 3 none)],[(3,.arr .sh TVS v0)]⟩:St)) (fun _=>False)) m st_
def L22 (rows:(List LV)):bD:=lp1 0 (LP22_0 rows)
theorem vc22 (rows:(List LV)) (K:KA):vcT C22 (L22 rows) ann22 f22 [.data (Ty.sl TVS) rows] [] .raw K =
 (∃m_,True/\bJ (t:=TVS) (s22_0 rows) rows (F.fh rows) (fun v0:(List LV)=>True) (bq (fun v0:(List LV)=>True->(Sm (Ty.sl TVS) v0)/\(LD v0 fun r1=>K (.clp 0 ((r1.take (r1.length:Int).toNat).length:Int)) [(0,.arr .dp TVS (r1.take (r1.length:Int).toNat))])) (fun _=>False)) m_ (s22_0 rows Z0 [])):=by kernel_rfl
theorem lvc22_0 (rows:(List LV))  (i0:Int) (v0:(List LV)) (m:Nat) (K:KX):lvT C22 (L22 rows) ann22 f22 0 0 (s22_0 rows i0 v0) m K =
 (cond (decide (i0<(rows.length:Int))) ((0<=i0)/\(i0<(rows.length:Int))/\(Sm (Ty.sl TVS) v0)/\(Sm TVS (nth (t:=TVS) rows i0))/\cond (!(decide (0<(M.dx v0 (nth (t:=TVS) rows i0):Int)))) (((v0.length+[(nth (t:=TVS) rows i0)].length) * 24<=lim)/\(nxT (LP22_0 rows) m K (s22_0 rows (wrap64 (i0+Z1)) (v0++[(nth (t:=TVS) rows i0)])))) (nxT (LP22_0 rows) m K (s22_0 rows (wrap64 (i0+Z1)) v0))) (K (.exit 0) (⟨[(3,.own 3 none)],[(3,.arr .sh TVS v0)]⟩:St))):=by kernel_rfl
theorem con22_ok:aT P 22 c22:=aZ C22 func22 (kC con42_ok (kC con59_ok kN)) fun args hp K h0=>by
 obtain⟨rows,rfl,rfl,h_rows,hK⟩:=g1e h0
 have h:ok (F.nh rows) (fun r=>K (.clp 0 (r.length:Int)) [(0,.arr .dp TVS r)]):=az (F.vo rows h_rows) (hK _ rfl)
 refine⟨rfl,ann22,(L22 rows),.raw,(bH (i0:=0) (by kernel_rfl) ?_),?_⟩
 ·rintro _ _ K ⟨hc0,i0,v0,rfl,hl0,rfl,hv0,h⟩
  exact cast (lvc22_0 _ _ _ _ _).symm (aW (t:=TVS) hl0 h (fun ht0 h=>⟨hl0,⟨ht0,(oG h fun _ h=>⟨(aJ h_rows i0),(oC h (fun _ h=>(oG h fun _ h=>(aP (t:=TVS) (fun _ hm=>⟨hc0,hm⟩) _ rfl hl0 ht0 (bu h_rows) trivial h))) fun _ h=>(aP (t:=TVS) (fun _ hm=>⟨hc0,hm⟩) _ rfl hl0 ht0 (bu h_rows) trivial h))⟩)⟩⟩) fun h=>(h trivial))
 ·rw[vc22]
  exact(aQ (t:=TVS) (fun m hm=>⟨trivial,hm⟩) _ rfl trivial (aU h (fun v0 h hv0=>(oG h fun _ h=>(oL h fun _ _ h=>h))) (fun _ h=>h.elim)))
def c89:Con:=⟨[.any,.dat aE],fun args hp K=>args2 (fun a0 a1=>BP a0 (fy aE a1 fun n=>(0<=n)/\(n<=1099511627776)/\(LD ([]:List TVS.D) fun r=>K (.own 0 none) [(0,.arr .sh TVS r)]))) args hp,.plain,false⟩
abbrev C89:Ctx:=cx [] 27 [] 0 false
def ann89:=an [[kp 3],[kp 67],[kp 3],[kp 3],[kp 65539],[kp 1],[kp 16]] []
theorem vc89 (n:Int) (K:KA):vcT C89 ay ann89 f89 [.cst (.slice none 0 0),dI n] [] .raw K =
 (cond (decide (n<Z0)) False (cond (decide (Z0<wrap64 (n-(wrap64 (Z0-Z0))))) ((0<=Z0)/\(Z0<=Z0)/\(Z0<=Z0)/\(Z0=Z0)/\(0<=wrap64 (n-(wrap64 (Z0-Z0))))/\((wrap64 (n-(wrap64 (Z0-Z0)))) * 24<=(lim:Int))/\(0<=Z0)/\(Z0<=Z0)/\(Z0<=((List.replicate (wrap64 (n-(wrap64 (Z0-Z0)))).toNat ([]:List aa.D)).length:Int))/\(Z0=Z0)/\(Z0=0)/\K (.own 0 none) [(0,.arr .sh TVS ((List.replicate (wrap64 (n-(wrap64 (Z0-Z0)))).toNat ([]:List aa.D)).take Z0.toNat))]) (K (.own 0 none) [(0,.arr .sh TVS [])]))):=by kernel_rfl
theorem con89_ok:aT P 89 c89:=aZ C89 func89 kN fun args hp K h0=>by
 obtain⟨a0,a1,rfl,rfl,h1⟩:=bO h0
 obtain⟨rfl,h2⟩:=sD h1
 obtain⟨n,rfl,h3⟩:=bt h2
 obtain⟨p0,p1,hK⟩:=h3
 have h:ok (F.nU n) (fun r=>K (.own 0 none) [(0,.arr .sh TVS r)]):=az (F.wD n p0 p1) (hK _ rfl)
 refine⟨rfl,ann89,ay,.raw,(aG (by kernel_rfl)),?_⟩
 ·rw[vc89]
  exact(oC h (fun _ h=>h) fun _ h=>(oC h (fun _ h=>⟨(Int.natCast_nonneg 0),⟨(Int.le_refl _),⟨(Int.le_refl _),⟨rfl,(oG h fun _ h=>(oG h fun _ h=>⟨(Int.natCast_nonneg 0),⟨(Int.le_refl _),⟨(Int.natCast_nonneg _),⟨rfl,⟨rfl,h⟩⟩⟩⟩⟩))⟩⟩⟩⟩) fun _ h=>h))
def c43:Con:=⟨[.dat (Ty.sl (Ty.sl TVS))],fun args hp K=>g1 (pD (Ty.sl (Ty.sl TVS))) (fun xss=>(Sm (Ty.sl (Ty.sl TVS)) xss)/\(LD (List.flatten xss) fun r=>K (.own 0 none) [(0,.arr .sh TVS r)])) args hp,.plain,false⟩
abbrev C43:Ctx:=cx [(89,c89)] 36 [] 0 false
def ann43:=an [[kp 1],[kp 9],[kp 3593],[kp 7689],[kp 3625],[kp 3593],[kp 1052169],[kp 3593],[kp 3593],[kp 65],[kp 234881088],[kp 503316544],[kp 234881344],[kp 234881088],[kp 234881088],[kp 4]] [[kp 9],[],[kp 64]]
abbrev s43_0 (xss:(List (List LV))) (i0:Int) (v0:Int):St:=⟨[(0,.data (Ty.sl (Ty.sl TVS)) xss),(3,dI v0),(9,.data (Ty.sl (Ty.sl TVS)) xss),(10,dI (xss.length:Int)),(11,dI i0)],[]⟩
abbrev LP43_0 (xss:(List (List LV))) (m:Nat) (st_:St) (K:KX):Prop:=True/\bJ (t:=(Ty.sl TVS)) (s43_0 xss) xss (F.fW xss) (fun v0:Int=>True) (bq (fun v0:Int=>True->K (.exit 0) (⟨[(0,.data (Ty.sl (Ty.sl TVS)) xss),(3,dI v0)],[]⟩:St)) (fun _=>False)) m st_
abbrev s43_2 (xss:(List (List LV))) (i2:Int) (v2:(List LV)):St:=⟨[(6,.own 24 none),(25,.data (Ty.sl (Ty.sl TVS)) xss),(26,dI (xss.length:Int)),(27,dI i2)],[(24,.arr .sh TVS v2)]⟩
abbrev LP43_2 (xss:(List (List LV))) (m:Nat) (st_:St) (K:KX):Prop:=True/\bJ (t:=(Ty.sl TVS)) (s43_2 xss) xss (F.fZ xss) (fun v2:(List LV)=>True) (bq (fun v2:(List LV)=>True->K (.exit 2) (⟨[(6,.own 24 none)],[(24,.arr .sh TVS v2)]⟩:St)) (fun _=>False)) m st_
def L43 (xss:(List (List LV))):bD:=lp2 0 (LP43_0 xss) 2 (LP43_2 xss)
theorem vc43 (xss:(List (List LV))) (K:KA):vcT C43 (L43 xss) ann43 f43 [.data (Ty.sl (Ty.sl TVS)) xss] [] .raw K =
 (∃m_,True/\bJ (t:=(Ty.sl TVS)) (s43_0 xss) xss (F.fW xss) (fun v0:Int=>True) (bq (fun v0:Int=>True->(0<=v0)/\(v0<=1099511627776)/\(LD ([]:List TVS.D) fun r1=>(∃m_,True/\bJ (t:=(Ty.sl TVS)) (s43_2 xss) xss (F.fZ xss) (fun v2:(List LV)=>True) (bq (fun v2:(List LV)=>True->K (.own 0 none) [(0,.arr .sh TVS v2)]) (fun _=>False)) m_ (s43_2 xss Z0 r1)))) (fun _=>False)) m_ (s43_0 xss Z0 Z0)):=by kernel_rfl
theorem lvc43_0 (xss:(List (List LV)))  (i0:Int) (v0:Int) (m:Nat) (K:KX):lvT C43 (L43 xss) ann43 f43 0 0 (s43_0 xss i0 v0) m K =
 (cond (decide (i0<(xss.length:Int))) ((0<=i0)/\(i0<(xss.length:Int))/\cond (decide (wrap64 (v0+((nth (t:=(Ty.sl TVS)) xss i0).length:Int))<Z0)) False (nxT (LP43_0 xss) m K (s43_0 xss (wrap64 (i0+Z1)) (wrap64 (v0+((nth (t:=(Ty.sl TVS)) xss i0).length:Int)))))) (K (.exit 0) (⟨[(0,.data (Ty.sl (Ty.sl TVS)) xss),(3,dI v0)],[]⟩:St))):=by kernel_rfl
theorem lvc43_1 (xss:(List (List LV)))  (i2:Int) (v2:(List LV)) (m:Nat) (K:KX):lvT C43 (L43 xss) ann43 f43 1 2 (s43_2 xss i2 v2) m K =
 (cond (decide (i2<(xss.length:Int))) ((0<=i2)/\(i2<(xss.length:Int))/\((v2.length+(nth (t:=(Ty.sl TVS)) xss i2).length) * 24<=lim)/\(nxT (LP43_2 xss) m K (s43_2 xss (wrap64 (i2+Z1)) (v2++(nth (t:=(Ty.sl TVS)) xss i2))))) (K (.exit 2) (⟨[(6,.own 24 none)],[(24,.arr .sh TVS v2)]⟩:St))):=by kernel_rfl
theorem con43_ok:aT P 43 c43:=aZ C43 func43 (kC con89_ok kN) fun args hp K h0=>by
 obtain⟨xss,rfl,rfl,h_xss,hK⟩:=g1e h0
 have h:ok (F.lQ xss) (fun r=>K (.own 0 none) [(0,.arr .sh TVS r)]):=az (F.tg xss h_xss) (hK _ rfl)
 refine⟨rfl,ann43,(L43 xss),.raw,(qW (i0:=0) (i1:=2) (by kernel_rfl) ?_ ?_),?_⟩
 ·rintro _ _ K ⟨hc0,i0,v0,rfl,hl0,rfl,hv0,h⟩
  exact cast (lvc43_0 _ _ _ _ _).symm (aW (t:=(Ty.sl TVS)) hl0 h (fun ht0 h=>⟨hl0,⟨ht0,(oC h (fun _ h=>h) fun _ h=>(aP (t:=(Ty.sl TVS)) (fun _ hm=>⟨hc0,hm⟩) _ rfl hl0 ht0 (bu h_xss) trivial h))⟩⟩) fun h=>(h trivial))
 ·rintro _ _ K ⟨hc2,i2,v2,rfl,hl2,rfl,hv2,h⟩
  exact cast (lvc43_1 _ _ _ _ _).symm (aW (t:=(Ty.sl TVS)) hl2 h (fun ht2 h=>⟨hl2,⟨ht2,(oG h fun _ h=>(aP (t:=(Ty.sl TVS)) (fun _ hm=>⟨hc2,hm⟩) _ rfl hl2 ht2 (bu h_xss) trivial h))⟩⟩) fun h=>(h trivial))
 ·rw[vc43]
  exact(aQ (t:=(Ty.sl TVS)) (fun m hm=>⟨trivial,hm⟩) _ rfl trivial (aU h (fun v0 h hv0=>(oG h fun _ h=>(oG h fun _ h=>(oL h fun _ _ h=>(aQ (t:=(Ty.sl TVS)) (fun m hm=>⟨trivial,hm⟩) _ rfl trivial (aU h (fun v2 h hv2=>h) (fun _ h=>h.elim))))))) (fun _ h=>h.elim)))
def c160:Con:=⟨[.any,.dat aE],fun args hp K=>args2 (fun a0 a1=>BP a0 (fy aE a1 fun n=>(0<=n)/\(n<=1099511627776)/\(LD ([]:List aa.D) fun r=>K (.own 0 none) [(0,.arr .sh aa r)]))) args hp,.plain,false⟩
abbrev C160:Ctx:=cx [] 27 [] 0 false
def ann160:=an [[kp 3],[kp 67],[kp 3],[kp 3],[kp 65539],[kp 1],[kp 16]] []
theorem vc160 (n:Int) (K:KA):vcT C160 ay ann160 f160 [.cst (.slice none 0 0),dI n] [] .raw K =
 (cond (decide (n<Z0)) False (cond (decide (Z0<wrap64 (n-(wrap64 (Z0-Z0))))) ((0<=Z0)/\(Z0<=Z0)/\(Z0<=Z0)/\(Z0=Z0)/\(0<=wrap64 (n-(wrap64 (Z0-Z0))))/\((wrap64 (n-(wrap64 (Z0-Z0)))) * 32<=(lim:Int))/\(0<=Z0)/\(Z0<=Z0)/\(Z0<=((List.replicate (wrap64 (n-(wrap64 (Z0-Z0)))).toNat (Z0,(Z0,((⟨#[]⟩:ByteArray),())))).length:Int))/\(Z0=Z0)/\(Z0=0)/\K (.own 0 none) [(0,.arr .sh aa ((List.replicate (wrap64 (n-(wrap64 (Z0-Z0)))).toNat (Z0,(Z0,((⟨#[]⟩:ByteArray),())))).take Z0.toNat))]) (K (.own 0 none) [(0,.arr .sh aa [])]))):=by kernel_rfl
theorem con160_ok:aT P 160 c160:=aZ C160 func160 kN fun args hp K h0=>by
 obtain⟨a0,a1,rfl,rfl,h1⟩:=bO h0
 obtain⟨rfl,h2⟩:=sD h1
 obtain⟨n,rfl,h3⟩:=bt h2
 obtain⟨p0,p1,hK⟩:=h3
 have h:ok (F.pU n) (fun r=>K (.own 0 none) [(0,.arr .sh aa r)]):=az (F.ya n p0 p1) (hK _ rfl)
 refine⟨rfl,ann160,ay,.raw,(aG (by kernel_rfl)),?_⟩
 ·rw[vc160]
  exact(oC h (fun _ h=>h) fun _ h=>(oC h (fun _ h=>⟨(Int.natCast_nonneg 0),⟨(Int.le_refl _),⟨(Int.le_refl _),⟨rfl,(oG h fun _ h=>(oG h fun _ h=>⟨(Int.natCast_nonneg 0),⟨(Int.le_refl _),⟨(Int.natCast_nonneg _),⟨rfl,⟨rfl,h⟩⟩⟩⟩⟩))⟩⟩⟩⟩) fun _ h=>h))
def c105:Con:=⟨[.dat (Ty.sl TVS)],fun args hp K=>g1 (pD (Ty.sl TVS)) (fun xss=>(Sm (Ty.sl TVS) xss)/\(LD (List.flatten xss) fun r=>K (.own 0 none) [(0,.arr .sh aa r)])) args hp,.plain,false⟩
abbrev C105:Ctx:=cx [(160,c160)] 36 [] 0 false
def ann105:=an [[kp 1],[kp 9],[kp 3593],[kp 7689],[kp 3625],[kp 3593],[kp 1052169],[kp 3593],[kp 3593],[kp 65],[kp 234881088],[kp 503316544],[kp 234881344],[kp 234881088],[kp 234881088],[kp 4]] [[kp 9],[],[kp 64]]
abbrev s105_0 (xss:(List LV)) (i0:Int) (v0:Int):St:=⟨[(0,.data (Ty.sl TVS) xss),(3,dI v0),(9,.data (Ty.sl TVS) xss),(10,dI (xss.length:Int)),(11,dI i0)],[]⟩
abbrev LP105_0 (xss:(List LV)) (m:Nat) (st_:St) (K:KX):Prop:=True/\bJ (t:=TVS) (s105_0 xss) xss (F.gP xss) (fun v0:Int=>True) (bq (fun v0:Int=>True->K (.exit 0) (⟨[(0,.data (Ty.sl TVS) xss),(3,dI v0)],[]⟩:St)) (fun _=>False)) m st_
abbrev s105_2 (xss:(List LV)) (i2:Int) (v2:LV):St:=⟨[(6,.own 24 none),(25,.data (Ty.sl TVS) xss),(26,dI (xss.length:Int)),(27,dI i2)],[(24,.arr .sh aa v2)]⟩
abbrev LP105_2 (xss:(List LV)) (m:Nat) (st_:St) (K:KX):Prop:=True/\bJ (t:=TVS) (s105_2 xss) xss (F.gL xss) (fun v2:LV=>True) (bq (fun v2:LV=>True->K (.exit 2) (⟨[(6,.own 24 none)],[(24,.arr .sh aa v2)]⟩:St)) (fun _=>False)) m st_
def L105 (xss:(List LV)):bD:=lp2 0 (LP105_0 xss) 2 (LP105_2 xss)
theorem vc105 (xss:(List LV)) (K:KA):vcT C105 (L105 xss) ann105 f105 [.data (Ty.sl TVS) xss] [] .raw K =
 (∃m_,True/\bJ (t:=TVS) (s105_0 xss) xss (F.gP xss) (fun v0:Int=>True) (bq (fun v0:Int=>True->(0<=v0)/\(v0<=1099511627776)/\(LD ([]:List aa.D) fun r1=>(∃m_,True/\bJ (t:=TVS) (s105_2 xss) xss (F.gL xss) (fun v2:LV=>True) (bq (fun v2:LV=>True->K (.own 0 none) [(0,.arr .sh aa v2)]) (fun _=>False)) m_ (s105_2 xss Z0 r1)))) (fun _=>False)) m_ (s105_0 xss Z0 Z0)):=by kernel_rfl
theorem lvc105_0 (xss:(List LV))  (i0:Int) (v0:Int) (m:Nat) (K:KX):lvT C105 (L105 xss) ann105 f105 0 0 (s105_0 xss i0 v0) m K =
 (cond (decide (i0<(xss.length:Int))) ((0<=i0)/\(i0<(xss.length:Int))/\cond (decide (wrap64 (v0+((nth (t:=TVS) xss i0).length:Int))<Z0)) False (nxT (LP105_0 xss) m K (s105_0 xss (wrap64 (i0+Z1)) (wrap64 (v0+((nth (t:=TVS) xss i0).length:Int)))))) (K (.exit 0) (⟨[(0,.data (Ty.sl TVS) xss),(3,dI v0)],[]⟩:St))):=by kernel_rfl
theorem lvc105_1 (xss:(List LV))  (i2:Int) (v2:LV) (m:Nat) (K:KX):lvT C105 (L105 xss) ann105 f105 1 2 (s105_2 xss i2 v2) m K =
 (cond (decide (i2<(xss.length:Int))) ((0<=i2)/\(i2<(xss.length:Int))/\((v2.length+(nth (t:=TVS) xss i2).length) * 32<=lim)/\(nxT (LP105_2 xss) m K (s105_2 xss (wrap64 (i2+Z1)) (v2++(nth (t:=TVS) xss i2))))) (K (.exit 2) (⟨[(6,.own 24 none)],[(24,.arr .sh aa v2)]⟩:St))):=by kernel_rfl
theorem con105_ok:aT P 105 c105:=aZ C105 func105 (kC con160_ok kN) fun args hp K h0=>by
 obtain⟨xss,rfl,rfl,h_xss,hK⟩:=g1e h0
 have h:ok (F.mH xss) (fun r=>K (.own 0 none) [(0,.arr .sh aa r)]):=az (F.uQ xss h_xss) (hK _ rfl)
 refine⟨rfl,ann105,(L105 xss),.raw,(qW (i0:=0) (i1:=2) (by kernel_rfl) ?_ ?_),?_⟩
 ·rintro _ _ K ⟨hc0,i0,v0,rfl,hl0,rfl,hv0,h⟩
  exact cast (lvc105_0 _ _ _ _ _).symm (aW (t:=TVS) hl0 h (fun ht0 h=>⟨hl0,⟨ht0,(oC h (fun _ h=>h) fun _ h=>(aP (t:=TVS) (fun _ hm=>⟨hc0,hm⟩) _ rfl hl0 ht0 (bu h_xss) trivial h))⟩⟩) fun h=>(h trivial))
 ·rintro _ _ K ⟨hc2,i2,v2,rfl,hl2,rfl,hv2,h⟩
  exact cast (lvc105_1 _ _ _ _ _).symm (aW (t:=TVS) hl2 h (fun ht2 h=>⟨hl2,⟨ht2,(oG h fun _ h=>(aP (t:=TVS) (fun _ hm=>⟨hc2,hm⟩) _ rfl hl2 ht2 (bu h_xss) trivial h))⟩⟩) fun h=>(h trivial))
 ·rw[vc105]
  exact(aQ (t:=TVS) (fun m hm=>⟨trivial,hm⟩) _ rfl trivial (aU h (fun v0 h hv0=>(oG h fun _ h=>(oG h fun _ h=>(oL h fun _ _ h=>(aQ (t:=TVS) (fun m hm=>⟨trivial,hm⟩) _ rfl trivial (aU h (fun v2 h hv2=>h) (fun _ h=>h.elim))))))) (fun _ h=>h.elim)))
def c62:Con:=⟨[.dat TVS,.dat TVS],fun args hp K=>g2 (pD TVS) (pD TVS) (fun a b=>(Sm TVS a)/\(Sm TVS b)/\(a.length+b.length<=1048576)/\(LD (a++b) fun r=>K (.clp 0 (r.length:Int)) [(0,.arr .sh aa r)])) args hp,.bor,false⟩
abbrev C62:Ctx:=cx [(87,c87),(105,c105)] 10 [] 0 false
def ann62:=an [[kp 3],[kp 16]] []
theorem vc62 (a:LV) (b:LV) (K:KA):vcT C62 ay ann62 f62 [.data TVS a,.data TVS b] [] .raw K =
 ((Sm (Ty.sl TVS) [a,b])/\(LD (List.flatten [a,b]) fun r1=>(Sm TVS r1)/\(LD r1 fun r2=>K (.clp 0 ((r2.take (r2.length:Int).toNat).length:Int)) [(0,.arr .sh aa (r2.take (r2.length:Int).toNat))]))):=by kernel_rfl
theorem con62_ok:aT P 62 c62:=aZ C62 func62 (kC con87_ok (kC con105_ok kN)) fun args hp K h0=>by
 obtain⟨a,b,rfl,rfl,h_a,h_b,p0,hK⟩:=g2e h0
 have h:ok (F.qq a b) (fun r=>K (.clp 0 (r.length:Int)) [(0,.arr .sh aa r)]):=az (F.yW a b h_a h_b p0) (hK _ rfl)
 refine⟨rfl,ann62,ay,.raw,(aG (by kernel_rfl)),?_⟩
 ·rw[vc62]
  exact(oG h fun _ h=>(oL h fun _ _ h=>(oG h fun _ h=>(oL h fun _ _ h=>h))))
def c112:Con:=⟨[.dat aE],fun args hp K=>g1 (pD aE) (fun truth=>(LD (M.valueOf truth) fun r=>K (.data aa r) [])) args hp,.plain,false⟩
abbrev C112:Ctx:=cx [(60,c60)] 9 [] 0 false
def ann112:=an [[kp 5],[kp 37],[kp 4],[kp 4]] []
theorem vc112 (truth:Int) (K:KA):vcT C112 ay ann112 f112 [dI truth] [] (.dat aa) K =
 (cond (!(M.inR truth Z0 Z1)) (K (.data aa (Z0,(Z0,((⟨#[]⟩:ByteArray),())))) []) (K (.data aa (Z3,(truth,((⟨#[]⟩:ByteArray),())))) [])):=by kernel_rfl
theorem con112_ok:aT P 112 c112:=aZ C112 func112 (kC con60_ok kN) fun args hp K h0=>by
 obtain⟨truth,rfl,rfl,hK⟩:=g1e h0
 have h:ok (F.oA truth) (fun r=>K (.data aa r) []):=az (F.wJ truth) (hK _ rfl)
 refine⟨rfl,ann112,ay,(.dat aa),(aG (by kernel_rfl)),?_⟩
 ·rw[vc112]
  exact(oC h (fun _ h=>h) fun _ h=>h)
def c137:Con:=⟨[.dat (Ty.sl aE)],fun args hp K=>g1 (pD (Ty.sl aE)) (fun vals=>(Sm (Ty.sl aE) vals)/\K (dI (M.orI vals)) []) args hp,.plain,false⟩
abbrev C137:Ctx:=cx [] 18 [] 0 false
def ann137:=an [[kp 1],[kp 9],[kp 456],[kp 968],[kp 488],[kp 16872],[kp 4],[kp 456],[kp 4]] [[kp 8]]
abbrev s137_0 (vals:LI) (i0:Int) (v0:Unit):St:=⟨[(3,dI Z0),(6,.data (Ty.sl aE) vals),(7,dI (vals.length:Int)),(8,dI i0)],[]⟩
abbrev LP137_0 (vals:LI) (m:Nat) (st_:St) (K:KX):Prop:=True/\bJ (t:=aE) (s137_0 vals) vals (F.hD vals) (fun v0:Unit=>True) (bq (fun v0:Unit=>True->K (.exit 0) (⟨[(3,dI Z0)],[]⟩:St)) (fun q0:Int=>K .ret (⟨[(2,dI q0)],[]⟩:St))) m st_
def L137 (vals:LI):bD:=lp1 0 (LP137_0 vals)
theorem vc137 (vals:LI) (K:KA):vcT C137 (L137 vals) ann137 f137 [.data (Ty.sl aE) vals] [] (.dat aE) K =
 (∃m_,True/\bJ (t:=aE) (s137_0 vals) vals (F.hD vals) (fun v0:Unit=>True) (bq (fun v0:Unit=>True->K (dI Z0) []) (fun q0:Int=>K (dI q0) [])) m_ (s137_0 vals Z0 ())):=by kernel_rfl
theorem lvc137_0 (vals:LI)  (i0:Int) (v0:Unit) (m:Nat) (K:KX):lvT C137 (L137 vals) ann137 f137 0 0 (s137_0 vals i0 v0) m K =
 (cond (decide (i0<(vals.length:Int))) ((0<=i0)/\(i0<(vals.length:Int))/\cond (!decide ((nI vals i0)=Z0)) (K .ret (⟨[(2,dI (nI vals i0))],[]⟩:St)) (nxT (LP137_0 vals) m K (s137_0 vals (wrap64 (i0+Z1)) ()))) (K (.exit 0) (⟨[(3,dI Z0)],[]⟩:St))):=by kernel_rfl
theorem con137_ok:aT P 137 c137:=aZ C137 func137 kN fun args hp K h0=>by
 obtain⟨vals,rfl,rfl,h_vals,hK⟩:=g1e h0
 have h:ok (F.sK vals) (fun r=>K (dI r) []):=az (F.zy vals h_vals) hK
 refine⟨rfl,ann137,(L137 vals),(.dat aE),(bH (i0:=0) (by kernel_rfl) ?_),?_⟩
 ·rintro _ _ K ⟨hc0,i0,v0,rfl,hl0,rfl,hv0,h⟩
  exact cast (lvc137_0 _ _ _ _ _).symm (aW (t:=aE) hl0 h (fun ht0 h=>⟨hl0,⟨ht0,(oC h (fun _ h=>h) fun _ h=>(aP (t:=aE) (fun _ hm=>⟨hc0,hm⟩) _ rfl hl0 ht0 (bu h_vals) trivial h))⟩⟩) fun h=>(h trivial))
 ·rw[vc137]
  exact(aQ (t:=aE) (fun m hm=>⟨trivial,hm⟩) _ rfl trivial (aU h (fun v0 h hv0=>h) (fun q0 h=>h)))
def c179:Con:=⟨[.dat aE],fun args hp K=>g1 (pD aE) (fun x=>K (dB false) []) args hp,.plain,false⟩
abbrev C179:Ctx:=cx [] 6 [] 0 false
def ann179:=an [[kp 1],[kp 4]] []
theorem vc179 (x:Int) (K:KA):vcT C179 ay ann179 f179 [dI x] [] (.dat Ty.bool) K =
 (K (dB (!decide (x=x))) []):=by kernel_rfl
theorem con179_ok:aT P 179 c179:=aZ C179 func179 kN fun args hp K h0=>by
 obtain⟨x,rfl,rfl,hK⟩:=g1e h0
 have h:ok (F.mT x) (fun r=>K (dB r) []):=az (F.vn x) hK
 refine⟨rfl,ann179,ay,(.dat Ty.bool),(aG (by kernel_rfl)),?_⟩
 ·rw[vc179]
  exact h
def c140:Con:=⟨[.dat aE,.dat aE],fun args hp K=>g2 (pD aE) (pD aE) (fun x y=>K (dI (M.tG x y)) []) args hp,.plain,false⟩
abbrev C140:Ctx:=cx [(179,c179)] 20 [] 0 false
def ann140:=an [[kp 3],[kp 35],[kp 99],[kp 2115],[kp 4096],[kp 16],[kp 16],[kp 8195],[kp 16],[kp 65539],[kp 16],[kp 524288],[kp 16],[kp 16]] []
theorem vc140 (x:Int) (y:Int) (K:KA):vcT C140 ay ann140 f140 [dI x,dI y] [] (.dat aE) K =
 (cond false (cond false (K (dI Z0) []) (K (dI (-1:Int)) [])) (cond false (K (dI Z1) []) (cond (decide (x<y)) (K (dI (-1:Int)) []) (cond (decide (y<x)) (K (dI Z1) []) (K (dI Z0) []))))):=by kernel_rfl
theorem con140_ok:aT P 140 c140:=aZ C140 func140 (kC con179_ok kN) fun args hp K h0=>by
 obtain⟨x,y,rfl,rfl,hK⟩:=g2e h0
 have h:ok (F.kF x y) (fun r=>K (dI r) []):=az (F.sM x y) hK
 refine⟨rfl,ann140,ay,(.dat aE),(aG (by kernel_rfl)),?_⟩
 ·rw[vc140]
  exact(oC h (fun b_1 h=>(bC b_1 h)) fun b_1 h=>(dW b_1 (oC h (fun _ h=>h) fun _ h=>(oC h (fun _ h=>h) fun _ h=>h))))
def c202:Con:=⟨[.dat Ty.str],fun args hp K=>g1 (pD Ty.str) (fun x=>(Sm Ty.str x)/\K (dB false) []) args hp,.plain,false⟩
abbrev C202:Ctx:=cx [] 6 [] 0 false
def ann202:=an [[kp 1],[kp 4]] []
theorem vc202 (x:ByteArray) (K:KA):vcT C202 ay ann202 f202 [.data Ty.str x] [] (.dat Ty.bool) K =
 (K (dB (!decide (x=x))) []):=by kernel_rfl
theorem con202_ok:aT P 202 c202:=aZ C202 func202 kN fun args hp K h0=>by
 obtain⟨x,rfl,rfl,h_x,hK⟩:=g1e h0
 have h:ok (F.jl x) (fun r=>K (dB r) []):=az (F.rq x h_x) hK
 refine⟨rfl,ann202,ay,(.dat Ty.bool),(aG (by kernel_rfl)),?_⟩
 ·rw[vc202]
  exact h
def c178:Con:=⟨[.dat Ty.str,.dat Ty.str],fun args hp K=>g2 (pD Ty.str) (pD Ty.str) (fun x y=>(Sm Ty.str x)/\(Sm Ty.str y)/\K (dI (M.sX x y)) []) args hp,.plain,false⟩
abbrev C178:Ctx:=cx [(202,c202)] 20 [] 0 false
def ann178:=an [[kp 3],[kp 35],[kp 99],[kp 2115],[kp 4096],[kp 16],[kp 16],[kp 8195],[kp 16],[kp 65539],[kp 16],[kp 524288],[kp 16],[kp 16]] []
theorem vc178 (x:ByteArray) (y:ByteArray) (K:KA):vcT C178 ay ann178 f178 [.data Ty.str x,.data Ty.str y] [] (.dat aE) K =
 ((Sm Ty.str x)/\(Sm Ty.str y)/\cond false (cond false (K (dI Z0) []) (K (dI (-1:Int)) [])) (cond false (K (dI Z1) []) (cond (Op.bytesLess x.toList y.toList) (K (dI (-1:Int)) []) (cond (!(Op.bytesLess x.toList y.toList||decide (x=y))) (K (dI Z1) []) (K (dI Z0) []))))):=by kernel_rfl
theorem con178_ok:aT P 178 c178:=aZ C178 func178 (kC con202_ok kN) fun args hp K h0=>by
 obtain⟨x,y,rfl,rfl,h_x,h_y,hK⟩:=g2e h0
 have h:ok (F.iD x y) (fun r=>K (dI r) []):=az (F.pO x y h_x h_y) hK
 refine⟨rfl,ann178,ay,(.dat aE),(aG (by kernel_rfl)),?_⟩
 ·rw[vc178]
  exact⟨h_x,⟨h_y,(oC h (fun b_1 h=>(bC b_1 h)) fun b_1 h=>(dW b_1 (oC h (fun _ h=>h) fun _ h=>(oC h (fun _ h=>h) fun _ h=>h))))⟩⟩
def c139:Con:=⟨[.dat aa,.dat aa],fun args hp K=>g2 (pD aa) (pD aa) (fun v w=>(Sm aa v)/\(Sm aa w)/\K (dI (M.order v w)) []) args hp,.plain,false⟩
abbrev C139:Ctx:=cx [(137,c137),(140,c140),(178,c178)] 22 [] 0 false
def ann139:=an [[.fixRow 2 aa,.fixRow 3 aa,kp 12],[kp 16]] []
theorem vc139 (v:aa.D) (w:aa.D) (K:KA):vcT C139 ay ann139 f139 [.data aa v,.data aa w] [] (.dat aE) K =
 ((Sm Ty.str v.2.2.1)/\(Sm Ty.str w.2.2.1)/\(Sm (Ty.sl aE) [(M.tG v.1 w.1),(M.tG v.2.1 w.2.1),(M.sX v.2.2.1 w.2.2.1)])/\K (dI (M.orI [(M.tG v.1 w.1),(M.tG v.2.1 w.2.1),(M.sX v.2.2.1 w.2.2.1)])) []):=by kernel_rfl
theorem con139_ok:aT P 139 c139:=aZ C139 func139 (kC con137_ok (kC con140_ok (kC con178_ok kN))) fun args hp K h0=>by
 obtain⟨v,w,rfl,rfl,h_v,h_w,hK⟩:=g2e h0
 have h:ok (F.jz v w) (fun r=>K (dI r) []):=az (F.ru v w h_v h_w) hK
 refine⟨rfl,ann139,ay,(.dat aE),(aG (by kernel_rfl)),?_⟩
 ·rw[vc139]
  exact⟨h_v.2.2.1,⟨h_w.2.2.1,(oG h fun _ h=>h)⟩⟩
def c198:Con:=⟨[.dat Ty.bool],fun args hp K=>g1 (pD Ty.bool) (fun b=>K (dI (M.bool b)) []) args hp,.plain,false⟩
abbrev C198:Ctx:=cx [] 4 [] 0 false
def ann198:=an [[kp 1],[kp 8],[kp 4],[kp 4]] []
theorem vc198 (b:Bool) (K:KA):vcT C198 ay ann198 f198 [dB b] [] (.dat aE) K =
 (cond b (K (dI Z1) []) (K (dI Z0) [])):=by kernel_rfl
theorem con198_ok:aT P 198 c198:=aZ C198 func198 kN fun args hp K h0=>by
 obtain⟨b,rfl,rfl,hK⟩:=g1e h0
 have h:ok (F.og b) (fun r=>K (dI r) []):=az (F.wO b) hK
 refine⟨rfl,ann198,ay,(.dat aE),(aG (by kernel_rfl)),?_⟩
 ·rw[vc198]
  exact(oC h (fun _ h=>h) fun _ h=>h)
def c193:Con:=⟨[.dat aE,.dat aa,.dat aa],fun args hp K=>g3 (pD aE) (pD aa) (pD aa) (fun kind a b=>(Sm aa a)/\(Sm aa b)/\K (dI (M.compare kind a b)) []) args hp,.plain,false⟩
abbrev C193:Ctx:=cx [(60,c60),(91,c91),(139,c139),(198,c198)] 71 [] 0 false
def ann193:=an [[.fixRow 4 aa,.fixRow 5 aa,kp 49],[kp 305],[kp 64],[kp 4194353],[kp 64],[kp 2147483697],[kp 64],[kp 129],[kp 64]] []
abbrev S193_0 (kind:Int) (a:aa.D) (b:aa.D) (K:KA):Prop:=cond ((decide (kind=Z4))==true) (K (dI (M.bool (decide ((M.order a b)<=Z0)))) []) (K (dI (M.bool false)) [])
abbrev S193_1 (kind:Int) (a:aa.D) (b:aa.D) (K:KA):Prop:=cond ((decide (kind=Z3))==true) (cond ((decide ((M.order a b)<Z0))==false) (S193_0 kind a b K) (K (dI (M.bool true)) [])) (S193_0 kind a b K)
abbrev S193_2 (kind:Int) (a:aa.D) (b:aa.D) (K:KA):Prop:=cond ((decide (kind=Z2))==true) (cond ((!decide ((M.order a b)=Z0))==false) (S193_1 kind a b K) (K (dI (M.bool true)) [])) (S193_1 kind a b K)
theorem vc193 (kind:Int) (a:aa.D) (b:aa.D) (K:KA):vcT C193 ay ann193 f193 [dI kind,.data aa a,.data aa b] [] (.dat aE) K =
 (cond ((!(M.inR kind Z1 Z4))==false) ((Sm aa a)/\cond ((!(M.aL a))==false) ((Sm aa b)/\cond (!(M.aL b)) (K (dI (-1:Int)) []) (cond ((decide (a.1=Z0))==false) (cond (decide (b.1=Z0)) (K (dI Z2) []) (cond (!decide (a.1=b.1)) (K (dI (-1:Int)) []) ((Sm aa a)/\(Sm aa b)/\cond ((decide (kind=Z1))==true) (cond ((decide ((M.order a b)=Z0))==false) (S193_2 kind a b K) (K (dI (M.bool true)) [])) (S193_2 kind a b K)))) (K (dI Z2) []))) (K (dI (-1:Int)) [])) (K (dI (-1:Int)) [])):=by kernel_rfl
theorem con193_ok:aT P 193 c193:=aZ C193 func193 (kC con60_ok (kC con91_ok (kC con139_ok (kC con198_ok kN)))) fun args hp K h0=>by
 obtain⟨kind,a,b,rfl,rfl,h_a,h_b,hK⟩:=g3e h0
 have h:ok (F.ot kind a b) (fun r=>K (dI r) []):=az (F.wA kind a b h_a h_b) hK
 refine⟨rfl,ann193,ay,(.dat aE),(aG (by kernel_rfl)),?_⟩
 ·rw[vc193]
  exact(oC h (fun _ h=>⟨h_a,(oC h (fun _ h=>⟨h_b,(oC h (fun _ h=>h) fun _ h=>(oC h (fun _ h=>(oC h (fun _ h=>h) fun _ h=>(oC h (fun _ h=>h) fun _ h=>⟨h_a,⟨h_b,(oC h (fun b_7 h=>(oC h (fun _ h=>(dW (uef (cL (bet b_7) (by decide))) (dW (uef (cL (bet b_7) (by decide))) (dW (uef (cL (bet b_7) (by decide))) h)))) fun _ h=>h)) fun _ h=>(oC h (fun b_19 h=>(oC h (fun _ h=>(dW (uef (cL (bet b_19) (by decide))) (dW (uef (cL (bet b_19) (by decide))) h))) fun _ h=>h)) fun _ h=>(oC h (fun b_25 h=>(oC h (fun _ h=>(dW (uef (cL (bet b_25) (by decide))) h)) fun _ h=>h)) fun _ h=>(oC h (fun _ h=>h) fun _ h=>h))))⟩⟩))) fun _ h=>h))⟩) fun _ h=>h)⟩) fun _ h=>h)
def c219:Con:=⟨[.dat aE],fun args hp K=>g1 (pD aE) (fun n=>K (dB (M.inR n 0 2)) []) args hp,.plain,false⟩
abbrev C219:Ctx:=cx [(60,c60)] 5 [] 0 false
def ann219:=an [[kp 1],[kp 4]] []
theorem vc219 (n:Int) (K:KA):vcT C219 ay ann219 f219 [dI n] [] (.dat Ty.bool) K =
 (K (dB (M.inR n Z0 Z2)) []):=by kernel_rfl
theorem con219_ok:aT P 219 c219:=aZ C219 func219 (kC con60_ok kN) fun args hp K h0=>by
 obtain⟨n,rfl,rfl,hK⟩:=g1e h0
 have h:ok (F.tW n) (fun r=>K (dB r) []):=az (F.wH n) hK
 refine⟨rfl,ann219,ay,(.dat Ty.bool),(aG (by kernel_rfl)),?_⟩
 ·rw[vc219]
  exact h
def c208:Con:=⟨[.dat aE,.dat aE,.dat aE],fun args hp K=>g3 (pD aE) (pD aE) (pD aE) (fun a b alone=>(0<=alone/\alone<=1)/\K (dI (M.fold a b alone)) []) args hp,.plain,false⟩
abbrev C208:Ctx:=cx [(219,c219)] 35 [] 0 false
def ann208:=an [[kp 7],[kp 135],[kp 64],[kp 65543],[kp 64],[kp 67108868],[kp 64],[kp 64]] []
theorem vc208 (a:Int) (b:Int) (alone:Int) (K:KA):vcT C208 ay ann208 f208 [dI a,dI b,dI alone] [] (.dat aE) K =
 (cond ((!(M.inR a 0 2))==false) (cond (!(M.inR b 0 2)) (K (dI (-1:Int)) []) (cond ((decide (a=alone))==false) (cond (decide (b=alone)) (K (dI alone) []) (cond ((decide (a=Z2))==false) (cond (decide (b=Z2)) (K (dI Z2) []) (K (dI (wrap64 (Z1-alone))) [])) (K (dI Z2) []))) (K (dI alone) []))) (K (dI (-1:Int)) [])):=by kernel_rfl
theorem con208_ok:aT P 208 c208:=aZ C208 func208 (kC con219_ok kN) fun args hp K h0=>by
 obtain⟨a,b,alone,rfl,rfl,p0,hK⟩:=g3e h0
 have h:ok (F.vc a b alone) (fun r=>K (dI r) []):=az (F.Bo a b alone p0) hK
 refine⟨rfl,ann208,ay,(.dat aE),(aG (by kernel_rfl)),?_⟩
 ·rw[vc208]
  exact(oC h (fun _ h=>(oC h (fun _ h=>h) fun _ h=>(oC h (fun _ h=>(oC h (fun _ h=>h) fun _ h=>(oC h (fun _ h=>(oC h (fun _ h=>h) fun _ h=>h)) fun _ h=>h))) fun _ h=>h))) fun _ h=>h)
def c194:Con:=⟨[.dat aE,.dat aE],fun args hp K=>g2 (pD aE) (pD aE) (fun a b=>K (dI (M.qx a b)) []) args hp,.plain,false⟩
abbrev C194:Ctx:=cx [(208,c208)] 8 [] 0 false
def ann194:=an [[kp 3],[kp 16]] []
theorem vc194 (a:Int) (b:Int) (K:KA):vcT C194 ay ann194 f194 [dI a,dI b] [] (.dat aE) K =
 ((0<=Z0/\Z0<=1)/\K (dI (M.fold a b Z0)) []):=by kernel_rfl
theorem con194_ok:aT P 194 c194:=aZ C194 func194 (kC con208_ok kN) fun args hp K h0=>by
 obtain⟨a,b,rfl,rfl,hK⟩:=g2e h0
 have h:ok (F.sg a b) (fun r=>K (dI r) []):=az (F.zo a b) hK
 refine⟨rfl,ann194,ay,(.dat aE),(aG (by kernel_rfl)),?_⟩
 ·rw[vc194]
  exact(oG h fun _ h=>h)
def c195:Con:=⟨[.dat aa],fun args hp K=>g1 (pD aa) (fun v=>(Sm aa v)/\K (dI (M.bW v)) []) args hp,.plain,false⟩
abbrev C195:Ctx:=cx [(91,c91)] 17 [] 0 false
def ann195:=an [[.fixRow 1 aa,kp 2],[kp 10],[kp 4],[kp 130],[kp 4],[kp 2050],[kp 4],[kp 4]] []
theorem vc195 (v:aa.D) (K:KA):vcT C195 ay ann195 f195 [.data aa v] [] (.dat aE) K =
 ((Sm aa v)/\cond (!(M.aL v)) (K (dI (-1:Int)) []) (cond (decide (v.1=Z0)) (K (dI Z2) []) (cond (decide (v.1=Z3)) (K (dI v.2.1) []) (K (dI (-1:Int)) [])))):=by kernel_rfl
theorem con195_ok:aT P 195 c195:=aZ C195 func195 (kC con91_ok kN) fun args hp K h0=>by
 obtain⟨v,rfl,rfl,h_v,hK⟩:=g1e h0
 have h:ok (F.nX v) (fun r=>K (dI r) []):=az (F.xj v h_v) hK
 refine⟨rfl,ann195,ay,(.dat aE),(aG (by kernel_rfl)),?_⟩
 ·rw[vc195]
  exact⟨h_v,(oC h (fun _ h=>h) fun _ h=>(oC h (fun _ h=>h) fun _ h=>(oC h (fun _ h=>h) fun _ h=>h)))⟩
def c196:Con:=⟨[.dat aE,.dat aE],fun args hp K=>g2 (pD aE) (pD aE) (fun a b=>K (dI (M.xY a b)) []) args hp,.plain,false⟩
abbrev C196:Ctx:=cx [(208,c208)] 8 [] 0 false
def ann196:=an [[kp 3],[kp 16]] []
theorem vc196 (a:Int) (b:Int) (K:KA):vcT C196 ay ann196 f196 [dI a,dI b] [] (.dat aE) K =
 ((0<=Z1/\Z1<=1)/\K (dI (M.fold a b Z1)) []):=by kernel_rfl
theorem con196_ok:aT P 196 c196:=aZ C196 func196 (kC con208_ok kN) fun args hp K h0=>by
 obtain⟨a,b,rfl,rfl,hK⟩:=g2e h0
 have h:ok (F.uC a b) (fun r=>K (dI r) []):=az (F.AB a b) hK
 refine⟨rfl,ann196,ay,(.dat aE),(aG (by kernel_rfl)),?_⟩
 ·rw[vc196]
  exact(oG h fun _ h=>h)
def c197:Con:=⟨[.dat aE],fun args hp K=>g1 (pD aE) (fun a=>K (dI (M.qu a)) []) args hp,.plain,false⟩
abbrev C197:Ctx:=cx [] 10 [] 0 false
def ann197:=an [[kp 1],[kp 8],[kp 24],[kp 4],[kp 72],[kp 4],[kp 256],[kp 4],[kp 4]] []
theorem vc197 (a:Int) (K:KA):vcT C197 ay ann197 f197 [dI a] [] (.dat aE) K =
 (cond (decide (a=Z0)) (K (dI Z1) []) (cond (decide (a=Z1)) (K (dI Z0) []) (cond (decide (a=Z2)) (K (dI Z2) []) (K (dI (-1:Int)) [])))):=by kernel_rfl
theorem con197_ok:aT P 197 c197:=aZ C197 func197 kN fun args hp K h0=>by
 obtain⟨a,rfl,rfl,hK⟩:=g1e h0
 have h:ok (F.sq a) (fun r=>K (dI r) []):=az (F.zQ a) hK
 refine⟨rfl,ann197,ay,(.dat aE),(aG (by kernel_rfl)),?_⟩
 ·rw[vc197]
  exact(oC h (fun _ h=>h) fun _ h=>(oC h (fun _ h=>h) fun _ h=>(oC h (fun _ h=>h) fun _ h=>h)))
def c166:Con:=⟨[.dat aC,.dat TVS,.lent aa],fun args hp K=>g3 (pD aC) (pD TVS) (pB aa) (fun p row inp=>(Sm aC p)/\(Sm TVS row)/\(Sm TVS inp)/\((inp.length:Int)=M.takes p)/\(M.lZ p row.length)/\(1<=p.1/\p.1<=8)/\(LD (M.gR p row inp) fun r=>K (.data aa r) [])) args hp,.plain,false⟩
abbrev C166:Ctx:=cx [(91,c91),(112,c112),(193,c193),(194,c194),(195,c195),(196,c196),(197,c197),(198,c198)] 103 [] 0 false
def ann166:=an [[.fixRow 3 aC,kp 78],[kp 590],[kp 1614],[kp 64],[kp 16974],[kp 64],[kp 2097740],[.fixRow 7 aa,kp 196],[.keep [6,7,49]],[kp 64],[kp 64],[kp 4503599627371084],[kp 64],[.keep [2,6,9,64]],[kp 64],[.keep [2,6,9,76]],[kp 64],[.keep [2,6,88]],[kp 64],[kp 64]] []
theorem vc166 (p:aC.D) (row:LV) (inp:LV) (K:KA):vcT C166 ay ann166 f166 [.data aC p,.data TVS row,.brw aa inp] [] (.dat aa) K =
 (cond (decide (p.1=Z1)) (K (.data aa p.2.2.1) []) (cond (decide (p.1=Z2)) ((0<=p.2.1)/\(p.2.1<(row.length:Int))/\K (.data aa (nV row p.2.1)) []) (cond (decide (p.1=Z3)) ((0<=Z0)/\(Z0<(inp.length:Int))/\(0<=Z1)/\(Z1<(inp.length:Int))/\(0<=Z0)/\(Z0<(inp.length:Int))/\cond ((decide ((nV inp Z0).1=Z0))==false) ((0<=Z1)/\(Z1<(inp.length:Int))/\cond ((decide ((nV inp Z1).1=Z0))==false) ((Sm aa (Z1,(wrap64 ((nV inp Z0).2.1+(nV inp Z1).2.1),((⟨#[]⟩:ByteArray),()))))/\cond (!(M.aL (Z1,(wrap64 ((nV inp Z0).2.1+(nV inp Z1).2.1),((⟨#[]⟩:ByteArray),()))))) (K (.data aa (Z0,(Z0,((⟨#[]⟩:ByteArray),())))) []) (K (.data aa (Z1,(wrap64 ((nV inp Z0).2.1+(nV inp Z1).2.1),((⟨#[]⟩:ByteArray),())))) [])) (K (.data aa (Z0,(Z0,((⟨#[]⟩:ByteArray),())))) [])) (K (.data aa (Z0,(Z0,((⟨#[]⟩:ByteArray),())))) [])) (cond (decide (p.1=Z4)) ((0<=Z0)/\(Z0<(inp.length:Int))/\(0<=Z1)/\(Z1<(inp.length:Int))/\(Sm aa (nV inp Z0))/\(Sm aa (nV inp Z1))/\(LD (M.valueOf (M.compare p.2.1 (nV inp Z0) (nV inp Z1))) fun r1=>K (.data aa r1) [])) (cond (decide (p.1=Z5)) ((0<=Z0)/\(Z0<(inp.length:Int))/\(0<=Z1)/\(Z1<(inp.length:Int))/\(Sm aa (nV inp Z0))/\(Sm aa (nV inp Z1))/\(LD (M.valueOf (M.qx (M.bW (nV inp Z0)) (M.bW (nV inp Z1)))) fun r2=>K (.data aa r2) [])) (cond (decide (p.1=Z6)) ((0<=Z0)/\(Z0<(inp.length:Int))/\(0<=Z1)/\(Z1<(inp.length:Int))/\(Sm aa (nV inp Z0))/\(Sm aa (nV inp Z1))/\(LD (M.valueOf (M.xY (M.bW (nV inp Z0)) (M.bW (nV inp Z1)))) fun r3=>K (.data aa r3) [])) (cond (decide (p.1=(7:Int))) ((0<=Z0)/\(Z0<(inp.length:Int))/\(Sm aa (nV inp Z0))/\(LD (M.valueOf (M.qu (M.bW (nV inp Z0)))) fun r4=>K (.data aa r4) [])) ((0<=Z0)/\(Z0<(inp.length:Int))/\(LD (M.valueOf (M.bool (decide ((nV inp Z0).1=Z0)))) fun r5=>K (.data aa r5) []))))))))):=by kernel_rfl
theorem con166_ok:aT P 166 c166:=aZ C166 func166 (kC con91_ok (kC con112_ok (kC con193_ok (kC con194_ok (kC con195_ok (kC con196_ok (kC con197_ok (kC con198_ok kN)))))))) fun args hp K h0=>by
 obtain⟨p,row,inp,rfl,rfl,h_p,h_row,h_inp,p0,p1,p2,hK⟩:=g3e h0
 have h:ok (F.kA p row inp) (fun r=>K (.data aa r) []):=az (F.sk p row inp h_p h_row h_inp p0 p1 p2) (hK _ rfl)
 refine⟨rfl,ann166,ay,(.dat aa),(aG (by kernel_rfl)),?_⟩
 ·rw[vc166]
  exact(oC h (fun _ h=>h) fun _ h=>(oC h (fun _ h=>(oG h fun _ h=>(oG h fun _ h=>h))) fun _ h=>(oC h (fun _ h=>⟨(Int.natCast_nonneg 0),(oG h fun g1 h=>⟨(Int.natCast_nonneg 1),(oG h fun g2 h=>⟨(Int.natCast_nonneg 0),⟨g1,(oC h (fun _ h=>⟨(Int.natCast_nonneg 1),⟨g2,(oC h (fun _ h=>⟨(show Sm aa _ from⟨trivial,(show Sm (Ty.pair aE (Ty.pair Ty.str Ty.unit)) _ from⟨trivial,(show Sm (Ty.pair Ty.str Ty.unit) _ from⟨(Nat.le_of_ble_eq_true rfl),trivial⟩)⟩)⟩),(oC h (fun _ h=>h) fun _ h=>h)⟩) fun _ h=>h)⟩⟩) fun _ h=>h)⟩⟩)⟩)⟩) fun _ h=>(oC h (fun _ h=>⟨(Int.natCast_nonneg 0),(oG h fun _ h=>⟨(Int.natCast_nonneg 1),(oG h fun _ h=>⟨(aJ h_inp Z0),⟨(aJ h_inp Z1),(oL h fun _ _ h=>h)⟩⟩)⟩)⟩) fun _ h=>(oC h (fun _ h=>⟨(Int.natCast_nonneg 0),(oG h fun _ h=>⟨(Int.natCast_nonneg 1),(oG h fun _ h=>⟨(aJ h_inp Z0),⟨(aJ h_inp Z1),(oL h fun _ _ h=>h)⟩⟩)⟩)⟩) fun _ h=>(oC h (fun _ h=>⟨(Int.natCast_nonneg 0),(oG h fun _ h=>⟨(Int.natCast_nonneg 1),(oG h fun _ h=>⟨(aJ h_inp Z0),⟨(aJ h_inp Z1),(oL h fun _ _ h=>h)⟩⟩)⟩)⟩) fun _ h=>(oC h (fun _ h=>⟨(Int.natCast_nonneg 0),(oG h fun _ h=>⟨(aJ h_inp Z0),(oL h fun _ _ h=>h)⟩)⟩) fun _ h=>⟨(Int.natCast_nonneg 0),(oG h fun _ h=>(oL h fun _ _ h=>h))⟩)))))))
def c111:Con:=⟨[.dat TVS,.dat TPS],fun args hp K=>g2 (pD TVS) (pD TPS) (fun row e=>(Sm TVS row)/\(Sm TPS e)/\(M.cG row.length e)/\(LD (M.fo row e) fun r=>K (.data aa r) [])) args hp,.plain,false⟩
abbrev C111:Ctx:=cx [(108,c108),(166,c166)] 37 [] 0 false
def ann111:=an [[kp 19],[kp 51],[kp 7217],[kp 15409],[.fixRow 7 aC,kp 7345],[kp 7601],[.fixRow 9 aa,kp 7985],[kp 7217],[kp 7217],[kp 16]] [[kp 48]]
abbrev s111_0 (row:LV) (e:LPt) (i0:Int) (v0:LV):St:=⟨[(0,.data TVS row),(4,.ptr 4 0),(5,.own 5 none),(10,.data TPS e),(11,dI (e.length:Int)),(12,dI i0)],[(4,.box [dI Z0,dI Z0,.data Ty.str (⟨#[]⟩:ByteArray)]),(5,.arr .sh aa v0)]⟩
abbrev LP111_0 (row:LV) (e:LPt) (m:Nat) (st_:St) (K:KX):Prop:=True/\bJ (t:=aC) (s111_0 row e) e (F.dL row e) (fun v0:LV=>True) (bq (fun v0:LV=>True->K (.exit 0) (⟨[(4,.ptr 4 0),(5,.own 5 none)],[(4,.box [dI Z0,dI Z0,.data Ty.str (⟨#[]⟩:ByteArray)]),(5,.arr .sh aa v0)]⟩:St)) (fun _=>False)) m st_
def L111 (row:LV) (e:LPt):bD:=lp1 0 (LP111_0 row e)
theorem vc111 (row:LV) (e:LPt) (K:KA):vcT C111 (L111 row e) ann111 f111 [.data TVS row,.data TPS e] [] (.dat aa) K =
 (∃m_,True/\bJ (t:=aC) (s111_0 row e) e (F.dL row e) (fun v0:LV=>True) (bq (fun v0:LV=>True->(0<=Z0)/\(Z0<(v0.length:Int))/\K (.data aa (nV v0 Z0)) []) (fun _=>False)) m_ (s111_0 row e Z0 [])):=by kernel_rfl
abbrev S111l0_0 (row:LV) (e:LPt)  (i0:Int) (v0:LV) (m:Nat) (K:KX):Prop:=(Sm aC (nP e i0))/\(Sm TVS row)/\(Sm TVS (aB v0 (some (wrap64 ((v0.length:Int)-(M.takes (nP e i0))),(v0.length:Int)))))/\(((aB v0 (some (wrap64 ((v0.length:Int)-(M.takes (nP e i0))),(v0.length:Int)))).length:Int)=M.takes (nP e i0))/\(M.lZ (nP e i0) row.length)/\(1<=(nP e i0).1/\(nP e i0).1<=8)/\(LD (M.gR (nP e i0) row (aB v0 (some (wrap64 ((v0.length:Int)-(M.takes (nP e i0))),(v0.length:Int))))) fun r1=>(0<=Z0)/\(Z0<=wrap64 ((v0.length:Int)-(M.takes (nP e i0))))/\(wrap64 ((v0.length:Int)-(M.takes (nP e i0)))<=(v0.length:Int))/\(wrap64 ((v0.length:Int)-(M.takes (nP e i0)))=wrap64 ((v0.length:Int)-(M.takes (nP e i0))))/\(Z0=0)/\(((wrap64 ((v0.length:Int)-(M.takes (nP e i0)))).toNat+[r1].length) * 32<=lim)/\(nxT (LP111_0 row e) m K (s111_0 row e (wrap64 (i0+Z1)) (v0.take (wrap64 ((v0.length:Int)-(M.takes (nP e i0)))).toNat++[r1]))))
theorem lvc111_0 (row:LV) (e:LPt)  (i0:Int) (v0:LV) (m:Nat) (K:KX):lvT C111 (L111 row e) ann111 f111 0 0 (s111_0 row e i0 v0) m K =
 (cond (decide (i0<(e.length:Int))) ((0<=i0)/\(i0<(e.length:Int))/\(Sm aC (nP e i0))/\(0<=wrap64 ((v0.length:Int)-(M.takes (nP e i0))))/\(wrap64 ((v0.length:Int)-(M.takes (nP e i0)))<=(v0.length:Int))/\((v0.length:Int)<=(v0.length:Int))/\((v0.length:Int)=(v0.length:Int))/\Q0 (S111l0_0  row e i0 v0 m K)) (K (.exit 0) (⟨[(4,.ptr 4 0),(5,.own 5 none)],[(4,.box [dI Z0,dI Z0,.data Ty.str (⟨#[]⟩:ByteArray)]),(5,.arr .sh aa v0)]⟩:St))):=by kernel_rfl
theorem con111_ok:aT P 111 c111:=aZ C111 func111 (kC con108_ok (kC con166_ok kN)) fun args hp K h0=>by
 obtain⟨row,e,rfl,rfl,h_row,h_e,p0,hK⟩:=g2e h0
 have h:ok (F.lU row e) (fun r=>K (.data aa r) []):=az (F.tM row e h_row h_e p0) (hK _ rfl)
 refine⟨rfl,ann111,(L111 row e),(.dat aa),(bH (i0:=0) (by kernel_rfl) ?_),?_⟩
 ·rintro _ _ K ⟨hc0,i0,v0,rfl,hl0,rfl,hv0,h⟩
  exact cast (lvc111_0 _ _ _ _ _ _).symm (aW (t:=aC) hl0 h (fun ht0 h=>⟨hl0,⟨ht0,⟨(aJ h_e i0),(oG h fun _ h=>(oG h fun g1 h=>⟨(Int.le_refl _),⟨rfl,(q0 (⟨(aJ h_e i0),⟨h_row,(oG h fun _ h=>(oG h fun _ h=>(oG h fun _ h=>(oG h fun _ h=>(oL h fun _ _ h=>⟨(Int.natCast_nonneg 0),(oG h fun _ h=>⟨g1,⟨rfl,⟨rfl,(oG h fun _ h=>(aP (t:=aC) (fun _ hm=>⟨hc0,hm⟩) _ rfl hl0 ht0 (bu h_e) trivial h))⟩⟩⟩)⟩)))))⟩⟩))⟩⟩))⟩⟩⟩) fun h=>(h trivial))
 ·rw[vc111]
  exact(aQ (t:=aC) (fun m hm=>⟨trivial,hm⟩) _ rfl trivial (aU h (fun v0 h hv0=>⟨(Int.natCast_nonneg 0),(oG h fun _ h=>h)⟩) (fun _ h=>h.elim)))
def c66:Con:=⟨[.dat TVS,.dat TPS],fun args hp K=>g2 (pD TVS) (pD TPS) (fun row e=>(Sm TVS row)/\(Sm TPS e)/\(M.cG row.length e)/\K (dB (M.holds row e)) []) args hp,.plain,false⟩
abbrev C66:Ctx:=cx [(111,c111),(112,c112)] 10 [] 0 false
def ann66:=an [[kp 3],[kp 16]] []
theorem vc66 (row:LV) (e:LPt) (K:KA):vcT C66 ay ann66 f66 [.data TVS row,.data TPS e] [] (.dat Ty.bool) K =
 ((Sm TVS row)/\(Sm TPS e)/\(M.cG row.length e)/\(LD (M.fo row e) fun r1=>(LD (M.valueOf Z1) fun r2=>K (dB (Ty.beq aa r1 r2)) []))):=by kernel_rfl
theorem con66_ok:aT P 66 c66:=aZ C66 func66 (kC con111_ok (kC con112_ok kN)) fun args hp K h0=>by
 obtain⟨row,e,rfl,rfl,h_row,h_e,p0,hK⟩:=g2e h0
 have h:ok (F.qv row e) (fun r=>K (dB r) []):=az (F.uy row e h_row h_e p0) hK
 refine⟨rfl,ann66,ay,(.dat Ty.bool),(aG (by kernel_rfl)),?_⟩
 ·rw[vc66]
  exact⟨h_row,⟨h_e,⟨p0,(oL h fun _ _ h=>(oL h fun _ _ h=>h))⟩⟩⟩
def c106:Con:=⟨[.dat TVS,.dat (Ty.sl aE)],fun args hp K=>g2 (pD TVS) (pD (Ty.sl aE)) (fun row list=>(Sm TVS row)/\(Sm (Ty.sl aE) list)/\(M.rH row list)/\(LD (M.taken row list) fun r=>K (.data TVS r) [])) args hp,.plain,false⟩
abbrev C106:Ctx:=cx [(87,c87)] 24 [] 0 false
def ann106:=an [[kp 3],[kp 35],[kp 1825],[kp 3873],[kp 1953],[kp 1825],[kp 1825],[.freeze 23,kp 16]] [[kp 32]]
abbrev s106_0 (row:LV) (list:LI) (i0:Int) (v0:LV):St:=⟨[(0,.data TVS row),(5,.own 5 none),(8,.data (Ty.sl aE) list),(9,dI (list.length:Int)),(10,dI i0)],[(5,.arr .sh aa v0)]⟩
abbrev LP106_0 (row:LV) (list:LI) (m:Nat) (st_:St) (K:KX):Prop:=True/\bJ (t:=aE) (s106_0 row list) list (F.jB row list) (fun v0:LV=>True) (bq (fun v0:LV=>True->K (.exit 0) (⟨[(5,.own 5 none)],[(5,.arr .sh aa v0)]⟩:St)) (fun _=>False)) m st_
def L106 (row:LV) (list:LI):bD:=lp1 0 (LP106_0 row list)
theorem vc106 (row:LV) (list:LI) (K:KA):vcT C106 (L106 row list) ann106 f106 [.data TVS row,.data (Ty.sl aE) list] [] (.dat TVS) K =
 (∃m_,True/\bJ (t:=aE) (s106_0 row list) list (F.jB row list) (fun v0:LV=>True) (bq (fun v0:LV=>True->(Sm TVS v0)/\(LD v0 fun r1=>K (.data TVS (aB r1 (some (Z0,(r1.length:Int))))) [])) (fun _=>False)) m_ (s106_0 row list Z0 [])):=by kernel_rfl
theorem lvc106_0 (row:LV) (list:LI)  (i0:Int) (v0:LV) (m:Nat) (K:KX):lvT C106 (L106 row list) ann106 f106 0 0 (s106_0 row list i0 v0) m K =
 (cond (decide (i0<(list.length:Int))) ((0<=i0)/\(i0<(list.length:Int))/\(0<=(nI list i0))/\((nI list i0)<(row.length:Int))/\((v0.length+[(nV row (nI list i0))].length) * 32<=lim)/\(nxT (LP106_0 row list) m K (s106_0 row list (wrap64 (i0+Z1)) (v0++[(nV row (nI list i0))])))) (K (.exit 0) (⟨[(5,.own 5 none)],[(5,.arr .sh aa v0)]⟩:St))):=by kernel_rfl
theorem con106_ok:aT P 106 c106:=aZ C106 func106 (kC con87_ok kN) fun args hp K h0=>by
 obtain⟨row,list,rfl,rfl,h_row,h_list,p0,hK⟩:=g2e h0
 have h:ok (F.rV row list) (fun r=>K (.data TVS r) []):=az (F.zJ row list h_row h_list p0) (hK _ rfl)
 refine⟨rfl,ann106,(L106 row list),(.dat TVS),(bH (i0:=0) (by kernel_rfl) ?_),?_⟩
 ·rintro _ _ K ⟨hc0,i0,v0,rfl,hl0,rfl,hv0,h⟩
  exact cast (lvc106_0 _ _ _ _ _ _).symm (aW (t:=aE) hl0 h (fun ht0 h=>⟨hl0,⟨ht0,(oG h fun _ h=>(oG h fun _ h=>(oG h fun _ h=>(aP (t:=aE) (fun _ hm=>⟨hc0,hm⟩) _ rfl hl0 ht0 (bu h_list) trivial h))))⟩⟩) fun h=>(h trivial))
 ·rw[vc106]
  exact(aQ (t:=aE) (fun m hm=>⟨trivial,hm⟩) _ rfl trivial (aU h (fun v0 h hv0=>(oG h fun _ h=>(oL h fun _ _ h=>h))) (fun _ h=>h.elim)))
def c63:Con:=⟨[.dat aj,.dat TTb,.lent (Ty.sl TVS)],fun args hp K=>g3 (pD aj) (pD TTb) (pB (Ty.sl TVS)) (fun s tables ahead=>(Sm aj s)/\(Sm TTb tables)/\(Sm (Ty.sl (Ty.sl TVS)) ahead)/\(M.jC tables ahead s)/\(LD (M.ck tables ahead s) fun r=>K (.data (Ty.sl TVS) r) [])) args hp,.plain,false⟩
abbrev C63:Ctx:=cx [(22,c22),(43,c43),(62,c62),(66,c66),(106,c106)] 126 [] 0 false
def ann63:=an [[.fixRow 3 aj,kp 14],[kp 142],[kp 262286],[kp 786574],[kp 64],[kp 134480012],[kp 60129542280],[kp 128849019016],[kp 60129542792],[kp 4458176053896],[kp 60129542280],[kp 60129542280],[kp 281474976972940],[kp 126100789566374024],[kp 270215977642229896],[kp 126100789566376072],[kp 126100789566374024],[kp 126100789566374024],[.keep [2,3,7,18,68]],[kp 132226261520350065983628],[kp 283341988972178712821900],[kp 132226261520350065991820],[kp 135531918058358817633083532],[kp 290274422969031351995474060],[kp 135531918058358817633116300],[kp 135531918058358817633149068],[kp 79363694432322696411177099404],[kp 135531918058358817633083532],[kp 135531918058358817633083532],[kp 132226261520350065983628],[.keep [2,3,7,18,103]],[kp 64],[.keep [2,3,7,117]],[.weak 124,.freeze 124,kp 64],[kp 64]] [[],[kp 128],[],[kp 128],[],[kp 128],[],[kp 132226261520350065983628]]
abbrev s63_1 (s:aj.D) (tables:LTb) (ahead:(List (List LV))) (i1:Int) (v1:(List LV)):St:=⟨[(3,.adr aj s),(7,.own 7 none),(33,.data (Ty.sl TVS) (nth (t:=(Ty.sl TVS)) ahead s.2.1)),(34,dI ((nth (t:=(Ty.sl TVS)) ahead s.2.1).length:Int)),(35,dI i1)],[(7,.arr .sh TVS v1)]⟩
abbrev LP63_1 (s:aj.D) (tables:LTb) (ahead:(List (List LV))) (m:Nat) (st_:St) (K:KX):Prop:=True/\bJ (t:=TVS) (s63_1 s tables ahead) (nth (t:=(Ty.sl TVS)) ahead s.2.1) (F.fS s tables ahead) (fun v1:(List LV)=>True) (bq (fun v1:(List LV)=>True->K (.exit 1) (⟨[(7,.own 7 none)],[(7,.arr .sh TVS v1)]⟩:St)) (fun _=>False)) m st_
abbrev s63_3 (s:aj.D) (tables:LTb) (ahead:(List (List LV))) (i3:Int) (v3:(List LV)):St:=⟨[(3,.adr aj s),(7,.own 7 none),(54,.data (Ty.sl TVS) (nth (t:=(Ty.sl TVS)) ahead s.2.1)),(55,dI ((nth (t:=(Ty.sl TVS)) ahead s.2.1).length:Int)),(56,dI i3)],[(7,.arr .sh TVS v3)]⟩
abbrev LP63_3 (s:aj.D) (tables:LTb) (ahead:(List (List LV))) (m:Nat) (st_:St) (K:KX):Prop:=True/\bJ (t:=TVS) (s63_3 s tables ahead) (nth (t:=(Ty.sl TVS)) ahead s.2.1) (F.fV s tables ahead) (fun v3:(List LV)=>True) (bq (fun v3:(List LV)=>True->K (.exit 3) (⟨[(7,.own 7 none)],[(7,.arr .sh TVS v3)]⟩:St)) (fun _=>False)) m st_
abbrev s63_5 (s:aj.D) (tables:LTb) (ahead:(List (List LV))) (i5:Int) (v5:(List LV)):St:=⟨[(2,.brw (Ty.sl TVS) ahead),(3,.adr aj s),(7,.own 7 none),(74,.data (Ty.sl TVS) (nth (t:=(Ty.sl TVS)) ahead s.2.1)),(75,dI ((nth (t:=(Ty.sl TVS)) ahead s.2.1).length:Int)),(76,dI i5)],[(7,.arr .sh TVS v5)]⟩
abbrev LP63_5 (s:aj.D) (tables:LTb) (ahead:(List (List LV))) (m:Nat) (st_:St) (K:KX):Prop:=True/\dJ (s63_5 s tables ahead) Z0 ((nth (t:=(Ty.sl TVS)) ahead s.2.1).length:Int) (F.gi s tables ahead) (fun v5:(List LV)=>True) (bq (fun v5:(List LV)=>True->K (.exit 5) (⟨[(7,.own 7 none)],[(7,.arr .sh TVS v5)]⟩:St)) (fun _=>False)) m st_
abbrev s63_7 (s:aj.D) (tables:LTb) (ahead:(List (List LV))) (c7_0:LV) (c7_1:Int) (i7:Int) (v7:(List LV)):St:=⟨[(2,.brw (Ty.sl TVS) ahead),(3,.adr aj s),(7,.own 7 none),(13,.data TVS c7_0),(74,.data (Ty.sl TVS) (nth (t:=(Ty.sl TVS)) ahead s.2.1)),(75,dI ((nth (t:=(Ty.sl TVS)) ahead s.2.1).length:Int)),(76,dI c7_1),(84,.data (Ty.sl TVS) (nth (t:=(Ty.sl TVS)) ahead s.2.2.1)),(85,dI ((nth (t:=(Ty.sl TVS)) ahead s.2.2.1).length:Int)),(86,dI i7)],[(7,.arr .sh TVS v7)]⟩
abbrev LP63_7 (s:aj.D) (tables:LTb) (ahead:(List (List LV))) (m:Nat) (st_:St) (K:KX):Prop:=∃c7_0:LV,∃c7_1:Int,(Sm TVS c7_0/\True)/\bJ (t:=TVS) (s63_7 s tables ahead c7_0 c7_1) (nth (t:=(Ty.sl TVS)) ahead s.2.2.1) (F.fT s tables ahead c7_0 c7_1) (fun v7:(List LV)=>True) (bq (fun v7:(List LV)=>True->K (.exit 7) (⟨[(2,.brw (Ty.sl TVS) ahead),(3,.adr aj s),(7,.own 7 none),(74,.data (Ty.sl TVS) (nth (t:=(Ty.sl TVS)) ahead s.2.1)),(75,dI ((nth (t:=(Ty.sl TVS)) ahead s.2.1).length:Int)),(76,dI c7_1)],[(7,.arr .sh TVS v7)]⟩:St)) (fun _=>False)) m st_
def L63 (s:aj.D) (tables:LTb) (ahead:(List (List LV))):bD:=fun id m st_ K=>match id with
 | 1=>LP63_1 s tables ahead m st_ K
 | 3=>LP63_3 s tables ahead m st_ K
 | 5=>LP63_5 s tables ahead m st_ K
 | 7=>LP63_7 s tables ahead m st_ K
 | _=>False
theorem vc63 (s:aj.D) (tables:LTb) (ahead:(List (List LV))) (K:KA):vcT C63 (L63 s tables ahead) ann63 f63 [.data aj s,.data TTb tables,.brw (Ty.sl TVS) ahead] [] (.dat (Ty.sl TVS)) K =
 (cond (decide (s.1=Z1)) ((0<=s.2.2.2.1)/\(s.2.2.2.1<(tables.length:Int))/\K (.data (Ty.sl TVS) (nT tables s.2.2.2.1).2.1) []) (cond (decide (s.1=Z2)) ((0<=s.2.1)/\(s.2.1<(ahead.length:Int))/\(∃m_,True/\bJ (t:=TVS) (s63_1 s tables ahead) (nth (t:=(Ty.sl TVS)) ahead s.2.1) (F.fS s tables ahead) (fun v1:(List LV)=>True) (bq (fun v1:(List LV)=>True->K (.data (Ty.sl TVS) v1) []) (fun _=>False)) m_ (s63_1 s tables ahead Z0 []))) (cond (decide (s.1=Z3)) ((0<=s.2.1)/\(s.2.1<(ahead.length:Int))/\(∃m_,True/\bJ (t:=TVS) (s63_3 s tables ahead) (nth (t:=(Ty.sl TVS)) ahead s.2.1) (F.fV s tables ahead) (fun v3:(List LV)=>True) (bq (fun v3:(List LV)=>True->K (.data (Ty.sl TVS) v3) []) (fun _=>False)) m_ (s63_3 s tables ahead Z0 []))) (cond (decide (s.1=Z4)) ((0<=s.2.1)/\(s.2.1<(ahead.length:Int))/\(∃m_,True/\dJ (s63_5 s tables ahead) Z0 ((nth (t:=(Ty.sl TVS)) ahead s.2.1).length:Int) (F.gi s tables ahead) (fun v5:(List LV)=>True) (bq (fun v5:(List LV)=>True->K (.data (Ty.sl TVS) v5) []) (fun _=>False)) m_ (s63_5 s tables ahead Z0 []))) (cond (decide (s.1=Z5)) ((0<=s.2.1)/\(s.2.1<(ahead.length:Int))/\(0<=s.2.2.1)/\(s.2.2.1<(ahead.length:Int))/\(Sm (Ty.sl (Ty.sl TVS)) [(nth (t:=(Ty.sl TVS)) ahead s.2.1),(nth (t:=(Ty.sl TVS)) ahead s.2.2.1)])/\(LD (List.flatten [(nth (t:=(Ty.sl TVS)) ahead s.2.1),(nth (t:=(Ty.sl TVS)) ahead s.2.2.1)]) fun r1=>K (.data (Ty.sl TVS) r1) [])) (cond (decide (s.1=Z6)) ((0<=s.2.1)/\(s.2.1<(ahead.length:Int))/\(Sm (Ty.sl TVS) (nth (t:=(Ty.sl TVS)) ahead s.2.1))/\(LD (M.cB (nth (t:=(Ty.sl TVS)) ahead s.2.1)) fun r2=>K (.data (Ty.sl TVS) (aB r2 (some (Z0,(r2.length:Int))))) [])) (K (.data (Ty.sl TVS) []) []))))))):=by kernel_rfl
theorem lvc63_0 (s:aj.D) (tables:LTb) (ahead:(List (List LV)))  (i1:Int) (v1:(List LV)) (m:Nat) (K:KX):lvT C63 (L63 s tables ahead) ann63 f63 0 1 (s63_1 s tables ahead i1 v1) m K =
 (cond (decide (i1<((nth (t:=(Ty.sl TVS)) ahead s.2.1).length:Int))) ((0<=i1)/\(i1<((nth (t:=(Ty.sl TVS)) ahead s.2.1).length:Int))/\(Sm TVS (nth (t:=TVS) (nth (t:=(Ty.sl TVS)) ahead s.2.1) i1))/\(Sm TPS s.2.2.2.2.1)/\(M.cG (nth (t:=TVS) (nth (t:=(Ty.sl TVS)) ahead s.2.1) i1).length s.2.2.2.2.1)/\cond (M.holds (nth (t:=TVS) (nth (t:=(Ty.sl TVS)) ahead s.2.1) i1) s.2.2.2.2.1) (((v1.length+[(nth (t:=TVS) (nth (t:=(Ty.sl TVS)) ahead s.2.1) i1)].length) * 24<=lim)/\(nxT (LP63_1 s tables ahead) m K (s63_1 s tables ahead (wrap64 (i1+Z1)) (v1++[(nth (t:=TVS) (nth (t:=(Ty.sl TVS)) ahead s.2.1) i1)])))) (nxT (LP63_1 s tables ahead) m K (s63_1 s tables ahead (wrap64 (i1+Z1)) v1))) (K (.exit 1) (⟨[(7,.own 7 none)],[(7,.arr .sh TVS v1)]⟩:St))):=by kernel_rfl
theorem lvc63_1 (s:aj.D) (tables:LTb) (ahead:(List (List LV)))  (i3:Int) (v3:(List LV)) (m:Nat) (K:KX):lvT C63 (L63 s tables ahead) ann63 f63 1 3 (s63_3 s tables ahead i3 v3) m K =
 (cond (decide (i3<((nth (t:=(Ty.sl TVS)) ahead s.2.1).length:Int))) ((0<=i3)/\(i3<((nth (t:=(Ty.sl TVS)) ahead s.2.1).length:Int))/\(Sm TVS (nth (t:=TVS) (nth (t:=(Ty.sl TVS)) ahead s.2.1) i3))/\(Sm (Ty.sl aE) s.2.2.2.2.2.1)/\(M.rH (nth (t:=TVS) (nth (t:=(Ty.sl TVS)) ahead s.2.1) i3) s.2.2.2.2.2.1)/\(LD (M.taken (nth (t:=TVS) (nth (t:=(Ty.sl TVS)) ahead s.2.1) i3) s.2.2.2.2.2.1) fun r3=>((v3.length+[r3].length) * 24<=lim)/\(nxT (LP63_3 s tables ahead) m K (s63_3 s tables ahead (wrap64 (i3+Z1)) (v3++[r3]))))) (K (.exit 3) (⟨[(7,.own 7 none)],[(7,.arr .sh TVS v3)]⟩:St))):=by kernel_rfl
theorem lvc63_2 (s:aj.D) (tables:LTb) (ahead:(List (List LV)))  (i5:Int) (v5:(List LV)) (m:Nat) (K:KX):lvT C63 (L63 s tables ahead) ann63 f63 2 5 (s63_5 s tables ahead i5 v5) m K =
 (cond (decide (i5<((nth (t:=(Ty.sl TVS)) ahead s.2.1).length:Int))) ((0<=i5)/\(i5<((nth (t:=(Ty.sl TVS)) ahead s.2.1).length:Int))/\(0<=s.2.2.1)/\(s.2.2.1<(ahead.length:Int))/\(∃m_,∃c7_0:LV,∃c7_1:Int,(Sm TVS c7_0/\True)/\bJ (t:=TVS) (s63_7 s tables ahead c7_0 c7_1) (nth (t:=(Ty.sl TVS)) ahead s.2.2.1) (F.fT s tables ahead c7_0 c7_1) (fun v7:(List LV)=>True) (bq (fun v7:(List LV)=>True->(nxT (LP63_5 s tables ahead) m K (s63_5 s tables ahead (wrap64 (c7_1+Z1)) v7))) (fun _=>False)) m_ (s63_7 s tables ahead (nth (t:=TVS) (nth (t:=(Ty.sl TVS)) ahead s.2.1) i5) i5 Z0 v5))) (K (.exit 5) (⟨[(7,.own 7 none)],[(7,.arr .sh TVS v5)]⟩:St))):=by kernel_rfl
theorem lvc63_3 (s:aj.D) (tables:LTb) (ahead:(List (List LV))) (c7_0:LV) (c7_1:Int) (i7:Int) (v7:(List LV)) (m:Nat) (K:KX):lvT C63 (L63 s tables ahead) ann63 f63 3 7 (s63_7 s tables ahead c7_0 c7_1 i7 v7) m K =
 (cond (decide (i7<((nth (t:=(Ty.sl TVS)) ahead s.2.2.1).length:Int))) ((0<=i7)/\(i7<((nth (t:=(Ty.sl TVS)) ahead s.2.2.1).length:Int))/\(Sm TVS c7_0)/\(Sm TVS (nth (t:=TVS) (nth (t:=(Ty.sl TVS)) ahead s.2.2.1) i7))/\(c7_0.length+(nth (t:=TVS) (nth (t:=(Ty.sl TVS)) ahead s.2.2.1) i7).length<=1048576)/\(LD (c7_0++(nth (t:=TVS) (nth (t:=(Ty.sl TVS)) ahead s.2.2.1) i7)) fun r4=>(Sm TVS (aB r4 (some (Z0,(r4.length:Int)))))/\(Sm TPS s.2.2.2.2.1)/\(M.cG (aB r4 (some (Z0,(r4.length:Int)))).length s.2.2.2.2.1)/\cond (M.holds (aB r4 (some (Z0,(r4.length:Int)))) s.2.2.2.2.1) (((v7.length+[(aB r4 (some (Z0,(r4.length:Int))))].length) * 24<=lim)/\(nxT (LP63_7 s tables ahead) m K (s63_7 s tables ahead c7_0 c7_1 (wrap64 (i7+Z1)) (v7++[(aB r4 (some (Z0,(r4.length:Int))))])))) (nxT (LP63_7 s tables ahead) m K (s63_7 s tables ahead c7_0 c7_1 (wrap64 (i7+Z1)) v7)))) (K (.exit 7) (⟨[(2,.brw (Ty.sl TVS) ahead),(3,.adr aj s),(7,.own 7 none),(74,.data (Ty.sl TVS) (nth (t:=(Ty.sl TVS)) ahead s.2.1)),(75,dI ((nth (t:=(Ty.sl TVS)) ahead s.2.1).length:Int)),(76,dI c7_1)],[(7,.arr .sh TVS v7)]⟩:St))):=by kernel_rfl
theorem con63_ok:aT P 63 c63:=aZ C63 func63 (kC con22_ok (kC con43_ok (kC con62_ok (kC con66_ok (kC con106_ok kN))))) fun args hp K h0=>by
 obtain⟨s,tables,ahead,rfl,rfl,h_s,h_tables,h_ahead,p0,hK⟩:=g3e h0
 have h:ok (F.lE s tables ahead) (fun r=>K (.data (Ty.sl TVS) r) []):=az (F.th s tables ahead h_s h_tables h_ahead p0) (hK _ rfl)
 refine⟨rfl,ann63,(L63 s tables ahead),(.dat (Ty.sl TVS)),(DU (i0:=1) (i1:=3) (i2:=5) (i3:=7) (by kernel_rfl) ?_ ?_ ?_ ?_),?_⟩
 ·rintro _ _ K ⟨hc1,i1,v1,rfl,hl1,rfl,hv1,h⟩
  exact cast (lvc63_0 _ _ _ _ _ _ _).symm (aW (t:=TVS) hl1 h (fun ht1 h=>⟨hl1,⟨ht1,⟨(aJ (aJ h_ahead s.2.1) i1),⟨h_s.2.2.2.2.1,(oG h fun _ h=>(oC h (fun _ h=>(oG h fun _ h=>(aP (t:=TVS) (fun _ hm=>⟨hc1,hm⟩) _ rfl hl1 ht1 (bu (aJ h_ahead s.2.1)) trivial h))) fun _ h=>(aP (t:=TVS) (fun _ hm=>⟨hc1,hm⟩) _ rfl hl1 ht1 (bu (aJ h_ahead s.2.1)) trivial h)))⟩⟩⟩⟩) fun h=>(h trivial))
 ·rintro _ _ K ⟨hc3,i3,v3,rfl,hl3,rfl,hv3,h⟩
  exact cast (lvc63_1 _ _ _ _ _ _ _).symm (aW (t:=TVS) hl3 h (fun ht3 h=>⟨hl3,⟨ht3,⟨(aJ (aJ h_ahead s.2.1) i3),⟨h_s.2.2.2.2.2.1,(oG h fun _ h=>(oL h fun _ _ h=>(oG h fun _ h=>(aP (t:=TVS) (fun _ hm=>⟨hc3,hm⟩) _ rfl hl3 ht3 (bu (aJ h_ahead s.2.1)) trivial h))))⟩⟩⟩⟩) fun h=>(h trivial))
 ·rintro _ _ K ⟨hc5,i5,v5,rfl,hl5,rfl,hv5,h⟩
  exact cast (lvc63_2 _ _ _ _ _ _ _).symm (cC h (fun ht5 h=>⟨hl5,⟨ht5,(oG h fun _ h=>(oG h fun _ h=>(aQ (t:=TVS) (fun m hm=>⟨(nth (t:=TVS) (nth (t:=(Ty.sl TVS)) ahead s.2.1) i5),i5,⟨(aJ (aJ h_ahead s.2.1) i5),trivial⟩,hm⟩) _ rfl trivial (aU h (fun v7 h hv7=>(bT (fun _ hm=>⟨hc5,hm⟩) _ rfl hl5 nu ht5 (bu (aJ h_ahead s.2.1)) trivial h)) (fun _ h=>h.elim)))))⟩⟩) fun h=>(h trivial))
 ·rintro _ _ K ⟨c7_0,c7_1,hc7,i7,v7,rfl,hl7,rfl,hv7,h⟩
  exact cast (lvc63_3 _ _ _ _ _ _ _ _ _).symm (aW (t:=TVS) hl7 h (fun ht7 h=>⟨hl7,⟨ht7,⟨hc7.1,⟨(aJ (aJ h_ahead s.2.2.1) i7),(oG h fun _ h=>(oL h fun _ _ h=>(oG h fun _ h=>⟨h_s.2.2.2.2.1,(oG h fun _ h=>(oC h (fun _ h=>(oG h fun _ h=>(aP (t:=TVS) (fun _ hm=>⟨c7_0,c7_1,hc7,hm⟩) _ rfl hl7 ht7 (bu (aJ h_ahead s.2.2.1)) trivial h))) fun _ h=>(aP (t:=TVS) (fun _ hm=>⟨c7_0,c7_1,hc7,hm⟩) _ rfl hl7 ht7 (bu (aJ h_ahead s.2.2.1)) trivial h)))⟩)))⟩⟩⟩⟩) fun h=>(h trivial))
 ·rw[vc63]
  exact(oC h (fun _ h=>(oG h fun _ h=>(oG h fun _ h=>h))) fun _ h=>(oC h (fun _ h=>(oG h fun _ h=>(oG h fun _ h=>(aQ (t:=TVS) (fun m hm=>⟨trivial,hm⟩) _ rfl trivial (aU h (fun v1 h hv1=>h) (fun _ h=>h.elim)))))) fun _ h=>(oC h (fun _ h=>(oG h fun _ h=>(oG h fun _ h=>(aQ (t:=TVS) (fun m hm=>⟨trivial,hm⟩) _ rfl trivial (aU h (fun v3 h hv3=>h) (fun _ h=>h.elim)))))) fun _ h=>(oC h (fun _ h=>(oG h fun _ h=>(oG h fun _ h=>(bZ (fun m hm=>⟨trivial,hm⟩) Z0 _ rfl (Int.natCast_nonneg 0) trivial (aU h (fun v5 h hv5=>h) (fun _ h=>h.elim)))))) fun _ h=>(oC h (fun _ h=>(oG h fun _ h=>(oG h fun _ h=>(oG h fun _ h=>(oG h fun _ h=>(oG h fun _ h=>(oL h fun _ _ h=>h))))))) fun _ h=>(oC h (fun _ h=>(oG h fun _ h=>(oG h fun _ h=>⟨(aJ h_ahead s.2.1),(oL h fun _ _ h=>h)⟩))) fun _ h=>h))))))
def c45:Con:=⟨[.dat TTb,.dat TSS],fun args hp K=>g2 (pD TTb) (pD TSS) (fun tables plan=>(Sm TTb tables)/\(Sm TSS plan)/\(M.bL tables plan=true)/\(LD (M.bE tables plan) fun r=>K (.clp 0 (r.length:Int)) [(0,.arr .dp TVS r)])) args hp,.bor,false⟩
abbrev C45:Ctx:=cx [(42,c42),(63,c63)] 29 [] 0 true
def ann45:=an [[kp 3],[.weak 5,kp 35],[kp 1825],[kp 3873],[.fixRow 7 aj,kp 1953],[kp 1825],[kp 1825],[kp 16]] [[kp 32]]
abbrev s45_0 (tables:LTb) (plan:LS) (i0:Int) (v0:(List (List LV))):St:=⟨[(0,.data TTb tables),(5,.own 5 none),(8,.data TSS plan),(9,dI (plan.length:Int)),(10,dI i0)],[(5,.arr .sh (Ty.sl TVS) v0)]⟩
abbrev LP45_0 (tables:LTb) (plan:LS) (m:Nat) (st_:St) (K:KX):Prop:=True/\bJ (t:=aj) (s45_0 tables plan) plan (F.fe tables plan) (fun v0:(List (List LV))=>True) (bq (fun v0:(List (List LV))=>True->K (.exit 0) (⟨[(5,.own 5 none)],[(5,.arr .sh (Ty.sl TVS) v0)]⟩:St)) (fun _=>False)) m st_
def L45 (tables:LTb) (plan:LS):bD:=lp1 0 (LP45_0 tables plan)
theorem vc45 (tables:LTb) (plan:LS) (K:KA):vcT C45 (L45 tables plan) ann45 f45 [.data TTb tables,.data TSS plan] [] .raw K =
 (∃m_,True/\bJ (t:=aj) (s45_0 tables plan) plan (F.fe tables plan) (fun v0:(List (List LV))=>True) (bq (fun v0:(List (List LV))=>True->(0<=wrap64 ((v0.length:Int)-Z1))/\(wrap64 ((v0.length:Int)-Z1)<(v0.length:Int))/\(Sm (Ty.sl TVS) (nth (t:=(Ty.sl TVS)) v0 (wrap64 ((v0.length:Int)-Z1))))/\(LD (nth (t:=(Ty.sl TVS)) v0 (wrap64 ((v0.length:Int)-Z1))) fun r1=>K (.clp 0 ((r1.take (r1.length:Int).toNat).length:Int)) [(0,.arr .dp TVS (r1.take (r1.length:Int).toNat))])) (fun _=>False)) m_ (s45_0 tables plan Z0 [])):=by kernel_rfl
theorem lvc45_0 (tables:LTb) (plan:LS)  (i0:Int) (v0:(List (List LV))) (m:Nat) (K:KX):lvT C45 (L45 tables plan) ann45 f45 0 0 (s45_0 tables plan i0 v0) m K =
 (cond (decide (i0<(plan.length:Int))) ((0<=i0)/\(i0<(plan.length:Int))/\(Sm aj (nS plan i0))/\(Sm TTb tables)/\(Sm (Ty.sl (Ty.sl TVS)) v0)/\(M.jC tables v0 (nS plan i0))/\(LD (M.ck tables v0 (nS plan i0)) fun r2=>((v0.length+[r2].length) * 24<=lim)/\(nxT (LP45_0 tables plan) m K (s45_0 tables plan (wrap64 (i0+Z1)) (v0++[r2]))))) (K (.exit 0) (⟨[(5,.own 5 none)],[(5,.arr .sh (Ty.sl TVS) v0)]⟩:St))):=by kernel_rfl
theorem con45_ok:aT P 45 c45:=aZ C45 func45 (kC con42_ok (kC con63_ok kN)) fun args hp K h0=>by
 obtain⟨tables,plan,rfl,rfl,h_tables,h_plan,p0,hK⟩:=g2e h0
 have h:ok (F.mW tables plan) (fun r=>K (.clp 0 (r.length:Int)) [(0,.arr .dp TVS r)]):=az (F.uJ tables plan h_tables h_plan p0) (hK _ rfl)
 refine⟨rfl,ann45,(L45 tables plan),.raw,(bH (i0:=0) (by kernel_rfl) ?_),?_⟩
 ·rintro _ _ K ⟨hc0,i0,v0,rfl,hl0,rfl,hv0,h⟩
  exact cast (lvc45_0 _ _ _ _ _ _).symm (aW (t:=aj) hl0 h (fun ht0 h=>⟨hl0,⟨ht0,⟨(aJ h_plan i0),⟨h_tables,(oG h fun _ h=>(oG h fun _ h=>(oL h fun _ _ h=>(oG h fun _ h=>(aP (t:=aj) (fun _ hm=>⟨hc0,hm⟩) _ rfl hl0 ht0 (bu h_plan) trivial h)))))⟩⟩⟩⟩) fun h=>(h trivial))
 ·rw[vc45]
  exact(aQ (t:=aj) (fun m hm=>⟨trivial,hm⟩) _ rfl trivial (aU h (fun v0 h hv0=>(oG h fun _ h=>(oG h fun _ h=>(oG h fun _ h=>(oL h fun _ _ h=>h))))) (fun _ h=>h.elim)))
def c14:Con:=⟨[.dat TTb,.dat TSS],fun args hp K=>g2 (pD TTb) (pD TSS) (fun tables plan=>(Sm TTb tables)/\(Sm TSS plan)/\(LD (M.bE tables plan) fun r=>K (.clp 0 (r.length:Int)) [(0,.arr .dp TVS r)])) args hp,.bor,false⟩
abbrev C14:Ctx:=cx [(10,c10),(45,c45)] 12 [] 0 true
def ann14:=an [[kp 3],[kp 259],[.clip 4,kp 16],[kp 16]] []
theorem vc14 (tables:LTb) (plan:LS) (K:KA):vcT C14 ay ann14 f14 [.data TTb tables,.data TSS plan] [] .raw K =
 ((Sm TTb tables)/\(Sm TSS plan)/\cond (!(M.bL tables plan)) (K (.clp 0 (([]:List TVS.D).length:Int)) [(0,.arr .dp TVS ([]:List TVS.D))]) ((Sm TTb tables)/\(Sm TSS plan)/\(M.bL tables plan=true)/\(LD (M.bE tables plan) fun r1=>K (.clp 0 ((r1.take (r1.length:Int).toNat).length:Int)) [(0,.arr .dp TVS (r1.take (r1.length:Int).toNat))]))):=by kernel_rfl
theorem con14_ok:aT P 14 c14:=aZ C14 func14 (kC con10_ok (kC con45_ok kN)) fun args hp K h0=>by
 obtain⟨tables,plan,rfl,rfl,h_tables,h_plan,hK⟩:=g2e h0
 have h:ok (F.mK tables plan) (fun r=>K (.clp 0 (r.length:Int)) [(0,.arr .dp TVS r)]):=az (F.uK tables plan h_tables h_plan) (hK _ rfl)
 refine⟨rfl,ann14,ay,.raw,(aG (by kernel_rfl)),?_⟩
 ·rw[vc14]
  exact⟨h_tables,⟨h_plan,(oC h (fun _ h=>h) fun b_1 h=>⟨h_tables,⟨h_plan,⟨(bnf b_1),(oL h fun _ _ h=>h)⟩⟩⟩)⟩⟩
def c46:Con:=⟨[.dat aa],fun args hp K=>g1 (pD aa) (fun v=>(Sm aa v)/\K (dB (M.aL v)) []) args hp,.plain,false⟩
abbrev C46:Ctx:=cx [(91,c91)] 5 [] 0 false
def ann46:=an [[.fixRow 1 aa,kp 2],[kp 4]] []
theorem vc46 (v:aa.D) (K:KA):vcT C46 ay ann46 f46 [.data aa v] [] (.dat Ty.bool) K =
 ((Sm aa v)/\K (dB (M.aL v)) []):=by kernel_rfl
theorem con46_ok:aT P 46 c46:=aZ C46 func46 (kC con91_ok kN) fun args hp K h0=>by
 obtain⟨v,rfl,rfl,h_v,hK⟩:=g1e h0
 have h:ok (F.tV v) (fun r=>K (dB r) []):=az (F.wR v h_v) hK
 refine⟨rfl,ann46,ay,(.dat Ty.bool),(aG (by kernel_rfl)),?_⟩
 ·rw[vc46]
  exact⟨h_v,h⟩
def c15:Con:=⟨[],fun args hp K=>FM (K (dB true) []) args hp,.plain,false⟩
abbrev C15:Ctx:=cx [(46,c46)] 8 [] 0 false
def ann15:=an [[kp 0],[kp 1]] []
theorem vc15  (K:KA):vcT C15 ay ann15 f15 [] [] (.dat Ty.bool) K =
 ((Sm aa (Z1,(Z3,((⟨#[]⟩:ByteArray),()))))/\cond ((M.aL (Z1,(Z3,((⟨#[]⟩:ByteArray),()))))==true) ((Sm aa ((9:Int),(Z0,((⟨#[]⟩:ByteArray),()))))/\K (dB (!(M.aL ((9:Int),(Z0,((⟨#[]⟩:ByteArray),())))))) []) (K (dB false) [])):=by kernel_rfl
theorem con15_ok:aT P 15 c15:=aZ C15 func15 (kC con46_ok kN) fun args hp K h0=>by
 obtain⟨rfl,rfl,h1⟩:=CW h0
 have hK:=h1
 have h:ok (F.rT) (fun r=>K (dB r) []):=az (F.zL) hK
 refine⟨rfl,ann15,ay,(.dat Ty.bool),(aG (by kernel_rfl)),?_⟩
 ·rw[vc15]
  exact⟨(show Sm aa _ from⟨trivial,(show Sm (Ty.pair aE (Ty.pair Ty.str Ty.unit)) _ from⟨trivial,(show Sm (Ty.pair Ty.str Ty.unit) _ from⟨(Nat.le_of_ble_eq_true rfl),trivial⟩)⟩)⟩),(oC h (fun _ h=>⟨(show Sm aa _ from⟨trivial,(show Sm (Ty.pair aE (Ty.pair Ty.str Ty.unit)) _ from⟨trivial,(show Sm (Ty.pair Ty.str Ty.unit) _ from⟨(Nat.le_of_ble_eq_true rfl),trivial⟩)⟩)⟩),h⟩) fun _ h=>h)⟩
def c54:Con:=⟨[.dat TVS,.dat TVS],fun args hp K=>g2 (pD TVS) (pD TVS) (fun a b=>(Sm TVS a)/\(Sm TVS b)/\(a=b)/\K (dB true) []) args hp,.plain,false⟩
abbrev C54:Ctx:=cx [] 26 [] 0 false
def ann54:=an [[kp 3],[kp 1027],[kp 16],[kp 35],[kp 16419],[kp 35],[kp 33554467],[kp 16],[kp 16]] [[kp 0]]
abbrev s54_0 (a:LV) (b:LV) (i0:Int) (v0:Unit):St:=⟨[(0,.data TVS a),(1,.data TVS b),(5,dI i0)],[]⟩
abbrev LP54_0 (a:LV) (b:LV) (m:Nat) (st_:St) (K:KX):Prop:=True/\dJ (s54_0 a b) Z0 (a.length:Int) (F.iq a b) (fun v0:Unit=>True) (bq (fun v0:Unit=>True->K (.exit 0) (⟨[],[]⟩:St)) (fun q0:Unit=>K .ret (⟨[(4,dB false)],[]⟩:St))) m st_
def L54 (a:LV) (b:LV):bD:=lp1 0 (LP54_0 a b)
theorem vc54 (a:LV) (b:LV) (K:KA):vcT C54 (L54 a b) ann54 f54 [.data TVS a,.data TVS b] [] (.dat Ty.bool) K =
 (cond (!decide ((a.length:Int)=(b.length:Int))) (K (dB false) []) (∃m_,True/\dJ (s54_0 a b) Z0 (a.length:Int) (F.iq a b) (fun v0:Unit=>True) (bq (fun v0:Unit=>True->K (dB true) []) (fun q0:Unit=>K (dB false) [])) m_ (s54_0 a b Z0 ()))):=by kernel_rfl
theorem lvc54_0 (a:LV) (b:LV)  (i0:Int) (v0:Unit) (m:Nat) (K:KX):lvT C54 (L54 a b) ann54 f54 0 0 (s54_0 a b i0 v0) m K =
 (cond (decide (i0<(a.length:Int))) ((0<=i0)/\(i0<(a.length:Int))/\(0<=i0)/\(i0<(b.length:Int))/\cond (!(Ty.beq aa (nV a i0) (nV b i0))) (K .ret (⟨[(4,dB false)],[]⟩:St)) (nxT (LP54_0 a b) m K (s54_0 a b (wrap64 (i0+Z1)) ()))) (K (.exit 0) (⟨[],[]⟩:St))):=by kernel_rfl
theorem con54_ok:aT P 54 c54:=aZ C54 func54 kN fun args hp K h0=>by
 obtain⟨a,b,rfl,rfl,h_a,h_b,p0,hK⟩:=g2e h0
 have h:ok (F.oR a b) (fun r=>K (dB r) []):=az (F.wq a b h_a h_b p0) hK
 refine⟨rfl,ann54,(L54 a b),(.dat Ty.bool),(bH (i0:=0) (by kernel_rfl) ?_),?_⟩
 ·rintro _ _ K ⟨hc0,i0,v0,rfl,hl0,rfl,hv0,h⟩
  exact cast (lvc54_0 _ _ _ _ _ _).symm (cC h (fun ht0 h=>⟨hl0,⟨ht0,⟨hl0,(oG h fun _ h=>(oC h (fun _ h=>h) fun _ h=>(bT (fun _ hm=>⟨hc0,hm⟩) _ rfl hl0 nu ht0 (bu h_a) trivial h)))⟩⟩⟩) fun h=>(h trivial))
 ·rw[vc54]
  exact(oC h (fun _ h=>h) fun _ h=>(bZ (fun m hm=>⟨trivial,hm⟩) Z0 _ rfl (Int.natCast_nonneg 0) trivial (aU h (fun v0 h hv0=>h) (fun q0 h=>h))))
def c18:Con:=⟨[.dat (Ty.sl TVS),.dat (Ty.sl TVS)],fun args hp K=>g2 (pD (Ty.sl TVS)) (pD (Ty.sl TVS)) (fun a b=>(Sm (Ty.sl TVS) a)/\(Sm (Ty.sl TVS) b)/\(a=b)/\K (dB true) []) args hp,.plain,false⟩
abbrev C18:Ctx:=cx [(54,c54)] 27 [] 0 false
def ann18:=an [[kp 3],[kp 1027],[kp 16],[kp 35],[kp 16419],[kp 35],[kp 67108899],[kp 16],[kp 16]] [[kp 0]]
abbrev s18_0 (a:(List LV)) (b:(List LV)) (i0:Int) (v0:Unit):St:=⟨[(0,.data (Ty.sl TVS) a),(1,.data (Ty.sl TVS) b),(5,dI i0)],[]⟩
abbrev LP18_0 (a:(List LV)) (b:(List LV)) (m:Nat) (st_:St) (K:KX):Prop:=True/\dJ (s18_0 a b) Z0 (a.length:Int) (F.gO a b) (fun v0:Unit=>True) (bq (fun v0:Unit=>True->K (.exit 0) (⟨[],[]⟩:St)) (fun q0:Unit=>K .ret (⟨[(4,dB false)],[]⟩:St))) m st_
def L18 (a:(List LV)) (b:(List LV)):bD:=lp1 0 (LP18_0 a b)
theorem vc18 (a:(List LV)) (b:(List LV)) (K:KA):vcT C18 (L18 a b) ann18 f18 [.data (Ty.sl TVS) a,.data (Ty.sl TVS) b] [] (.dat Ty.bool) K =
 (cond (!decide ((a.length:Int)=(b.length:Int))) (K (dB false) []) (∃m_,True/\dJ (s18_0 a b) Z0 (a.length:Int) (F.gO a b) (fun v0:Unit=>True) (bq (fun v0:Unit=>True->K (dB true) []) (fun q0:Unit=>K (dB false) [])) m_ (s18_0 a b Z0 ()))):=by kernel_rfl
theorem lvc18_0 (a:(List LV)) (b:(List LV))  (i0:Int) (v0:Unit) (m:Nat) (K:KX):lvT C18 (L18 a b) ann18 f18 0 0 (s18_0 a b i0 v0) m K =
 (cond (decide (i0<(a.length:Int))) ((0<=i0)/\(i0<(a.length:Int))/\(0<=i0)/\(i0<(b.length:Int))/\(Sm TVS (nth (t:=TVS) a i0))/\(Sm TVS (nth (t:=TVS) b i0))/\((nth (t:=TVS) a i0)=(nth (t:=TVS) b i0))/\cond (!true) (K .ret (⟨[(4,dB false)],[]⟩:St)) (nxT (LP18_0 a b) m K (s18_0 a b (wrap64 (i0+Z1)) ()))) (K (.exit 0) (⟨[],[]⟩:St))):=by kernel_rfl
theorem con18_ok:aT P 18 c18:=aZ C18 func18 (kC con54_ok kN) fun args hp K h0=>by
 obtain⟨a,b,rfl,rfl,h_a,h_b,p0,hK⟩:=g2e h0
 have h:ok (F.mJ a b) (fun r=>K (dB r) []):=az (F.uL a b h_a h_b p0) hK
 refine⟨rfl,ann18,(L18 a b),(.dat Ty.bool),(bH (i0:=0) (by kernel_rfl) ?_),?_⟩
 ·rintro _ _ K ⟨hc0,i0,v0,rfl,hl0,rfl,hv0,h⟩
  exact cast (lvc18_0 _ _ _ _ _ _).symm (cC h (fun ht0 h=>⟨hl0,⟨ht0,⟨hl0,(oG h fun _ h=>⟨(aJ h_a i0),⟨(aJ h_b i0),(oG h fun _ h=>(oC h (fun _ h=>h) fun _ h=>(bT (fun _ hm=>⟨hc0,hm⟩) _ rfl hl0 nu ht0 (bu h_a) trivial h)))⟩⟩)⟩⟩⟩) fun h=>(h trivial))
 ·rw[vc18]
  exact(oC h (fun _ h=>h) fun _ h=>(bZ (fun m hm=>⟨trivial,hm⟩) Z0 _ rfl (Int.natCast_nonneg 0) trivial (aU h (fun v0 h hv0=>h) (fun q0 h=>h))))
abbrev C32:Ctx:=cx [] 11 [] 200000 false
def T32:Inl:=By C32 (fun _=>[]) (eT f32) f32.results.toList
theorem inlOk32:Dg P 32 T32:=GJ C32 func32 kN
def c76:Con:=⟨[.any,.dat aE],fun args hp K=>hpR (fun b p=>args2 (fun a0 a1=>mc a0 (fy aE a1 fun n=>(Sm TBy b)/\(M.aq b)/\(0<=p)/\(p<=1000000000000000)/\(LD (M.pick b p n) fun r=>K (dI r.1) [(1000000,.box [.data TBy b,dI r.2])]))) args []) hp,.plain,true⟩
abbrev C76:Ctx:=cx [] 99 [] 0 false
def ann76:=an [[kp 3],[kp 3],[kp 16777219],[kp 16],[kp 35],[kp 68719476771],[kp 16],[kp 66],[kp 66],[kp 16]] []
abbrev S76_0 (b:LI) (p:Int) (n:Int) (K:KA):Prop:=K (dI Z0) [(1000000,.box [.data TBy b,dI (wrap64 (p+Z1))])]
abbrev S76_1 (b:LI) (p:Int) (n:Int) (K:KA):Prop:=((64:Int)≠0)/\(n≠0)/\K (dI ((mA .xor .i64 (wrap64 (wrap64 (wrap64 (wrap64 ((wrap64 (nth (t:=(Ty.int .u8)) b ((wrap64 (wrap64 (p+Z1)-Z1)).tmod (b.length:Int)))) * (131:Int))+wrap64 ((wrap64 (nth (t:=(Ty.int .u8)) b ((wrap64 (wrap64 ((wrap64 (wrap64 (p+Z1)-Z1)) * (7:Int))+Z3)).tmod (b.length:Int)))) * (1117:Int)))+wrap64 ((wrap64 (wrap64 (p+Z1)-Z1)) * (29:Int)))+wrap64 ((wrap64 ((wrap64 (wrap64 (p+Z1)-Z1)).tdiv (b.length:Int))) * (53:Int)))) (wrap64 ((wrap64 (wrap64 (wrap64 (wrap64 ((wrap64 (nth (t:=(Ty.int .u8)) b ((wrap64 (wrap64 (p+Z1)-Z1)).tmod (b.length:Int)))) * (131:Int))+wrap64 ((wrap64 (nth (t:=(Ty.int .u8)) b ((wrap64 (wrap64 ((wrap64 (wrap64 (p+Z1)-Z1)) * (7:Int))+Z3)).tmod (b.length:Int)))) * (1117:Int)))+wrap64 ((wrap64 (wrap64 (p+Z1)-Z1)) * (29:Int)))+wrap64 ((wrap64 ((wrap64 (wrap64 (p+Z1)-Z1)).tdiv (b.length:Int))) * (53:Int)))).tdiv (64:Int)))).tmod n)) [(1000000,.box [.data TBy b,dI (wrap64 (p+Z1))])]
abbrev S76_2 (b:LI) (p:Int) (n:Int) (K:KA):Prop:=(S76_1 b p n K)
theorem vc76 (b:LI) (p:Int) (n:Int) (K:KA):vcT C76 ay ann76 f76 [.ptr 1000000 0,dI n] [(1000000,.box [.data TBy b,dI p])] (.dat aE) K =
 (cond ((decide (n<Z1))==false) (cond (decide ((b.length:Int)=Z0)) (S76_0 b p n K) (cond (decide (wrap64 (wrap64 (p+Z1)-Z1)<(b.length:Int))) ((0<=wrap64 (wrap64 (p+Z1)-Z1))/\(wrap64 (wrap64 (p+Z1)-Z1)<(b.length:Int))/\(n≠0)/\K (dI ((wrap64 (nth (t:=(Ty.int .u8)) b (wrap64 (wrap64 (p+Z1)-Z1)))).tmod n)) [(1000000,.box [.data TBy b,dI (wrap64 (p+Z1))])]) (((b.length:Int)≠0)/\(0<=((wrap64 (wrap64 (p+Z1)-Z1)).tmod (b.length:Int)))/\(((wrap64 (wrap64 (p+Z1)-Z1)).tmod (b.length:Int))<(b.length:Int))/\((b.length:Int)≠0)/\(0<=((wrap64 (wrap64 ((wrap64 (wrap64 (p+Z1)-Z1)) * (7:Int))+Z3)).tmod (b.length:Int)))/\(((wrap64 (wrap64 ((wrap64 (wrap64 (p+Z1)-Z1)) * (7:Int))+Z3)).tmod (b.length:Int))<(b.length:Int))/\((b.length:Int)≠0)/\Q0 (S76_2 b p n K)))) (S76_0 b p n K)):=by kernel_rfl
theorem con76_ok:aT P 76 c76:=aZ C76 func76 kN fun args hp K h0=>by
 unfold c76 at h0
 dsimp only at h0
 obtain⟨b,p,rfl,h00⟩:=fc h0
 obtain⟨a0,a1,rfl,_,h1⟩:=bO h00
 obtain⟨rfl,h2⟩:=dn h1
 obtain⟨n,rfl,h3⟩:=bt h2
 obtain⟨h_b,p0,p1,p2,hK⟩:=h3
 have h:ok (F.nA b p n) (fun r=>K (dI r.1) [(1000000,.box [.data TBy b,dI r.2])]):=az (F.Bi b p n h_b p0 p1 p2) (hK _ rfl)
 refine⟨rfl,ann76,ay,(.dat aE),(aG (by kernel_rfl)),?_⟩
 ·rw[vc76]
  exact(oC h (fun _ h=>(oC h (fun _ h=>h) fun _ h=>(oC h (fun _ h=>(oG h fun _ h=>(oG h fun _ h=>(oG h fun _ h=>h)))) fun _ h=>(oG h fun g1 h=>(oG h fun _ h=>(oG h fun _ h=>⟨g1,(oG h fun _ h=>(oG h fun _ h=>⟨g1,(q0 (⟨(by decide),(oG h fun _ h=>h)⟩))⟩))⟩)))))) fun _ h=>h)
def c92:Con:=⟨[.any,.dat aE],fun args hp K=>hpR (fun b p=>args2 (fun a0 a1=>mc a0 (fy aE a1 fun n=>(Sm TBy b)/\(M.aq b)/\(0<=p)/\(p<=999000000000000)/\(LD (M.odd b p n) fun r=>K (dB r.1) [(1000000,.box [.data TBy b,dI r.2])]))) args []) hp,.plain,true⟩
abbrev C92:Ctx:=cx [(76,c76)] 15 [] 0 false
def ann92:=an [[kp 3],[kp 16]] []
theorem vc92 (b:LI) (p:Int) (n:Int) (K:KA):vcT C92 ay ann92 f92 [.ptr 1000000 0,dI n] [(1000000,.box [.data TBy b,dI p])] (.dat Ty.bool) K =
 (cond ((decide (Z0<n))==true) ((Sm TBy b)/\(M.aq b)/\(0<=p)/\(p<=1000000000000000)/\(LD (M.pick b p n) fun r1=>K (dB (decide (r1.1=wrap64 (n-Z1)))) [(1000000,.box [.data TBy b,dI r1.2])])) (K (dB false) [(1000000,.box [.data TBy b,dI p])])):=by kernel_rfl
theorem con92_ok:aT P 92 c92:=aZ C92 func92 (kC con76_ok kN) fun args hp K h0=>by
 unfold c92 at h0
 dsimp only at h0
 obtain⟨b,p,rfl,h00⟩:=fc h0
 obtain⟨a0,a1,rfl,_,h1⟩:=bO h00
 obtain⟨rfl,h2⟩:=dn h1
 obtain⟨n,rfl,h3⟩:=bt h2
 obtain⟨h_b,p0,p1,p2,hK⟩:=h3
 have h:ok (F.qm b p n) (fun r=>K (dB r.1) [(1000000,.box [.data TBy b,dI r.2])]):=az (F.BR b p n h_b p0 p1 p2) (hK _ rfl)
 refine⟨rfl,ann92,ay,(.dat Ty.bool),(aG (by kernel_rfl)),?_⟩
 ·rw[vc92]
  exact(oC h (fun _ h=>⟨h_b,⟨p0,⟨p1,(oG h fun _ h=>(oL h fun _ _ h=>h))⟩⟩⟩) fun _ h=>h)
def c122:Con:=⟨[.any,.dat aE],fun args hp K=>hpR (fun b p=>args2 (fun a0 a1=>mc a0 (fy aE a1 fun n=>(Sm TBy b)/\(M.aq b)/\(0<=p)/\(p<=998000000000000)/\(LD (M.fD b p n) fun r=>K (.own 0 none) [(0,.arr .sh ag r.1),(1000000,.box [.data TBy b,dI r.2])]))) args []) hp,.plain,true⟩
abbrev C122:Ctx:=cx [(76,c76),(92,c92)] 40 [] 0 false
def ann122:=an [[kp 3],[kp 35],[kp 99],[kp 4195],[kp 99],[kp 99],[kp 536870945],[kp 32],[kp 16]] [[kp 35]]
abbrev s122_0 (b:LI) (p:Int) (n:Int) (v0:Int×Int×LC):St:=⟨[(0,.ptr 1000000 0),(1,dI n),(5,.own 7 none),(6,dI v0.1)],[(1000000,.box [.data TBy b,dI v0.2.1]),(7,.arr .sh ag v0.2.2)]⟩
abbrev LP122_0 (b:LI) (p:Int) (n:Int) (m:Nat) (st_:St) (K:KX):Prop:=True/\cY (s122_0 b p n) (F.fz b p n) (fun v0:Int×Int×LC=>True) (fun e0:Int×LC=>True->K (.exit 0) (⟨[(0,.ptr 1000000 0),(1,dI n),(5,.own 7 none)],[(1000000,.box [.data TBy b,dI e0.1]),(7,.arr .sh ag e0.2)]⟩:St)) m st_
def L122 (b:LI) (p:Int) (n:Int):bD:=lp1 0 (LP122_0 b p n)
theorem vc122 (b:LI) (p:Int) (n:Int) (K:KA):vcT C122 (L122 b p n) ann122 f122 [.ptr 1000000 0,dI n] [(1000000,.box [.data TBy b,dI p])] .raw K =
 ((Sm TBy b)/\(M.aq b)/\(0<=p)/\(p<=1000000000000000)/\(LD (M.pick b p Z3) fun r1=>(∃m_,True/\cY (s122_0 b p n) (F.fz b p n) (fun v0:Int×Int×LC=>True) (fun e0:Int×LC=>True->(Sm TBy b)/\(M.aq b)/\(0<=e0.1)/\(e0.1<=999000000000000)/\(LD (M.odd b e0.1 n) fun r2=>cond r2.1 ((Sm TBy b)/\(M.aq b)/\(0<=r2.2)/\(r2.2<=1000000000000000)/\(LD (M.pick b r2.2 Z6) fun r3=>((e0.2.length+[(wrap64 (r3.1-Z1),(false,())),(Z1,(false,())),(Z1,(false,()))].length) * 16<=lim)/\K (.own 0 none) [(0,.arr .sh ag (e0.2++[(wrap64 (r3.1-Z1),(false,())),(Z1,(false,())),(Z1,(false,()))])),(1000000,.box [.data TBy b,dI r3.2])])) (K (.own 0 none) [(0,.arr .sh ag e0.2),(1000000,.box [.data TBy b,dI r2.2])]))) m_ (s122_0 b p n (wrap64 (Z1+r1.1),r1.2,[]))))):=by kernel_rfl
theorem lvc122_0 (b:LI) (p:Int) (n:Int)  (v0:Int×Int×LC) (m:Nat) (K:KX):lvT C122 (L122 b p n) ann122 f122 0 0 (s122_0 b p n v0) m K =
 (cond (decide (Z0<v0.1)) (((Sm TBy b)/\(M.aq b)/\(0<=v0.2.1)/\(v0.2.1<=1000000000000000)/\(LD (M.pick b v0.2.1 Z4) fun r4=>(0<=r4.1)/\(r4.1<([Z1,Z1,Z2,Z3].length:Int))/\Q0 ((Sm TBy b)/\(M.aq b)/\(0<=r4.2)/\(r4.2<=1000000000000000)/\(LD (M.pick b r4.2 Z3) fun r5=>((v0.2.2.length+[((nI [Z1,Z1,Z2,Z3] r4.1),((decide (Z0<r5.1)),()))].length) * 16<=lim)/\(nxT (LP122_0 b p n) m K (s122_0 b p n (wrap64 (v0.1-Z1),r5.2,(v0.2.2++[((nI [Z1,Z1,Z2,Z3] r4.1),((decide (Z0<r5.1)),()))]))))))))/\((Sm TBy b)/\(M.aq b)/\(0<=v0.2.1)/\(v0.2.1<=1000000000000000)/\(LD (M.pick b v0.2.1 Z4) fun r4=>((0<=r4.1)/\(r4.1<([Z1,Z1,Z2,Z3].length:Int))/\Q0 ((Sm TBy b)/\(M.aq b)/\(0<=r4.2)/\(r4.2<=1000000000000000)/\(LD (M.pick b r4.2 Z3) fun r5=>((v0.2.2.length+[((nI [Z1,Z1,Z2,Z3] r4.1),((decide (Z0<r5.1)),()))].length) * 16<=lim)/\(nxT (LP122_0 b p n) m K (s122_0 b p n (wrap64 (v0.1-Z1),r5.2,(v0.2.2++[((nI [Z1,Z1,Z2,Z3] r4.1),((decide (Z0<r5.1)),()))])))))))/\((Sm TBy b)/\(M.aq b)/\(0<=r4.2)/\(r4.2<=1000000000000000)/\(LD (M.pick b r4.2 Z3) fun r5=>(0<=r4.1)/\(r4.1<([Z1,Z1,Z2,Z3].length:Int))/\((v0.2.2.length+[((nI [Z1,Z1,Z2,Z3] r4.1),((decide (Z0<r5.1)),()))].length) * 16<=lim)/\(nxT (LP122_0 b p n) m K (s122_0 b p n (wrap64 (v0.1-Z1),r5.2,(v0.2.2++[((nI [Z1,Z1,Z2,Z3] r4.1),((decide (Z0<r5.1)),()))]))))))))) (K (.exit 0) (⟨[(0,.ptr 1000000 0),(1,dI n),(5,.own 7 none)],[(1000000,.box [.data TBy b,dI v0.2.1]),(7,.arr .sh ag v0.2.2)]⟩:St))):=by kernel_rfl
theorem con122_ok:aT P 122 c122:=aZ C122 func122 (kC con76_ok (kC con92_ok kN)) fun args hp K h0=>by
 unfold c122 at h0
 dsimp only at h0
 obtain⟨b,p,rfl,h00⟩:=fc h0
 obtain⟨a0,a1,rfl,_,h1⟩:=bO h00
 obtain⟨rfl,h2⟩:=dn h1
 obtain⟨n,rfl,h3⟩:=bt h2
 obtain⟨h_b,p0,p1,p2,hK⟩:=h3
 have h:ok (F.fM b p n) (fun r=>K (.own 0 none) [(0,.arr .sh ag r.1),(1000000,.box [.data TBy b,dI r.2])]):=az (F.rQ b p n h_b p0 p1 p2) (hK _ rfl)
 refine⟨rfl,ann122,(L122 b p n),.raw,(bH (i0:=0) (by kernel_rfl) ?_),?_⟩
 ·rintro _ _ K ⟨hc0,v0,rfl,hv0,h⟩
  exact cast (lvc122_0 _ _ _ _ _ _).symm (cj h (fun m1 hm0 h=>(oC h (fun _ h=>((fun(g1_0:M.aq b)=>(fun(g1_1:0<=v0.2.1)=>(fun(g1_2:v0.2.1<=1000000000000000)=>(fun(g1_3:0<=(M.pick b v0.2.1 Z4).1)=>(fun(g1_4:(M.pick b v0.2.1 Z4).1<([Z1,Z1,Z2,Z3].length:Int))=>(fun(g1_5:0<=(M.pick b v0.2.1 Z4).2)=>(fun(g1_6:(M.pick b v0.2.1 Z4).2<=1000000000000000)=>(fun(g1_7:(v0.2.2.length+[((nI [Z1,Z1,Z2,Z3] (M.pick b v0.2.1 Z4).1),((decide (Z0<(M.pick b (M.pick b v0.2.1 Z4).2 Z3).1)),()))].length) * 16<=lim)=>⟨⟨h_b,⟨g1_0,have g1:=g1_0;⟨g1_1,have g2:=g1_1;⟨g1_2,have g3:=g1_2;(fun r4 er4=>(have g4:0<=r4.1:=(by rw[er4];exact g1_3);⟨g4,(have g5:r4.1<([Z1,Z1,Z2,Z3].length:Int):=(by rw[er4];exact g1_4);⟨g5,(q0 (⟨h_b,⟨g1,(have g6:0<=r4.2:=(by rw[er4];exact g1_5);⟨g6,(have g7:r4.2<=1000000000000000:=(by rw[er4];exact g1_6);⟨g7,(fun r5 er5=>(have g8:(v0.2.2.length+[((nI [Z1,Z1,Z2,Z3] r4.1),((decide (Z0<r5.1)),()))].length) * 16<=lim:=(by rw[er5,er4];exact g1_7);⟨g8,(have h:=(aD (dR (aD (aD (aD (aD (dR (aD (aD (aD h).2).2).2 r4 er4)).2).2).2).2 r5 er5)).2;(bn (fun _ hm=>⟨hc0,hm⟩) hm0 _ rfl trivial h))⟩))⟩)⟩)⟩⟩))⟩)⟩))⟩⟩⟩⟩,⟨h_b,⟨g1_0,have g9:=g1_0;⟨g1_1,have g10:=g1_1;⟨g1_2,have g11:=g1_2;(fun r4 er4=>⟨(have g12:0<=r4.1:=(by rw[er4];exact g1_3);⟨g12,(have g13:r4.1<([Z1,Z1,Z2,Z3].length:Int):=(by rw[er4];exact g1_4);⟨g13,(q0 (⟨h_b,⟨g9,(have g14:0<=r4.2:=(by rw[er4];exact g1_5);⟨g14,(have g15:r4.2<=1000000000000000:=(by rw[er4];exact g1_6);⟨g15,(fun r5 er5=>(have g16:(v0.2.2.length+[((nI [Z1,Z1,Z2,Z3] r4.1),((decide (Z0<r5.1)),()))].length) * 16<=lim:=(by rw[er5,er4];exact g1_7);⟨g16,(have h:=(aD (dR (aD (aD (aD (aD (dR (aD (aD (aD h).2).2).2 r4 er4)).2).2).2).2 r5 er5)).2;(bn (fun _ hm=>⟨hc0,hm⟩) hm0 _ rfl trivial h))⟩))⟩)⟩)⟩⟩))⟩)⟩),⟨h_b,⟨g9,(have g17:0<=r4.2:=(by rw[er4];exact g1_5);⟨g17,(have g18:r4.2<=1000000000000000:=(by rw[er4];exact g1_6);⟨g18,(fun r5 er5=>(have g19:0<=r4.1:=(by rw[er4];exact g1_3);⟨g19,(have g20:r4.1<([Z1,Z1,Z2,Z3].length:Int):=(by rw[er4];exact g1_4);⟨g20,(have g21:(v0.2.2.length+[((nI [Z1,Z1,Z2,Z3] r4.1),((decide (Z0<r5.1)),()))].length) * 16<=lim:=(by rw[er5,er4];exact g1_7);⟨g21,(have h:=(aD (dR (aD (aD (aD (aD (dR (aD (aD (aD h).2).2).2 r4 er4)).2).2).2).2 r5 er5)).2;(bn (fun _ hm=>⟨hc0,hm⟩) hm0 _ rfl trivial h))⟩)⟩)⟩))⟩)⟩)⟩⟩⟩)⟩⟩⟩⟩⟩) (aD (dR (aD (aD (aD (aD (dR (aD (aD (aD h).2).2).2 _ rfl)).2).2).2).2 _ rfl)).1) (aD (aD (aD (aD (dR (aD (aD (aD h).2).2).2 _ rfl)).2).2).2).1) (aD (aD (aD (dR (aD (aD (aD h).2).2).2 _ rfl)).2).2).1) (aD (aD (dR (aD (aD (aD h).2).2).2 _ rfl)).2).1) (aD (dR (aD (aD (aD h).2).2).2 _ rfl)).1) (aD (aD (aD h).2).2).1) (aD (aD h).2).1) (aD h).1)) fun _ h=>((bX h :) trivial))))
 ·rw[vc122]
  exact⟨h_b,⟨p0,⟨p1,(oG h fun _ h=>(oL h fun _ _ h=>(bK (fun m hm=>⟨trivial,hm⟩) _ rfl trivial (eG h (fun e0 h hv0=>⟨h_b,⟨p0,(oG h fun _ h=>(oG h fun _ h=>(oL h fun _ _ h=>(oC h (fun _ h=>⟨h_b,⟨p0,(oG h fun _ h=>(oG h fun _ h=>(oL h fun _ _ h=>(oG h fun _ h=>h))))⟩⟩) fun _ h=>h))))⟩⟩)))))⟩⟩⟩
def c124:Con:=⟨[.any,.dat ag],fun args hp K=>hpR (fun b p=>args2 (fun a0 a1=>mc a0 (fy ag a1 fun c=>(Sm TBy b)/\(M.aq b)/\(0<=p)/\(p<=998000000000000)/\(LD (M.jD b p c) fun r=>K (.data aa r.1) [(1000000,.box [.data TBy b,dI r.2])]))) args []) hp,.plain,true⟩
abbrev C124:Ctx:=cx [(76,c76)] 31 [] 0 false
def ann124:=an [[.fixRow 3 ag,kp 25],[kp 2073],[kp 16],[kp 16401],[kp 49169],[kp 16],[kp 1048593],[kp 16],[kp 16]] []
theorem vc124 (b:LI) (p:Int) (c:ag.D) (K:KA):vcT C124 ay ann124 f124 [.ptr 1000000 0,.data ag c] [(1000000,.box [.data TBy b,dI p])] (.dat aa) K =
 (cond (c.2.1==true) ((Sm TBy b)/\(M.aq b)/\(0<=p)/\(p<=1000000000000000)/\(LD (M.pick b p Z5) fun r1=>cond (decide (r1.1=Z0)) (K (.data aa (Z0,(Z0,((⟨#[]⟩:ByteArray),())))) [(1000000,.box [.data TBy b,dI r1.2])]) (cond (decide (c.1=Z1)) ((Sm TBy b)/\(M.aq b)/\(0<=r1.2)/\(r1.2<=1000000000000000)/\(LD (M.pick b r1.2 Z4) fun r2=>K (.data aa (Z1,(r2.1,((⟨#[]⟩:ByteArray),())))) [(1000000,.box [.data TBy b,dI r2.2])])) (cond (decide (c.1=Z2)) ((Sm TBy b)/\(M.aq b)/\(0<=r1.2)/\(r1.2<=1000000000000000)/\(LD (M.pick b r1.2 Z4) fun r3=>(0<=r3.1)/\(r3.1<([(⟨#[]⟩:ByteArray),(⟨#[97]⟩:ByteArray),(⟨#[98]⟩:ByteArray),(⟨#[97,98]⟩:ByteArray)].length:Int))/\K (.data aa (Z2,(Z0,((nth (t:=Ty.str) [(⟨#[]⟩:ByteArray),(⟨#[97]⟩:ByteArray),(⟨#[98]⟩:ByteArray),(⟨#[97,98]⟩:ByteArray)] r3.1),())))) [(1000000,.box [.data TBy b,dI r3.2])])) ((Sm TBy b)/\(M.aq b)/\(0<=r1.2)/\(r1.2<=1000000000000000)/\(LD (M.pick b r1.2 Z2) fun r4=>K (.data aa (Z3,(r4.1,((⟨#[]⟩:ByteArray),())))) [(1000000,.box [.data TBy b,dI r4.2])])))))) (cond (decide (c.1=Z1)) ((Sm TBy b)/\(M.aq b)/\(0<=p)/\(p<=1000000000000000)/\(LD (M.pick b p Z4) fun r2=>K (.data aa (Z1,(r2.1,((⟨#[]⟩:ByteArray),())))) [(1000000,.box [.data TBy b,dI r2.2])])) (cond (decide (c.1=Z2)) ((Sm TBy b)/\(M.aq b)/\(0<=p)/\(p<=1000000000000000)/\(LD (M.pick b p Z4) fun r3=>(0<=r3.1)/\(r3.1<([(⟨#[]⟩:ByteArray),(⟨#[97]⟩:ByteArray),(⟨#[98]⟩:ByteArray),(⟨#[97,98]⟩:ByteArray)].length:Int))/\K (.data aa (Z2,(Z0,((nth (t:=Ty.str) [(⟨#[]⟩:ByteArray),(⟨#[97]⟩:ByteArray),(⟨#[98]⟩:ByteArray),(⟨#[97,98]⟩:ByteArray)] r3.1),())))) [(1000000,.box [.data TBy b,dI r3.2])])) ((Sm TBy b)/\(M.aq b)/\(0<=p)/\(p<=1000000000000000)/\(LD (M.pick b p Z2) fun r4=>K (.data aa (Z3,(r4.1,((⟨#[]⟩:ByteArray),())))) [(1000000,.box [.data TBy b,dI r4.2])]))))):=by kernel_rfl
theorem con124_ok:aT P 124 c124:=aZ C124 func124 (kC con76_ok kN) fun args hp K h0=>by
 unfold c124 at h0
 dsimp only at h0
 obtain⟨b,p,rfl,h00⟩:=fc h0
 obtain⟨a0,a1,rfl,_,h1⟩:=bO h00
 obtain⟨rfl,h2⟩:=dn h1
 obtain⟨c,rfl,h3⟩:=bt h2
 obtain⟨h_b,p0,p1,p2,hK⟩:=h3
 have h:ok (F.iO b p c) (fun r=>K (.data aa r.1) [(1000000,.box [.data TBy b,dI r.2])]):=az (F.wV b p c h_b p0 p1 p2) (hK _ rfl)
 refine⟨rfl,ann124,ay,(.dat aa),(aG (by kernel_rfl)),?_⟩
 ·rw[vc124]
  exact(oC h (fun _ h=>⟨h_b,⟨p0,⟨p1,(oG h fun _ h=>(oL h fun _ _ h=>(oC h (fun _ h=>h) fun _ h=>(oC h (fun _ h=>⟨h_b,⟨p0,(oG h fun _ h=>(oG h fun _ h=>(oL h fun _ _ h=>h)))⟩⟩) fun _ h=>(oC h (fun _ h=>⟨h_b,⟨p0,(oG h fun _ h=>(oG h fun _ h=>(oL h fun _ _ h=>(oG h fun _ h=>(oG h fun _ h=>h)))))⟩⟩) fun _ h=>⟨h_b,⟨p0,(oG h fun _ h=>(oG h fun _ h=>(oL h fun _ _ h=>h)))⟩⟩)))))⟩⟩⟩) fun _ h=>(oC h (fun _ h=>⟨h_b,⟨p0,⟨p1,(oG h fun _ h=>(oL h fun _ _ h=>h))⟩⟩⟩) fun _ h=>(oC h (fun _ h=>⟨h_b,⟨p0,⟨p1,(oG h fun _ h=>(oL h fun _ _ h=>(oG h fun _ h=>(oG h fun _ h=>h))))⟩⟩⟩) fun _ h=>⟨h_b,⟨p0,⟨p1,(oG h fun _ h=>(oL h fun _ _ h=>h))⟩⟩⟩)))
def c144:Con:=⟨[.any,.dat aE],fun args hp K=>hpR (fun b p=>args2 (fun a0 a1=>mc a0 (fy aE a1 fun n=>(Sm TBy b)/\(M.aq b)/\(0<=p)/\(p<=998000000000000)/\(LD (M.eM b p n) fun r=>K (.data aa r.1) [(1000000,.box [.data TBy b,dI r.2])]))) args []) hp,.plain,true⟩
abbrev C144:Ctx:=cx [(76,c76),(92,c92)] 77 [] 0 false
def ann144:=an [[kp 19],[kp 51],[kp 563],[kp 51],[kp 8755],[kp 33331],[kp 33331],[kp 33331],[kp 51],[kp 33554483],[kp 51],[kp 4294967859],[kp 4294967347],[kp 51],[kp 115],[kp 549755814003],[kp 115],[kp 115],[.keep [0,4,5,54]],[.keep [0,4,5,56]],[kp 48],[kp 2377900603251621937],[kp 48],[kp 18518801667747479601],[kp 48],[.keep [0,4,5,70]],[kp 48],[kp 16]] [[kp 51],[kp 51]]
abbrev s144_0 (b:LI) (p:Int) (n:Int) (c0_0:Int) (c0_1:Int) (v0:Unit):St:=⟨[(0,.ptr 1000000 0),(1,dI n),(4,.ptr 4 0),(5,.ptr 5 0),(9,dI c0_0)],[(1000000,.box [.data TBy b,dI c0_1]),(4,.box [dI Z0,dI Z0,.data Ty.str (⟨#[]⟩:ByteArray)]),(5,.box [dI Z0,dI Z0,.data Ty.str (⟨#[]⟩:ByteArray)])]⟩
abbrev LP144_0 (b:LI) (p:Int) (n:Int) (m:Nat) (st_:St) (K:KX):Prop:=∃c0_0:Int,∃c0_1:Int,True/\cY (s144_0 b p n c0_0 c0_1) (F.gN b p n c0_0 c0_1) (fun v0:Unit=>True) (fun e0:Int×Int×Int×ByteArray=>True->K (.exit 0) (⟨[(0,.ptr 1000000 0),(1,dI n),(4,.ptr 4 0),(5,.ptr 5 0)],[(1000000,.box [.data TBy b,dI e0.1]),(4,.box [dI Z0,dI Z0,.data Ty.str (⟨#[]⟩:ByteArray)]),(5,.box [dI e0.2.1,dI e0.2.2.1,.data Ty.str e0.2.2.2])]⟩:St)) m st_
abbrev s144_1 (b:LI) (p:Int) (n:Int) (v1:Int×Int×ByteArray):St:=⟨[(0,.ptr 1000000 0),(1,dI n),(4,.ptr 4 0),(5,.ptr 5 0),(6,dI v1.1)],[(1000000,.box [.data TBy b,dI v1.2.1]),(4,.box [dI Z0,dI Z0,.data Ty.str (⟨#[]⟩:ByteArray)]),(5,.box [dI Z2,dI Z0,.data Ty.str v1.2.2])]⟩
abbrev LP144_1 (b:LI) (p:Int) (n:Int) (m:Nat) (st_:St) (K:KX):Prop:=True/\cY (s144_1 b p n) (F.dU b p n) (fun v1:Int×Int×ByteArray=>True) (fun e1:Int×ByteArray=>True->K (.exit 1) (⟨[(0,.ptr 1000000 0),(1,dI n),(4,.ptr 4 0),(5,.ptr 5 0)],[(1000000,.box [.data TBy b,dI e1.1]),(4,.box [dI Z0,dI Z0,.data Ty.str (⟨#[]⟩:ByteArray)]),(5,.box [dI Z2,dI Z0,.data Ty.str e1.2])]⟩:St)) m st_
def L144 (b:LI) (p:Int) (n:Int):bD:=lp2 0 (LP144_0 b p n) 1 (LP144_1 b p n)
theorem vc144 (b:LI) (p:Int) (n:Int) (K:KA):vcT C144 (L144 b p n) ann144 (rW [(1000000,true)] f144) [.ptr 1000000 0,dI n] [(1000000,.box [.data TBy b,dI p])] (.dat aa) K =
 ((Sm TBy b)/\(M.aq b)/\(0<=p)/\(p<=1000000000000000)/\(LD (M.pick b p (7:Int)) fun r1=>(∃m_,∃c0_0:Int,∃c0_1:Int,True/\cY (s144_0 b p n c0_0 c0_1) (F.gN b p n c0_0 c0_1) (fun v0:Unit=>True) (fun e0:Int×Int×Int×ByteArray=>True->(Sm TBy b)/\(M.aq b)/\(0<=e0.1)/\(e0.1<=999000000000000)/\(LD (M.odd b e0.1 n) fun r2=>cond r2.1 ((Sm TBy b)/\(M.aq b)/\(0<=r2.2)/\(r2.2<=1000000000000000)/\(LD (M.pick b r2.2 Z4) fun r3=>cond (decide (r3.1=Z0)) (K (.data aa (e0.2.1,((10000:Int),(e0.2.2.2,())))) [(1000000,.box [.data TBy b,dI r3.2])]) (cond (decide (r3.1=Z1)) ((e0.2.2.2.size+(⟨#[97,98,99,100,101,102,103]⟩:ByteArray).size<=9223372036854775807)/\K (.data aa (e0.2.1,(e0.2.2.1,((e0.2.2.2++(⟨#[97,98,99,100,101,102,103]⟩:ByteArray)),())))) [(1000000,.box [.data TBy b,dI r3.2])]) (cond (decide (r3.1=Z2)) ((Sm TBy b)/\(M.aq b)/\(0<=r3.2)/\(r3.2<=1000000000000000)/\(LD (M.pick b r3.2 (7:Int)) fun r4=>K (.data aa (wrap64 (r4.1-Z1),(e0.2.2.1,(e0.2.2.2,())))) [(1000000,.box [.data TBy b,dI r4.2])])) ((e0.2.2.2.size+(⟨#[65]⟩:ByteArray).size<=9223372036854775807)/\K (.data aa (e0.2.1,(e0.2.2.1,((e0.2.2.2++(⟨#[65]⟩:ByteArray)),())))) [(1000000,.box [.data TBy b,dI r3.2])]))))) (K (.data aa (e0.2.1,(e0.2.2.1,(e0.2.2.2,())))) [(1000000,.box [.data TBy b,dI r2.2])]))) m_ (s144_0 b p n r1.1 r1.2 ())))):=by kernel_rfl
abbrev S144l0_0 (b:LI) (p:Int) (n:Int) (c0_0:Int) (c0_1:Int) (v0:Unit) (m:Nat) (K:KX):Prop:=(Sm TBy b)/\(M.aq b)/\(0<=c0_1)/\(c0_1<=1000000000000000)/\(LD (M.pick b c0_1 (7:Int)) fun r5=>(Sm TBy b)/\(M.aq b)/\(0<=r5.2)/\(r5.2<=1000000000000000)/\(LD (M.pick b r5.2 (8:Int)) fun r6=>cond (decide (r6.1=Z0)) ((Sm TBy b)/\(M.aq b)/\(0<=r6.2)/\(r6.2<=1000000000000000)/\(LD (M.pick b r6.2 Z5) fun r7=>(0<=r7.1)/\(r7.1<([(9999:Int),(-9999:Int),(255:Int),(256:Int),(-256:Int)].length:Int))/\K (.exit 0) (⟨[(0,.ptr 1000000 0),(1,dI n),(4,.ptr 4 0),(5,.ptr 5 0)],[(1000000,.box [.data TBy b,dI r7.2]),(4,.box [dI Z0,dI Z0,.data Ty.str (⟨#[]⟩:ByteArray)]),(5,.box [dI Z1,dI (nI [(9999:Int),(-9999:Int),(255:Int),(256:Int),(-256:Int)] r7.1),.data Ty.str (⟨#[]⟩:ByteArray)])]⟩:St))) (K (.exit 0) (⟨[(0,.ptr 1000000 0),(1,dI n),(4,.ptr 4 0),(5,.ptr 5 0)],[(1000000,.box [.data TBy b,dI r6.2]),(4,.box [dI Z0,dI Z0,.data Ty.str (⟨#[]⟩:ByteArray)]),(5,.box [dI Z1,dI (wrap64 (r5.1-Z3)),.data Ty.str (⟨#[]⟩:ByteArray)])]⟩:St))))
abbrev S144l0_1 (b:LI) (p:Int) (n:Int) (c0_0:Int) (c0_1:Int) (v0:Unit) (m:Nat) (K:KX):Prop:=(Sm TBy b)/\(M.aq b)/\(0<=c0_1)/\(c0_1<=1000000000000000)/\(LD (M.pick b c0_1 Z4) fun r8=>(∃m_,True/\cY (s144_1 b p n) (F.dU b p n) (fun v1:Int×Int×ByteArray=>True) (fun e1:Int×ByteArray=>True->K (.exit 0) (⟨[(0,.ptr 1000000 0),(1,dI n),(4,.ptr 4 0),(5,.ptr 5 0)],[(1000000,.box [.data TBy b,dI e1.1]),(4,.box [dI Z0,dI Z0,.data Ty.str (⟨#[]⟩:ByteArray)]),(5,.box [dI Z2,dI Z0,.data Ty.str e1.2])]⟩:St)) m_ (s144_1 b p n (r8.1,r8.2,(⟨#[]⟩:ByteArray)))))
abbrev S144l0_2 (b:LI) (p:Int) (n:Int) (c0_0:Int) (c0_1:Int) (v0:Unit) (m:Nat) (K:KX):Prop:=(Sm TBy b)/\(M.aq b)/\(0<=c0_1)/\(c0_1<=1000000000000000)/\(LD (M.pick b c0_1 Z2) fun r9=>K (.exit 0) (⟨[(0,.ptr 1000000 0),(1,dI n),(4,.ptr 4 0),(5,.ptr 5 0)],[(1000000,.box [.data TBy b,dI r9.2]),(4,.box [dI Z0,dI Z0,.data Ty.str (⟨#[]⟩:ByteArray)]),(5,.box [dI Z3,dI r9.1,.data Ty.str (⟨#[]⟩:ByteArray)])]⟩:St))
abbrev S144l0_3 (b:LI) (p:Int) (n:Int) (c0_0:Int) (c0_1:Int) (v0:Unit) (m:Nat) (K:KX):Prop:=cond (decide (c0_0=Z4)) (cond (decide (c0_0=Z4)) (S144l0_1  b p n c0_0 c0_1 v0 m K) (S144l0_2  b p n c0_0 c0_1 v0 m K)) (cond (decide (c0_0=Z5)) (S144l0_1  b p n c0_0 c0_1 v0 m K) (S144l0_2  b p n c0_0 c0_1 v0 m K))
theorem lvc144_0 (b:LI) (p:Int) (n:Int) (c0_0:Int) (c0_1:Int) (v0:Unit) (m:Nat) (K:KX):lvT C144 (L144 b p n) ann144 (rW [(1000000,true)] f144) 0 0 (s144_0 b p n c0_0 c0_1 v0) m K =
 (cond (decide (c0_0=Z0)) (K (.exit 0) (⟨[(0,.ptr 1000000 0),(1,dI n),(4,.ptr 4 0),(5,.ptr 5 0)],[(1000000,.box [.data TBy b,dI c0_1]),(4,.box [dI Z0,dI Z0,.data Ty.str (⟨#[]⟩:ByteArray)]),(5,.box [dI Z0,dI Z0,.data Ty.str (⟨#[]⟩:ByteArray)])]⟩:St)) (cond (decide (c0_0=Z1)) (cond (decide (c0_0=Z1)) (S144l0_0  b p n c0_0 c0_1 v0 m K) (S144l0_3  b p n c0_0 c0_1 v0 m K)) (cond (decide (c0_0=Z2)) (cond (decide (c0_0=Z2)) (S144l0_0  b p n c0_0 c0_1 v0 m K) (S144l0_3  b p n c0_0 c0_1 v0 m K)) (cond (decide (c0_0=Z3)) (S144l0_0  b p n c0_0 c0_1 v0 m K) (S144l0_3  b p n c0_0 c0_1 v0 m K))))):=by kernel_rfl
theorem lvc144_1 (b:LI) (p:Int) (n:Int)  (v1:Int×Int×ByteArray) (m:Nat) (K:KX):lvT C144 (L144 b p n) ann144 (rW [(1000000,true)] f144) 1 1 (s144_1 b p n v1) m K =
 (cond (decide (Z0<v1.1)) (((Sm TBy b)/\(M.aq b)/\(0<=v1.2.1)/\(v1.2.1<=1000000000000000)/\(LD (M.pick b v1.2.1 Z3) fun r10=>(v1.2.2.size+(strOf [((wrap64 ((97:Int)+r10.1)) % 256)]).size<=9223372036854775807)/\(nxT (LP144_1 b p n) m K (s144_1 b p n (wrap64 (v1.1-Z1),r10.2,(v1.2.2++(strOf [((wrap64 ((97:Int)+r10.1)) % 256)])))))))/\((Sm TBy b)/\(M.aq b)/\(0<=v1.2.1)/\(v1.2.1<=1000000000000000)/\(LD (M.pick b v1.2.1 Z3) fun r10=>Q4 ((v1.2.2.size+(strOf [((wrap64 ((97:Int)+r10.1)) % 256)]).size<=9223372036854775807)/\(nxT (LP144_1 b p n) m K (s144_1 b p n (wrap64 (v1.1-Z1),r10.2,(v1.2.2++(strOf [((wrap64 ((97:Int)+r10.1)) % 256)]))))))))) (K (.exit 1) (⟨[(0,.ptr 1000000 0),(1,dI n),(4,.ptr 4 0),(5,.ptr 5 0)],[(1000000,.box [.data TBy b,dI v1.2.1]),(4,.box [dI Z0,dI Z0,.data Ty.str (⟨#[]⟩:ByteArray)]),(5,.box [dI Z2,dI Z0,.data Ty.str v1.2.2])]⟩:St))):=by kernel_rfl
theorem con144_ok:aT P 144 c144:=Hw [(1000000,true)] C144 func144 (kC con76_ok (kC con92_ok kN)) fun args hp K h0=>by
 unfold c144 at h0
 dsimp only at h0
 obtain⟨b,p,rfl,h00⟩:=fc h0
 obtain⟨a0,a1,rfl,_,h1⟩:=bO h00
 obtain⟨rfl,h2⟩:=dn h1
 obtain⟨n,rfl,h3⟩:=bt h2
 obtain⟨h_b,p0,p1,p2,hK⟩:=h3
 have h:ok (F.ic b p n) (fun r=>K (.data aa r.1) [(1000000,.box [.data TBy b,dI r.2])]):=az (F.uF b p n h_b p0 p1 p2) (hK _ rfl)
 refine⟨rfl,ann144,(L144 b p n),(.dat aa),(qW (i0:=0) (i1:=1) (by kernel_rfl) ?_ ?_),?_⟩
 ·rintro _ _ K ⟨c0_0,c0_1,hc0,v0,rfl,hv0,h⟩
  exact cast (lvc144_0 _ _ _ _ _ _ _ _).symm (cj h (fun m1 hm0 h=>(oC h (fun _ h=>((bX h :) trivial)) fun _ h=>(oC h (fun b_3 h=>(bC b_3 ⟨h_b,(oG h fun g1 h=>(oG h fun _ h=>(oG h fun _ h=>(oL h fun _ _ h=>⟨h_b,⟨g1,(oG h fun _ h=>(oG h fun _ h=>(oL h fun _ _ h=>(oC h (fun _ h=>⟨h_b,⟨g1,(oG h fun _ h=>(oG h fun _ h=>(oL h fun _ _ h=>(oG h fun _ h=>(oG h fun _ h=>((bX h :) trivial))))))⟩⟩) fun _ h=>((bX h :) trivial)))))⟩⟩))))⟩)) fun _ h=>(oC h (fun b_51 h=>(bC b_51 ⟨h_b,(oG h fun g2 h=>(oG h fun _ h=>(oG h fun _ h=>(oL h fun _ _ h=>⟨h_b,⟨g2,(oG h fun _ h=>(oG h fun _ h=>(oL h fun _ _ h=>(oC h (fun _ h=>⟨h_b,⟨g2,(oG h fun _ h=>(oG h fun _ h=>(oL h fun _ _ h=>(oG h fun _ h=>(oG h fun _ h=>((bX h :) trivial))))))⟩⟩) fun _ h=>((bX h :) trivial)))))⟩⟩))))⟩)) fun _ h=>(oC h (fun _ h=>⟨h_b,(oG h fun g3 h=>(oG h fun _ h=>(oG h fun _ h=>(oL h fun _ _ h=>⟨h_b,⟨g3,(oG h fun _ h=>(oG h fun _ h=>(oL h fun _ _ h=>(oC h (fun _ h=>⟨h_b,⟨g3,(oG h fun _ h=>(oG h fun _ h=>(oL h fun _ _ h=>(oG h fun _ h=>(oG h fun _ h=>((bX h :) trivial))))))⟩⟩) fun _ h=>((bX h :) trivial)))))⟩⟩))))⟩) fun _ h=>(oC h (fun b_74 h=>(bC b_74 ⟨h_b,(oG h fun _ h=>(oG h fun _ h=>(oG h fun _ h=>(oL h fun _ _ h=>(bK (fun m hm=>⟨trivial,hm⟩) _ rfl trivial (eG h (fun e1 h hv1=>((bX h :) trivial))))))))⟩)) fun _ h=>(oC h (fun _ h=>⟨h_b,(oG h fun _ h=>(oG h fun _ h=>(oG h fun _ h=>(oL h fun _ _ h=>(bK (fun m hm=>⟨trivial,hm⟩) _ rfl trivial (eG h (fun e1 h hv1=>((bX h :) trivial))))))))⟩) fun _ h=>⟨h_b,(oG h fun _ h=>(oG h fun _ h=>(oG h fun _ h=>(oL h fun _ _ h=>((bX h :) trivial)))))⟩))))))))
 ·rintro _ _ K ⟨hc1,v1,rfl,hv1,h⟩
  exact cast (lvc144_1 _ _ _ _ _ _).symm (cj h (fun m1 hm1 h=>(oC h (fun _ h=>((fun(g2_0:M.aq b)=>(fun(g2_1:0<=v1.2.1)=>(fun(g2_2:v1.2.1<=1000000000000000)=>(fun(g2_3:v1.2.2.size+(strOf [((wrap64 ((97:Int)+(M.pick b v1.2.1 Z3).1)) % 256)]).size<=9223372036854775807)=>⟨⟨h_b,⟨g2_0,have g4:=g2_0;⟨g2_1,have g5:=g2_1;⟨g2_2,have g6:=g2_2;(fun r10 er10=>(have g7:v1.2.2.size+(strOf [((wrap64 ((97:Int)+r10.1)) % 256)]).size<=9223372036854775807:=(by rw[er10];exact g2_3);⟨g7,(have h:=(aD (dR (aD (aD (aD h).2).2).2 r10 er10)).2;(bn (fun _ hm=>⟨hc1,hm⟩) hm1 _ rfl trivial h))⟩))⟩⟩⟩⟩,⟨h_b,⟨g2_0,have g8:=g2_0;⟨g2_1,have g9:=g2_1;⟨g2_2,have g10:=g2_2;(fun r10 er10=>(q4 (have g11:v1.2.2.size+(strOf [((wrap64 ((97:Int)+r10.1)) % 256)]).size<=9223372036854775807:=(by rw[er10];exact g2_3);⟨g11,(have h:=(aD (dR (aD (aD (aD h).2).2).2 r10 er10)).2;(bn (fun _ hm=>⟨hc1,hm⟩) hm1 _ rfl trivial h))⟩)))⟩⟩⟩⟩⟩) (aD (dR (aD (aD (aD h).2).2).2 _ rfl)).1) (aD (aD (aD h).2).2).1) (aD (aD h).2).1) (aD h).1)) fun _ h=>((bX h :) trivial))))
 ·rw[vc144]
  exact⟨h_b,⟨p0,⟨p1,(oG h fun _ h=>(oL h fun r1 _ h=>(bK (fun m hm=>⟨r1.1,r1.2,trivial,hm⟩) _ rfl trivial (eG h (fun e0 h hv0=>⟨h_b,⟨p0,(oG h fun _ h=>(oG h fun _ h=>(oL h fun _ _ h=>(oC h (fun _ h=>⟨h_b,⟨p0,(oG h fun _ h=>(oG h fun _ h=>(oL h fun _ _ h=>(oC h (fun _ h=>h) fun _ h=>(oC h (fun _ h=>(oG h fun _ h=>h)) fun _ h=>(oC h (fun _ h=>⟨h_b,⟨p0,(oG h fun _ h=>(oG h fun _ h=>(oL h fun _ _ h=>h)))⟩⟩) fun _ h=>(oG h fun _ h=>h)))))))⟩⟩) fun _ h=>h))))⟩⟩)))))⟩⟩⟩
def c93:Con:=⟨[.any,.lent ag,.dat aE],fun args hp K=>hpR (fun b p=>vT (fun a0 a1 a2=>mc a0 (kL ag a1 fun columns=>fy aE a2 fun n=>(Sm TBy b)/\(Sm TCS columns)/\(M.aq b)/\(0<=p)/\(p<=997000000000000)/\(LD (M.jZ b p columns n) fun r=>K (.own 0 none) [(0,.arr .sh aa r.1),(1000000,.box [.data TBy b,dI r.2])]))) args []) hp,.plain,true⟩
abbrev C93:Ctx:=cx [(76,c76),(92,c92),(124,c124),(144,c144)] 59 [] 0 false
def ann93:=an [[kp 7],[kp 135],[kp 391],[kp 8583],[kp 391],[kp 391],[kp 134217857],[kp 536871041],[kp 128],[kp 550292684929],[kp 128],[.keep [0,7,45]],[.keep [0,7,49]],[kp 128],[kp 64]] [[kp 133]]
abbrev s93_0 (b:LI) (p:Int) (columns:LC) (n:Int) (i0:Int) (v0:Int×LV):St:=⟨[(0,.ptr 1000000 0),(1,.brw ag columns),(2,dI n),(7,.own 9 none),(8,dI i0)],[(1000000,.box [.data TBy b,dI v0.1]),(9,.arr .sh aa v0.2)]⟩
abbrev LP93_0 (b:LI) (p:Int) (columns:LC) (n:Int) (m:Nat) (st_:St) (K:KX):Prop:=True/\bJ (t:=ag) (s93_0 b p columns n) columns (F.iS b p columns n) (fun v0:Int×LV=>True) (bq (fun v0:Int×LV=>True->K (.exit 0) (⟨[(0,.ptr 1000000 0),(2,dI n),(7,.own 9 none)],[(1000000,.box [.data TBy b,dI v0.1]),(9,.arr .sh aa v0.2)]⟩:St)) (fun _=>False)) m st_
def L93 (b:LI) (p:Int) (columns:LC) (n:Int):bD:=lp1 0 (LP93_0 b p columns n)
theorem vc93 (b:LI) (p:Int) (columns:LC) (n:Int) (K:KA):vcT C93 (L93 b p columns n) ann93 f93 [.ptr 1000000 0,.brw ag columns,dI n] [(1000000,.box [.data TBy b,dI p])] .raw K =
 (∃m_,True/\bJ (t:=ag) (s93_0 b p columns n) columns (F.iS b p columns n) (fun v0:Int×LV=>True) (bq (fun v0:Int×LV=>True->(Sm TBy b)/\(M.aq b)/\(0<=v0.1)/\(v0.1<=999000000000000)/\(LD (M.odd b v0.1 n) fun r1=>cond r1.1 ((Sm TBy b)/\(M.aq b)/\(0<=r1.2)/\(r1.2<=1000000000000000)/\(LD (M.pick b r1.2 Z3) fun r2=>cond (decide (r2.1=Z0)) (((v0.2.length+([(Z0,(Z0,((⟨#[]⟩:ByteArray),())))]:List aa.D).length) * 32<=lim)/\K (.own 0 none) [(0,.arr .sh aa (v0.2++[(Z0,(Z0,((⟨#[]⟩:ByteArray),())))])),(1000000,.box [.data TBy b,dI r2.2])]) (cond (decide (r2.1=Z1)) (cond (decide (Z0<(v0.2.length:Int))) ((Sm TBy b)/\(M.aq b)/\(0<=r2.2)/\(r2.2<=1000000000000000)/\(LD (M.pick b r2.2 (v0.2.length:Int)) fun r3=>(Sm TBy b)/\(M.aq b)/\(0<=r3.2)/\(r3.2<=998000000000000)/\(LD (M.eM b r3.2 Z3) fun r4=>(0<=r3.1)/\(r3.1<(v0.2.length:Int))/\K (.own 0 none) [(0,.arr .sh aa (v0.2.set r3.1.toNat r4.1)),(1000000,.box [.data TBy b,dI r4.2])]))) (K (.own 0 none) [(0,.arr .sh aa v0.2),(1000000,.box [.data TBy b,dI r2.2])])) ((Sm TBy b)/\(M.aq b)/\(0<=r2.2)/\(r2.2<=998000000000000)/\(LD (M.eM b r2.2 Z0) fun r5=>(Sm TBy b)/\(M.aq b)/\(0<=r5.2)/\(r5.2<=998000000000000)/\(LD (M.eM b r5.2 Z0) fun r6=>(Sm TBy b)/\(M.aq b)/\(0<=r6.2)/\(r6.2<=998000000000000)/\(LD (M.eM b r6.2 Z0) fun r7=>((v0.2.length+[r5.1,r6.1,r7.1].length) * 32<=lim)/\K (.own 0 none) [(0,.arr .sh aa (v0.2++[r5.1,r6.1,r7.1])),(1000000,.box [.data TBy b,dI r7.2])]))))))) (K (.own 0 none) [(0,.arr .sh aa v0.2),(1000000,.box [.data TBy b,dI r1.2])]))) (fun _=>False)) m_ (s93_0 b p columns n Z0 (p,[]))):=by kernel_rfl
theorem lvc93_0 (b:LI) (p:Int) (columns:LC) (n:Int)  (i0:Int) (v0:Int×LV) (m:Nat) (K:KX):lvT C93 (L93 b p columns n) ann93 f93 0 0 (s93_0 b p columns n i0 v0) m K =
 (cond (decide (i0<(columns.length:Int))) ((0<=i0)/\(i0<(columns.length:Int))/\(Sm TBy b)/\(M.aq b)/\(0<=v0.1)/\(v0.1<=998000000000000)/\(LD (M.jD b v0.1 (nC columns i0)) fun r8=>((v0.2.length+[r8.1].length) * 32<=lim)/\(nxT (LP93_0 b p columns n) m K (s93_0 b p columns n (wrap64 (i0+Z1)) (r8.2,(v0.2++[r8.1])))))) (K (.exit 0) (⟨[(0,.ptr 1000000 0),(2,dI n),(7,.own 9 none)],[(1000000,.box [.data TBy b,dI v0.1]),(9,.arr .sh aa v0.2)]⟩:St))):=by kernel_rfl
theorem con93_ok:aT P 93 c93:=aZ C93 func93 (kC con76_ok (kC con92_ok (kC con124_ok (kC con144_ok kN)))) fun args hp K h0=>by
 unfold c93 at h0
 dsimp only at h0
 obtain⟨b,p,rfl,h00⟩:=fc h0
 obtain⟨a0,a1,a2,rfl,_,h1⟩:=jr h00
 obtain⟨rfl,h2⟩:=dn h1
 obtain⟨columns,rfl,h3⟩:=cW h2
 obtain⟨n,rfl,h4⟩:=bt h3
 obtain⟨h_b,h_columns,p0,p1,p2,hK⟩:=h4
 have h:ok (F.jU b p columns n) (fun r=>K (.own 0 none) [(0,.arr .sh aa r.1),(1000000,.box [.data TBy b,dI r.2])]):=az (F.yj b p columns n h_b h_columns p0 p1 p2) (hK _ rfl)
 refine⟨rfl,ann93,(L93 b p columns n),.raw,(bH (i0:=0) (by kernel_rfl) ?_),?_⟩
 ·rintro _ _ K ⟨hc0,i0,v0,rfl,hl0,rfl,hv0,h⟩
  exact cast (lvc93_0 _ _ _ _ _ _ _ _).symm (aW (t:=ag) hl0 h (fun ht0 h=>⟨hl0,⟨ht0,⟨h_b,(oG h fun _ h=>(oG h fun _ h=>(oG h fun _ h=>(oL h fun _ _ h=>(oG h fun _ h=>(aP (t:=ag) (fun _ hm=>⟨hc0,hm⟩) _ rfl hl0 ht0 (bu h_columns) trivial h))))))⟩⟩⟩) fun h=>(h trivial))
 ·rw[vc93]
  exact(aQ (t:=ag) (fun m hm=>⟨trivial,hm⟩) _ rfl trivial (aU h (fun v0 h hv0=>⟨h_b,⟨p0,(oG h fun _ h=>(oG h fun _ h=>(oL h fun _ _ h=>(oC h (fun _ h=>⟨h_b,⟨p0,(oG h fun _ h=>(oG h fun _ h=>(oL h fun _ _ h=>(oC h (fun _ h=>(oG h fun _ h=>h)) fun _ h=>(oC h (fun _ h=>(oC h (fun _ h=>⟨h_b,⟨p0,(oG h fun _ h=>(oG h fun _ h=>(oL h fun _ _ h=>⟨h_b,⟨p0,(oG h fun _ h=>(oG h fun _ h=>(oL h fun _ _ h=>(oG h fun _ h=>(oG h fun _ h=>h)))))⟩⟩)))⟩⟩) fun _ h=>h)) fun _ h=>⟨h_b,⟨p0,(oG h fun _ h=>(oG h fun _ h=>(oL h fun _ _ h=>⟨h_b,⟨p0,(oG h fun _ h=>(oG h fun _ h=>(oL h fun _ _ h=>⟨h_b,⟨p0,(oG h fun _ h=>(oG h fun _ h=>(oL h fun _ _ h=>(oG h fun _ h=>h))))⟩⟩)))⟩⟩)))⟩⟩)))))⟩⟩) fun _ h=>h))))⟩⟩) (fun _ h=>h.elim)))
def c94:Con:=⟨[.dat TVS],fun args hp K=>g1 (pD TVS) (fun row=>(Sm TVS row)/\(LD row fun r=>K (.own 0 none) [(0,.arr .sh aa r)])) args hp,.bor,false⟩
abbrev C94:Ctx:=cx [] 6 [] 0 false
def ann94:=an [[kp 1],[kp 4]] []
theorem vc94 (row:LV) (K:KA):vcT C94 ay ann94 f94 [.data TVS row] [] .raw K =
 (((([]:List aa.D).length+row.length) * 32<=lim)/\K (.own 0 none) [(0,.arr .sh aa ([]++row))]):=by kernel_rfl
theorem con94_ok:aT P 94 c94:=aZ C94 func94 kN fun args hp K h0=>by
 obtain⟨row,rfl,rfl,h_row,hK⟩:=g1e h0
 have h:ok (F.xG row) (fun r=>K (.own 0 none) [(0,.arr .sh aa r)]):=az (F.zC row h_row) (hK _ rfl)
 refine⟨rfl,ann94,ay,.raw,(aG (by kernel_rfl)),?_⟩
 ·rw[vc94]
  exact⟨(mg (iB aa) h_row rfl),h⟩
def c123:Con:=⟨[.any,.lent ag,.dat aE],fun args hp K=>hpR (fun b p=>vT (fun a0 a1 a2=>mc a0 (kL ag a1 fun c=>fy aE a2 fun n=>(Sm TBy b)/\(Sm TCS c)/\(M.aq b)/\(0<=p)/\(p<=996000000000000)/\(c.length<=6)/\(n=0)/\(LD (M.mG b p c n) fun r=>K (.own 0 none) [(0,.arr .dp TVS r.1),(1000000,.box [.data TBy b,dI r.2])]))) args []) hp,.plain,true⟩
abbrev C123:Ctx:=cx [(76,c76),(93,c93),(94,c94)] 43 [] 0 true
def ann123:=an [[kp 7],[kp 135],[kp 391],[kp 8583],[kp 391],[kp 8388999],[kp 391],[kp 391],[kp 64]] [[kp 128]]
abbrev s123_0 (b:LI) (p:Int) (c:LC) (n:Int) (v0:Int×Int×(List LV)):St:=⟨[(0,.ptr 1000000 0),(1,.brw ag c),(2,dI n),(7,.own 9 none),(8,dI v0.1)],[(1000000,.box [.data TBy b,dI v0.2.1]),(9,.arr .dp TVS v0.2.2)]⟩
abbrev LP123_0 (b:LI) (p:Int) (c:LC) (n:Int) (m:Nat) (st_:St) (K:KX):Prop:=True/\cY (s123_0 b p c n) (F.iP b p c n) (fun v0:Int×Int×(List LV)=>True) (fun e0:Int×(List LV)=>True->K (.exit 0) (⟨[(7,.own 9 none)],[(1000000,.box [.data TBy b,dI e0.1]),(9,.arr .dp TVS e0.2)]⟩:St)) m st_
def L123 (b:LI) (p:Int) (c:LC) (n:Int):bD:=lp1 0 (LP123_0 b p c n)
theorem vc123 (b:LI) (p:Int) (c:LC) (n:Int) (K:KA):vcT C123 (L123 b p c n) ann123 f123 [.ptr 1000000 0,.brw ag c,dI n] [(1000000,.box [.data TBy b,dI p])] .raw K =
 ((Sm TBy b)/\(M.aq b)/\(0<=p)/\(p<=1000000000000000)/\(LD (M.pick b p (7:Int)) fun r1=>(∃m_,True/\cY (s123_0 b p c n) (F.iP b p c n) (fun v0:Int×Int×(List LV)=>True) (fun e0:Int×(List LV)=>True->K (.own 0 none) [(0,.arr .dp TVS e0.2),(1000000,.box [.data TBy b,dI e0.1])]) m_ (s123_0 b p c n (r1.1,r1.2,[]))))):=by kernel_rfl
theorem lvc123_0 (b:LI) (p:Int) (c:LC) (n:Int)  (v0:Int×Int×(List LV)) (m:Nat) (K:KX):lvT C123 (L123 b p c n) ann123 f123 0 0 (s123_0 b p c n v0) m K =
 (cond (decide (Z0<v0.1)) (cond ((decide (Z0<(v0.2.2.length:Int)))==true) ((Sm TBy b)/\(M.aq b)/\(0<=v0.2.1)/\(v0.2.1<=1000000000000000)/\(LD (M.pick b v0.2.1 Z3) fun r2=>cond (decide (r2.1=Z0)) ((Sm TBy b)/\(M.aq b)/\(0<=r2.2)/\(r2.2<=1000000000000000)/\(LD (M.pick b r2.2 (v0.2.2.length:Int)) fun r3=>(0<=r3.1)/\(r3.1<(v0.2.2.length:Int))/\(Sm TVS (nth (t:=TVS) v0.2.2 r3.1))/\(LD (nth (t:=TVS) v0.2.2 r3.1) fun r4=>((v0.2.2.length+[r4].length) * 24<=lim)/\(nxT (LP123_0 b p c n) m K (s123_0 b p c n (wrap64 (v0.1-Z1),r3.2,(v0.2.2++[r4]))))))) ((Sm TBy b)/\(Sm TCS c)/\(M.aq b)/\(0<=r2.2)/\(r2.2<=997000000000000)/\(LD (M.jZ b r2.2 c n) fun r5=>((v0.2.2.length+[r5.1].length) * 24<=lim)/\(nxT (LP123_0 b p c n) m K (s123_0 b p c n (wrap64 (v0.1-Z1),r5.2,(v0.2.2++[r5.1])))))))) ((Sm TBy b)/\(Sm TCS c)/\(M.aq b)/\(0<=v0.2.1)/\(v0.2.1<=997000000000000)/\(LD (M.jZ b v0.2.1 c n) fun r5=>((v0.2.2.length+[r5.1].length) * 24<=lim)/\(nxT (LP123_0 b p c n) m K (s123_0 b p c n (wrap64 (v0.1-Z1),r5.2,(v0.2.2++[r5.1]))))))) (K (.exit 0) (⟨[(7,.own 9 none)],[(1000000,.box [.data TBy b,dI v0.2.1]),(9,.arr .dp TVS v0.2.2)]⟩:St))):=by kernel_rfl
theorem con123_ok:aT P 123 c123:=aZ C123 func123 (kC con76_ok (kC con93_ok (kC con94_ok kN))) fun args hp K h0=>by
 unfold c123 at h0
 dsimp only at h0
 obtain⟨b,p,rfl,h00⟩:=fc h0
 obtain⟨a0,a1,a2,rfl,_,h1⟩:=jr h00
 obtain⟨rfl,h2⟩:=dn h1
 obtain⟨c,rfl,h3⟩:=cW h2
 obtain⟨n,rfl,h4⟩:=bt h3
 obtain⟨h_b,h_c,p0,p1,p2,p3,p4,hK⟩:=h4
 have h:ok (F.jN b p c n) (fun r=>K (.own 0 none) [(0,.arr .dp TVS r.1),(1000000,.box [.data TBy b,dI r.2])]):=az (F.xE b p c n h_b h_c p0 p1 p2 p3 p4) (hK _ rfl)
 refine⟨rfl,ann123,(L123 b p c n),.raw,(bH (i0:=0) (by kernel_rfl) ?_),?_⟩
 ·rintro _ _ K ⟨hc0,v0,rfl,hv0,h⟩
  exact cast (lvc123_0 _ _ _ _ _ _ _).symm (cj h (fun m1 hm0 h=>(oC h (fun _ h=>(oC h (fun _ h=>⟨h_b,(oG h fun g1 h=>(oG h fun _ h=>(oG h fun _ h=>(oL h fun _ _ h=>(oC h (fun _ h=>⟨h_b,⟨g1,(oG h fun _ h=>(oG h fun _ h=>(oL h fun _ _ h=>(oG h fun _ h=>(oG h fun _ h=>(oG h fun _ h=>(oL h fun _ _ h=>(oG h fun _ h=>(bn (fun _ hm=>⟨hc0,hm⟩) hm0 _ rfl trivial h)))))))))⟩⟩) fun _ h=>⟨h_b,⟨h_c,⟨g1,(oG h fun _ h=>(oG h fun _ h=>(oL h fun _ _ h=>(oG h fun _ h=>(bn (fun _ hm=>⟨hc0,hm⟩) hm0 _ rfl trivial h)))))⟩⟩⟩)))))⟩) fun _ h=>⟨h_b,⟨h_c,(oG h fun _ h=>(oG h fun _ h=>(oG h fun _ h=>(oL h fun _ _ h=>(oG h fun _ h=>(bn (fun _ hm=>⟨hc0,hm⟩) hm0 _ rfl trivial h))))))⟩⟩)) fun _ h=>((bX h :) trivial))))
 ·rw[vc123]
  exact⟨h_b,⟨p0,⟨p1,(oG h fun _ h=>(oL h fun _ _ h=>(bK (fun m hm=>⟨trivial,hm⟩) _ rfl trivial (eG h (fun e0 h hv0=>h)))))⟩⟩⟩
def c74:Con:=⟨[.any,.dat aE],fun args hp K=>hpR (fun b p=>args2 (fun a0 a1=>mc a0 (fy aE a1 fun n=>(Sm TBy b)/\(M.aq b)/\(0<=p)/\(p<=995000000000000)/\(LD (M.dK b p n) fun r=>K (.own 0 none) [(0,.arr .dp ax r.1),(1000000,.box [.data TBy b,dI r.2])]))) args []) hp,.plain,true⟩
abbrev C74:Ctx:=cx [(76,c76),(92,c92),(122,c122),(123,c123)] 73 [] 0 true
def ann74:=an [[kp 3],[kp 35],[kp 99],[kp 16483],[kp 99],[kp 227],[kp 227],[.fixRow 8 ax,kp 355],[kp 99],[kp 274877906977],[.keep [5,40]],[kp 32],[.keep [5,40,51]],[kp 32],[.keep [5,59]],[kp 32],[kp 16]] [[kp 35]]
abbrev s74_0 (b:LI) (p:Int) (n:Int) (v0:Int×Int×LTb):St:=⟨[(0,.ptr 1000000 0),(1,dI n),(5,.own 9 none),(6,dI v0.1)],[(1000000,.box [.data TBy b,dI v0.2.1]),(9,.arr .dp ax v0.2.2)]⟩
abbrev LP74_0 (b:LI) (p:Int) (n:Int) (m:Nat) (st_:St) (K:KX):Prop:=True/\cY (s74_0 b p n) (F.gk b p n) (fun v0:Int×Int×LTb=>True) (fun e0:Int×LTb=>True->K (.exit 0) (⟨[(0,.ptr 1000000 0),(1,dI n),(5,.own 9 none)],[(1000000,.box [.data TBy b,dI e0.1]),(9,.arr .dp ax e0.2)]⟩:St)) m st_
def L74 (b:LI) (p:Int) (n:Int):bD:=lp1 0 (LP74_0 b p n)
theorem vc74 (b:LI) (p:Int) (n:Int) (K:KA):vcT C74 (L74 b p n) ann74 f74 [.ptr 1000000 0,dI n] [(1000000,.box [.data TBy b,dI p])] .raw K =
 ((Sm TBy b)/\(M.aq b)/\(0<=p)/\(p<=1000000000000000)/\(LD (M.pick b p Z3) fun r1=>(∃m_,True/\cY (s74_0 b p n) (F.gk b p n) (fun v0:Int×Int×LTb=>True) (fun e0:Int×LTb=>True->(Sm TBy b)/\(M.aq b)/\(0<=e0.1)/\(e0.1<=999000000000000)/\(LD (M.odd b e0.1 n) fun r2=>cond r2.1 ((Sm TBy b)/\(M.aq b)/\(0<=r2.2)/\(r2.2<=1000000000000000)/\(LD (M.pick b r2.2 Z3) fun r3=>cond (decide (r3.1=Z0)) (((e0.2.length+([([],([],())),([],([],())),([],([],()))]:List ax.D).length) * 48<=lim)/\K (.own 0 none) [(0,.arr .dp ax (e0.2++[([],([],())),([],([],())),([],([],()))])),(1000000,.box [.data TBy b,dI r3.2])]) (cond (decide (r3.1=Z1)) ((0<=Z0)/\(Z0<(e0.2.length:Int))/\(((nT e0.2 Z0).2.1.length+([[((9:Int),(Z0,((⟨#[]⟩:ByteArray),())))]]:List TVS.D).length) * 24<=lim)/\(0<=Z0)/\(Z0<((e0.2.set Z0.toNat ((nT e0.2 Z0).1,([],()))).length:Int))/\(Z0=Z0)/\(let y1:LTb:=((e0.2.set Z0.toNat ((nT e0.2 Z0).1,([],()))).set Z0.toNat ((nT (e0.2.set Z0.toNat ((nT e0.2 Z0).1,([],()))) Z0).1,(((nT e0.2 Z0).2.1++[[((9:Int),(Z0,((⟨#[]⟩:ByteArray),())))]]),())));K (.own 0 none) [(0,.arr .dp ax y1),(1000000,.box [.data TBy b,dI r3.2])])) ((0<=Z0)/\(Z0<(e0.2.length:Int))/\(((nT e0.2 Z0).1.length+[(Z1,(false,()))].length) * 16<=lim)/\(0<=Z0)/\(Z0<((e0.2.set Z0.toNat ([],(nT e0.2 Z0).2)).length:Int))/\(Z0=Z0)/\(let y2:LTb:=((e0.2.set Z0.toNat ([],(nT e0.2 Z0).2)).set Z0.toNat (((nT e0.2 Z0).1++[(Z1,(false,()))]),(nT (e0.2.set Z0.toNat ([],(nT e0.2 Z0).2)) Z0).2));K (.own 0 none) [(0,.arr .dp ax y2),(1000000,.box [.data TBy b,dI r3.2])]))))) (K (.own 0 none) [(0,.arr .dp ax e0.2),(1000000,.box [.data TBy b,dI r2.2])]))) m_ (s74_0 b p n (wrap64 (Z1+r1.1),r1.2,[]))))):=by kernel_rfl
theorem lvc74_0 (b:LI) (p:Int) (n:Int)  (v0:Int×Int×LTb) (m:Nat) (K:KX):lvT C74 (L74 b p n) ann74 f74 0 0 (s74_0 b p n v0) m K =
 (cond (decide (Z0<v0.1)) ((Sm TBy b)/\(M.aq b)/\(0<=v0.2.1)/\(v0.2.1<=998000000000000)/\(LD (M.fD b v0.2.1 Z0) fun r4=>(Sm TBy b)/\(M.aq b)/\(0<=r4.2)/\(r4.2<=1000000000000000)/\(LD (M.pick b r4.2 Z2) fun r5=>((r4.1.length:Int)≠0)/\(0<=Z0)/\(Z0<=wrap64 (Z1+(r5.1.tmod (r4.1.length:Int))))/\(wrap64 (Z1+(r5.1.tmod (r4.1.length:Int)))<=(r4.1.length:Int))/\(wrap64 (Z1+(r5.1.tmod (r4.1.length:Int)))=wrap64 (Z1+(r5.1.tmod (r4.1.length:Int))))/\(Sm TBy b)/\(Sm TCS (aB r4.1 (some (Z0,wrap64 (Z1+(r5.1.tmod (r4.1.length:Int)))))))/\(M.aq b)/\(0<=r5.2)/\(r5.2<=996000000000000)/\((aB r4.1 (some (Z0,wrap64 (Z1+(r5.1.tmod (r4.1.length:Int)))))).length<=6)/\(Z0=0)/\(LD (M.mG b r5.2 (aB r4.1 (some (Z0,wrap64 (Z1+(r5.1.tmod (r4.1.length:Int)))))) Z0) fun r6=>((v0.2.2.length+[((aB r4.1 (some (Z0,wrap64 (Z1+(r5.1.tmod (r4.1.length:Int)))))),(r6.1,()))].length) * 48<=lim)/\(nxT (LP74_0 b p n) m K (s74_0 b p n (wrap64 (v0.1-Z1),r6.2,(v0.2.2++[((aB r4.1 (some (Z0,wrap64 (Z1+(r5.1.tmod (r4.1.length:Int)))))),(r6.1,()))])))))))) (K (.exit 0) (⟨[(0,.ptr 1000000 0),(1,dI n),(5,.own 9 none)],[(1000000,.box [.data TBy b,dI v0.2.1]),(9,.arr .dp ax v0.2.2)]⟩:St))):=by kernel_rfl
theorem con74_ok:aT P 74 c74:=aZ C74 func74 (kC con76_ok (kC con92_ok (kC con122_ok (kC con123_ok kN)))) fun args hp K h0=>by
 unfold c74 at h0
 dsimp only at h0
 obtain⟨b,p,rfl,h00⟩:=fc h0
 obtain⟨a0,a1,rfl,_,h1⟩:=bO h00
 obtain⟨rfl,h2⟩:=dn h1
 obtain⟨n,rfl,h3⟩:=bt h2
 obtain⟨h_b,p0,p1,p2,hK⟩:=h3
 have h:ok (F.gC b p n) (fun r=>K (.own 0 none) [(0,.arr .dp ax r.1),(1000000,.box [.data TBy b,dI r.2])]):=az (F.uf b p n h_b p0 p1 p2) (hK _ rfl)
 refine⟨rfl,ann74,(L74 b p n),.raw,(bH (i0:=0) (by kernel_rfl) ?_),?_⟩
 ·rintro _ _ K ⟨hc0,v0,rfl,hv0,h⟩
  exact cast (lvc74_0 _ _ _ _ _ _).symm (cj h (fun m1 hm0 h=>(oC h (fun _ h=>⟨h_b,(oG h fun g1 h=>(oG h fun _ h=>(oG h fun _ h=>(oL h fun _ _ h=>⟨h_b,⟨g1,(oG h fun _ h=>(oG h fun _ h=>(oL h fun _ _ h=>(oG h fun _ h=>⟨(Int.natCast_nonneg 0),(oG h fun _ h=>(oG h fun _ h=>⟨rfl,⟨h_b,(oG h fun _ h=>⟨g1,(oG h fun _ h=>(oG h fun _ h=>(oG h fun _ h=>(oG h fun _ h=>(oL h fun _ _ h=>(oG h fun _ h=>(bn (fun _ hm=>⟨hc0,hm⟩) hm0 _ rfl trivial h)))))))⟩)⟩⟩))⟩))))⟩⟩))))⟩) fun _ h=>((bX h :) trivial))))
 ·rw[vc74]
  exact⟨h_b,⟨p0,⟨p1,(oG h fun _ h=>(oL h fun _ _ h=>(bK (fun m hm=>⟨trivial,hm⟩) _ rfl trivial (eG h (fun e0 h hv0=>⟨h_b,⟨p0,(oG h fun _ h=>(oG h fun _ h=>(oL h fun _ _ h=>(oC h (fun _ h=>⟨h_b,⟨p0,(oG h fun _ h=>(oG h fun _ h=>(oL h fun _ _ h=>(oC h (fun _ h=>(oG h fun _ h=>h)) fun _ h=>(oC h (fun _ h=>⟨(Int.natCast_nonneg 0),(oG h fun _ h=>(oG h fun _ h=>⟨(Int.natCast_nonneg 0),(oG h fun _ h=>⟨rfl,(have h:=dR h _ rfl;h)⟩)⟩))⟩) fun _ h=>⟨(Int.natCast_nonneg 0),(oG h fun _ h=>(oG h fun _ h=>⟨(Int.natCast_nonneg 0),(oG h fun _ h=>⟨rfl,(have h:=dR h _ rfl;h)⟩)⟩))⟩)))))⟩⟩) fun _ h=>h))))⟩⟩)))))⟩⟩⟩
def c77:Con:=⟨[.any,.dat TCS,.dat aE],fun args hp K=>hpR (fun b p=>vT (fun a0 a1 a2=>mc a0 (fy TCS a1 fun columns=>fy aE a2 fun kind=>(Sm TBy b)/\(Sm TCS columns)/\(M.aq b)/\(0<=p)/\(p<=997000000000000)/\(LD (M.dw b p columns kind) fun r=>K (.data aC r.1) [(1000000,.box [.data TBy b,dI r.2])]))) args []) hp,.plain,true⟩
abbrev C77:Ctx:=cx [(76,c76),(124,c124)] 41 [] 0 false
def ann77:=an [[kp 71],[kp 199],[kp 32967],[kp 199],[kp 455],[kp 8589935047],[kp 64],[kp 64]] [[kp 69]]
abbrev s77_0 (b:LI) (p:Int) (columns:LC) (kind:Int) (v0:Int×Int):St:=⟨[(0,.ptr 1000000 0),(1,.data TCS columns),(2,dI kind),(6,.ptr 6 0),(7,dI v0.1)],[(1000000,.box [.data TBy b,dI v0.2]),(6,.box [dI Z0,dI Z0,dI Z0,dI Z0,.data Ty.str (⟨#[]⟩:ByteArray)])]⟩
abbrev LP77_0 (b:LI) (p:Int) (columns:LC) (kind:Int) (m:Nat) (st_:St) (K:KX):Prop:=True/\cY (s77_0 b p columns kind) (F.iw b p columns kind) (fun v0:Int×Int=>True) (bq (fun e0:Int=>True->K (.exit 0) (⟨[(0,.ptr 1000000 0),(2,dI kind),(6,.ptr 6 0)],[(1000000,.box [.data TBy b,dI e0]),(6,.box [dI Z0,dI Z0,dI Z0,dI Z0,.data Ty.str (⟨#[]⟩:ByteArray)])]⟩:St)) (fun q0:Int×Int=>K .ret (⟨[(6,.ptr 6 0)],[(1000000,.box [.data TBy b,dI q0.1]),(6,.box [dI Z2,dI q0.2,dI Z0,dI Z0,.data Ty.str (⟨#[]⟩:ByteArray)])]⟩:St))) m st_
def L77 (b:LI) (p:Int) (columns:LC) (kind:Int):bD:=lp1 0 (LP77_0 b p columns kind)
theorem vc77 (b:LI) (p:Int) (columns:LC) (kind:Int) (K:KA):vcT C77 (L77 b p columns kind) ann77 f77 [.ptr 1000000 0,.data TCS columns,dI kind] [(1000000,.box [.data TBy b,dI p])] (.dat aC) K =
 (∃m_,True/\cY (s77_0 b p columns kind) (F.iw b p columns kind) (fun v0:Int×Int=>True) (bq (fun e0:Int=>True->(Sm TBy b)/\(M.aq b)/\(0<=e0)/\(e0<=998000000000000)/\(LD (M.jD b e0 (kind,(false,()))) fun r1=>K (.data aC (Z1,(Z0,(r1.1,())))) [(1000000,.box [.data TBy b,dI r1.2])])) (fun q0:Int×Int=>K (.data aC (Z2,(q0.2,((Z0,(Z0,((⟨#[]⟩:ByteArray),()))),())))) [(1000000,.box [.data TBy b,dI q0.1])])) m_ (s77_0 b p columns kind (Z0,p))):=by kernel_rfl
abbrev S77l0_0 (b:LI) (p:Int) (columns:LC) (kind:Int)  (v0:Int×Int) (m:Nat) (K:KX):Prop:=K (.exit 0) (⟨[(0,.ptr 1000000 0),(2,dI kind),(6,.ptr 6 0)],[(1000000,.box [.data TBy b,dI v0.2]),(6,.box [dI Z0,dI Z0,dI Z0,dI Z0,.data Ty.str (⟨#[]⟩:ByteArray)])]⟩:St)
theorem lvc77_0 (b:LI) (p:Int) (columns:LC) (kind:Int)  (v0:Int×Int) (m:Nat) (K:KX):lvT C77 (L77 b p columns kind) ann77 f77 0 0 (s77_0 b p columns kind v0) m K =
 (cond ((decide (v0.1<Z4))==true) (cond (decide (Z0<(columns.length:Int))) ((Sm TBy b)/\(M.aq b)/\(0<=v0.2)/\(v0.2<=1000000000000000)/\(LD (M.pick b v0.2 (columns.length:Int)) fun r2=>(0<=r2.1)/\(r2.1<(columns.length:Int))/\cond ((decide ((nC columns r2.1).1=kind))==true) ((Sm TBy b)/\(M.aq b)/\(0<=r2.2)/\(r2.2<=1000000000000000)/\(LD (M.pick b r2.2 Z3) fun r3=>cond (decide (Z0<r3.1)) (K .ret (⟨[(6,.ptr 6 0)],[(1000000,.box [.data TBy b,dI r3.2]),(6,.box [dI Z2,dI r2.1,dI Z0,dI Z0,.data Ty.str (⟨#[]⟩:ByteArray)])]⟩:St)) (nxT (LP77_0 b p columns kind) m K (s77_0 b p columns kind (wrap64 (v0.1+Z1),r3.2))))) (nxT (LP77_0 b p columns kind) m K (s77_0 b p columns kind (wrap64 (v0.1+Z1),r2.2))))) (S77l0_0  b p columns kind v0 m K)) (S77l0_0  b p columns kind v0 m K)):=by kernel_rfl
theorem con77_ok:aT P 77 c77:=aZ C77 func77 (kC con76_ok (kC con124_ok kN)) fun args hp K h0=>by
 unfold c77 at h0
 dsimp only at h0
 obtain⟨b,p,rfl,h00⟩:=fc h0
 obtain⟨a0,a1,a2,rfl,_,h1⟩:=jr h00
 obtain⟨rfl,h2⟩:=dn h1
 obtain⟨columns,rfl,h3⟩:=bt h2
 obtain⟨kind,rfl,h4⟩:=bt h3
 obtain⟨h_b,h_columns,p0,p1,p2,hK⟩:=h4
 have h:ok (F.jb b p columns kind) (fun r=>K (.data aC r.1) [(1000000,.box [.data TBy b,dI r.2])]):=az (F.wB b p columns kind h_b h_columns p0 p1 p2) (hK _ rfl)
 refine⟨rfl,ann77,(L77 b p columns kind),(.dat aC),(bH (i0:=0) (by kernel_rfl) ?_),?_⟩
 ·rintro _ _ K ⟨hc0,v0,rfl,hv0,h⟩
  exact cast (lvc77_0 _ _ _ _ _ _ _).symm (cj h (fun m1 hm0 h=>(oC h (fun _ h=>(oC h (fun _ h=>⟨h_b,(oG h fun g1 h=>(oG h fun _ h=>(oG h fun _ h=>(oL h fun _ _ h=>(oG h fun _ h=>(oG h fun _ h=>(oC h (fun _ h=>⟨h_b,⟨g1,(oG h fun _ h=>(oG h fun _ h=>(oL h fun _ _ h=>(oC h (fun _ h=>h) fun _ h=>(bn (fun _ hm=>⟨hc0,hm⟩) hm0 _ rfl trivial h)))))⟩⟩) fun _ h=>(bn (fun _ hm=>⟨hc0,hm⟩) hm0 _ rfl trivial h))))))))⟩) fun _ h=>((bX h :) trivial))) fun _ h=>((bX h :) trivial))))
 ·rw[vc77]
  exact(bK (fun m hm=>⟨trivial,hm⟩) _ rfl trivial (aU h (fun e0 h hv0=>⟨h_b,⟨p0,(oG h fun _ h=>(oG h fun _ h=>(oL h fun _ _ h=>h)))⟩⟩) (fun q0 h=>h)))
def c35r (n_:Nat):Con:=⟨[.any,.dat TCS,.dat aE,.dat aE],fun args hp K=>hpR (fun b p=>Dz (fun a0 a1 a2 a3=>mc a0 (fy TCS a1 fun columns=>fy aE a2 fun kind=>fy aE a3 fun deep=>(Sm TBy b)/\(Sm TCS columns)/\(M.aq b)/\(0<=p)/\(p+40 * (M.eB deep:Int)<=996000000000000)/\(deep<=3)/\(deep.toNat<n_)/\(LD (M.bB n_ b p columns kind deep) fun r=>K (.own 0 none) [(0,.arr .sh aC r.1),(1000000,.box [.data TBy b,dI r.2])]))) args []) hp,.plain,true⟩
abbrev C35 (n_:Nat):Ctx:=cx [(76,c76),(77,c77),(35,c35r n_)] 111 [] 0 false
def ann35:=an [[kp 15],[kp 65551],[kp 256],[kp 8388623],[kp 256],[kp 1099511627791],[kp 256],[kp 140737488355339],[kp 422212465065995],[kp 256],[.keep [0,1,3,47,67]],[kp 256],[.keep [0,1,3,77]],[kp 256],[kp 523],[kp 256]] []
theorem vc35 (n_:Nat) (b:LI) (p:Int) (columns:LC) (kind:Int) (deep:Int) (K:KA):vcT (C35 n_) ay ann35 f35 [.ptr 1000000 0,.data TCS columns,dI kind,dI deep] [(1000000,.box [.data TBy b,dI p])] .raw K =
 (cond ((decide (deep<Z1))==false) ((Sm TBy b)/\(M.aq b)/\(0<=p)/\(p<=1000000000000000)/\(LD (M.pick b p Z4) fun r1=>cond (decide (r1.1=Z0)) ((Sm TBy b)/\(Sm TCS columns)/\(M.aq b)/\(0<=r1.2)/\(r1.2<=997000000000000)/\(LD (M.dw b r1.2 columns kind) fun r2=>K (.own 0 none) [(0,.arr .sh aC [r2.1]),(1000000,.box [.data TBy b,dI r2.2])])) (cond (decide (kind=Z1)) ((Sm TBy b)/\(Sm TCS columns)/\(M.aq b)/\(0<=r1.2)/\(r1.2+40 * (M.eB (wrap64 (deep-Z1)):Int)<=996000000000000)/\((wrap64 (deep-Z1))<=3)/\((wrap64 (deep-Z1)).toNat<n_)/\(LD (M.bB n_ b r1.2 columns kind (wrap64 (deep-Z1))) fun r3=>(Sm TBy b)/\(Sm TCS columns)/\(M.aq b)/\(0<=r3.2)/\(r3.2<=997000000000000)/\(LD (M.dw b r3.2 columns kind) fun r4=>((r3.1.length+[r4.1].length) * 48<=lim)/\(((r3.1++[r4.1]).length+([(Z3,(Z0,((Z0,(Z0,((⟨#[]⟩:ByteArray),()))),())))]:List aC.D).length) * 48<=lim)/\K (.own 0 none) [(0,.arr .sh aC ((r3.1++[r4.1])++[(Z3,(Z0,((Z0,(Z0,((⟨#[]⟩:ByteArray),()))),())))])),(1000000,.box [.data TBy b,dI r4.2])]))) (cond (decide (kind=Z2)) ((Sm TBy b)/\(Sm TCS columns)/\(M.aq b)/\(0<=r1.2)/\(r1.2<=997000000000000)/\(LD (M.dw b r1.2 columns kind) fun r5=>K (.own 0 none) [(0,.arr .sh aC [r5.1]),(1000000,.box [.data TBy b,dI r5.2])])) ((Sm TBy b)/\(M.aq b)/\(0<=r1.2)/\(r1.2<=1000000000000000)/\(LD (M.pick b r1.2 Z6) fun r6=>cond (decide (r6.1=Z0)) ((Sm TBy b)/\(Sm TCS columns)/\(M.aq b)/\(0<=r6.2)/\(r6.2+40 * (M.eB (wrap64 (deep-Z1)):Int)<=996000000000000)/\((wrap64 (deep-Z1))<=3)/\((wrap64 (deep-Z1)).toNat<n_)/\(LD (M.bB n_ b r6.2 columns Z3 (wrap64 (deep-Z1))) fun r7=>(Sm TBy b)/\(Sm TCS columns)/\(M.aq b)/\(0<=r7.2)/\(r7.2+40 * (M.eB (wrap64 (deep-Z2)):Int)<=996000000000000)/\((wrap64 (deep-Z2))<=3)/\((wrap64 (deep-Z2)).toNat<n_)/\(LD (M.bB n_ b r7.2 columns Z3 (wrap64 (deep-Z2))) fun r8=>((r7.1.length+r8.1.length) * 48<=lim)/\(Sm TBy b)/\(M.aq b)/\(0<=r8.2)/\(r8.2<=1000000000000000)/\(LD (M.pick b r8.2 Z2) fun r9=>(((r7.1++r8.1).length+([(wrap64 (Z5+r9.1),(Z0,((Z0,(Z0,((⟨#[]⟩:ByteArray),()))),())))]:List aC.D).length) * 48<=lim)/\K (.own 0 none) [(0,.arr .sh aC ((r7.1++r8.1)++[(wrap64 (Z5+r9.1),(Z0,((Z0,(Z0,((⟨#[]⟩:ByteArray),()))),())))])),(1000000,.box [.data TBy b,dI r9.2])])))) (cond (decide (r6.1=Z1)) ((Sm TBy b)/\(Sm TCS columns)/\(M.aq b)/\(0<=r6.2)/\(r6.2+40 * (M.eB (wrap64 (deep-Z1)):Int)<=996000000000000)/\((wrap64 (deep-Z1))<=3)/\((wrap64 (deep-Z1)).toNat<n_)/\(LD (M.bB n_ b r6.2 columns Z3 (wrap64 (deep-Z1))) fun r10=>((r10.1.length+([((7:Int),(Z0,((Z0,(Z0,((⟨#[]⟩:ByteArray),()))),())))]:List aC.D).length) * 48<=lim)/\K (.own 0 none) [(0,.arr .sh aC (r10.1++[((7:Int),(Z0,((Z0,(Z0,((⟨#[]⟩:ByteArray),()))),())))])),(1000000,.box [.data TBy b,dI r10.2])])) (cond (decide (r6.1=Z2)) ((Sm TBy b)/\(M.aq b)/\(0<=r6.2)/\(r6.2<=1000000000000000)/\(LD (M.pick b r6.2 Z3) fun r11=>(Sm TBy b)/\(Sm TCS columns)/\(M.aq b)/\(0<=r11.2)/\(r11.2+40 * (M.eB (wrap64 (deep-Z1)):Int)<=996000000000000)/\((wrap64 (deep-Z1))<=3)/\((wrap64 (deep-Z1)).toNat<n_)/\(LD (M.bB n_ b r11.2 columns (wrap64 (Z1+r11.1)) (wrap64 (deep-Z1))) fun r12=>((r12.1.length+([((8:Int),(Z0,((Z0,(Z0,((⟨#[]⟩:ByteArray),()))),())))]:List aC.D).length) * 48<=lim)/\K (.own 0 none) [(0,.arr .sh aC (r12.1++[((8:Int),(Z0,((Z0,(Z0,((⟨#[]⟩:ByteArray),()))),())))])),(1000000,.box [.data TBy b,dI r12.2])]))) ((Sm TBy b)/\(M.aq b)/\(0<=r6.2)/\(r6.2<=1000000000000000)/\(LD (M.pick b r6.2 Z3) fun r13=>(Sm TBy b)/\(Sm TCS columns)/\(M.aq b)/\(0<=r13.2)/\(r13.2+40 * (M.eB (wrap64 (deep-Z1)):Int)<=996000000000000)/\((wrap64 (deep-Z1))<=3)/\((wrap64 (deep-Z1)).toNat<n_)/\(LD (M.bB n_ b r13.2 columns (wrap64 (Z1+r13.1)) (wrap64 (deep-Z1))) fun r14=>(Sm TBy b)/\(Sm TCS columns)/\(M.aq b)/\(0<=r14.2)/\(r14.2<=997000000000000)/\(LD (M.dw b r14.2 columns (wrap64 (Z1+r13.1))) fun r15=>((r14.1.length+[r15.1].length) * 48<=lim)/\(Sm TBy b)/\(M.aq b)/\(0<=r15.2)/\(r15.2<=1000000000000000)/\(LD (M.pick b r15.2 Z4) fun r16=>(((r14.1++[r15.1]).length+([(Z4,(wrap64 (Z1+r16.1),((Z0,(Z0,((⟨#[]⟩:ByteArray),()))),())))]:List aC.D).length) * 48<=lim)/\K (.own 0 none) [(0,.arr .sh aC ((r14.1++[r15.1])++[(Z4,(wrap64 (Z1+r16.1),((Z0,(Z0,((⟨#[]⟩:ByteArray),()))),())))])),(1000000,.box [.data TBy b,dI r16.2])]))))))))))))) ((Sm TBy b)/\(Sm TCS columns)/\(M.aq b)/\(0<=p)/\(p<=997000000000000)/\(LD (M.dw b p columns kind) fun r2=>K (.own 0 none) [(0,.arr .sh aC [r2.1]),(1000000,.box [.data TBy b,dI r2.2])]))):=by kernel_rfl
theorem con35r_ok:∀n_,aT P 35 (c35r n_)
 | 0=>aZ (cx [] 111 [] 0 false) func35 kN fun args hp K h0=>by
  unfold c35r at h0
  dsimp only at h0
  obtain⟨b,p,rfl,h00⟩:=fc h0
  obtain⟨a0,a1,a2,a3,rfl,_,h1⟩:=yw h00
  obtain⟨rfl,h2⟩:=dn h1
  obtain⟨columns,rfl,h3⟩:=bt h2
  obtain⟨kind,rfl,h4⟩:=bt h3
  obtain⟨deep,rfl,h5⟩:=bt h4
  obtain⟨h_b,h_columns,p0,p1,p2,p3,p4,_⟩:=h5
  exact absurd p4 (Nat.not_lt_zero _)
 | n_+1=>(fun ih=>aZ (C35 n_) func35 (kC con76_ok (kC con77_ok (kC ih kN))) fun args hp K h0=>by
  unfold c35r at h0
  dsimp only at h0
  obtain⟨b,p,rfl,h00⟩:=fc h0
  obtain⟨a0,a1,a2,a3,rfl,_,h1⟩:=yw h00
  obtain⟨rfl,h2⟩:=dn h1
  obtain⟨columns,rfl,h3⟩:=bt h2
  obtain⟨kind,rfl,h4⟩:=bt h3
  obtain⟨deep,rfl,h5⟩:=bt h4
  obtain⟨h_b,h_columns,p0,p1,p2,p3,p4,hK⟩:=h5
  have h:ok (F.kQ n_ b p columns kind deep) (fun r=>K (.own 0 none) [(0,.arr .sh aC r.1),(1000000,.box [.data TBy b,dI r.2])]):=az (F.wm n_ b p columns kind deep h_b h_columns p0 p1 p2 p3 p4) (hK _ rfl)
  refine⟨rfl,ann35,ay,.raw,(aG (by kernel_rfl)),?_⟩
  ·rw[vc35]
   exact(oC h (fun _ h=>⟨h_b,⟨p0,⟨p1,(oG h fun _ h=>(oL h fun _ _ h=>(oC h (fun _ h=>⟨h_b,⟨h_columns,⟨p0,(oG h fun _ h=>(oG h fun _ h=>(oL h fun _ _ h=>h)))⟩⟩⟩) fun _ h=>(oC h (fun _ h=>⟨h_b,⟨h_columns,⟨p0,(oG h fun _ h=>(oG h fun _ h=>(oG h fun _ h=>(oG h fun _ h=>(oL h fun _ _ h=>⟨h_b,⟨h_columns,⟨p0,(oG h fun _ h=>(oG h fun _ h=>(oL h fun _ _ h=>(oG h fun _ h=>(oG h fun _ h=>h)))))⟩⟩⟩)))))⟩⟩⟩) fun _ h=>(oC h (fun _ h=>⟨h_b,⟨h_columns,⟨p0,(oG h fun _ h=>(oG h fun _ h=>(oL h fun _ _ h=>h)))⟩⟩⟩) fun _ h=>⟨h_b,⟨p0,(oG h fun _ h=>(oG h fun _ h=>(oL h fun _ _ h=>(oC h (fun _ h=>⟨h_b,⟨h_columns,⟨p0,(oG h fun _ h=>(oG h fun _ h=>(oG h fun _ h=>(oG h fun _ h=>(oL h fun _ _ h=>⟨h_b,⟨h_columns,⟨p0,(oG h fun _ h=>(oG h fun _ h=>(oG h fun _ h=>(oG h fun _ h=>(oL h fun _ _ h=>(oG h fun _ h=>⟨h_b,⟨p0,(oG h fun _ h=>(oG h fun _ h=>(oL h fun _ _ h=>(oG h fun _ h=>h))))⟩⟩))))))⟩⟩⟩)))))⟩⟩⟩) fun _ h=>(oC h (fun _ h=>⟨h_b,⟨h_columns,⟨p0,(oG h fun _ h=>(oG h fun _ h=>(oG h fun _ h=>(oG h fun _ h=>(oL h fun _ _ h=>(oG h fun _ h=>h))))))⟩⟩⟩) fun _ h=>(oC h (fun _ h=>⟨h_b,⟨p0,(oG h fun _ h=>(oG h fun _ h=>(oL h fun _ _ h=>⟨h_b,⟨h_columns,⟨p0,(oG h fun _ h=>(oG h fun _ h=>(oG h fun _ h=>(oG h fun _ h=>(oL h fun _ _ h=>(oG h fun _ h=>h))))))⟩⟩⟩)))⟩⟩) fun _ h=>⟨h_b,⟨p0,(oG h fun _ h=>(oG h fun _ h=>(oL h fun _ _ h=>⟨h_b,⟨h_columns,⟨p0,(oG h fun _ h=>(oG h fun _ h=>(oG h fun _ h=>(oG h fun _ h=>(oL h fun _ _ h=>⟨h_b,⟨h_columns,⟨p0,(oG h fun _ h=>(oG h fun _ h=>(oL h fun _ _ h=>(oG h fun _ h=>⟨h_b,⟨p0,(oG h fun _ h=>(oG h fun _ h=>(oL h fun _ _ h=>(oG h fun _ h=>h))))⟩⟩))))⟩⟩⟩)))))⟩⟩⟩)))⟩⟩))))))⟩⟩)))))⟩⟩⟩) fun _ h=>⟨h_b,⟨h_columns,⟨p0,⟨p1,(oG h fun _ h=>(oL h fun _ _ h=>h))⟩⟩⟩⟩)) (con35r_ok n_)
def c35:Con:=c35r 64
theorem con35_ok:aT P 35 c35:=con35r_ok 64
def c39:Con:=⟨[.dat aE,.dat aE,.dat aE],fun args hp K=>g3 (pD aE) (pD aE) (pD aE) (fun n low high=>K (dB (M.inR n low high)) []) args hp,.plain,false⟩
abbrev C39:Ctx:=cx [] 15 [] 0 false
def ann39:=an [[kp 7],[kp 64]] []
theorem vc39 (n:Int) (low:Int) (high:Int) (K:KA):vcT C39 ay ann39 f39 [dI n,dI low,dI high] [] (.dat Ty.bool) K =
 (cond ((decide (low<=n))==true) (K (dB (decide (n<=high))) []) (K (dB false) [])):=by kernel_rfl
theorem con39_ok:aT P 39 c39:=aZ C39 func39 kN fun args hp K h0=>by
 obtain⟨n,low,high,rfl,rfl,hK⟩:=g3e h0
 have h:ok (F.uY n low high) (fun r=>K (dB r) []):=az (F.Bf n low high) hK
 refine⟨rfl,ann39,ay,(.dat Ty.bool),(aG (by kernel_rfl)),?_⟩
 ·rw[vc39]
  exact(oC h (fun _ h=>h) fun _ h=>h)
def c131:Con:=⟨[.dat aj],fun args hp K=>g1 (pD aj) (fun s=>(Sm aj s)/\K (dB (M.bR s)) []) args hp,.plain,false⟩
abbrev C131:Ctx:=cx [] 68 [] 0 false
def ann131:=an [[.fixRow 1 aj,kp 2],[kp 10],[kp 26],[kp 58],[kp 4]] []
abbrev S131_0 (s:aj.D) (K:KA):Prop:=cond ((decide (s.1=Z3))==false) (K (dB (decide ((s.2.2.2.2.2.1.length:Int)=Z0))) []) (K (dB true) [])
abbrev S131_1 (s:aj.D) (K:KA):Prop:=cond ((decide (s.1=Z4))==false) (cond ((decide ((s.2.2.2.2.1.length:Int)=Z0))==true) (S131_0 s K) (K (dB false) [])) (S131_0 s K)
abbrev S131_2 (s:aj.D) (K:KA):Prop:=cond ((decide (s.1=Z1))==false) (cond ((decide (s.2.2.2.1=Z0))==true) (S131_1 s K) (K (dB false) [])) (S131_1 s K)
abbrev S131_3 (s:aj.D) (K:KA):Prop:=cond ((decide (s.1=Z5))==false) (cond ((decide (s.2.2.1=Z0))==true) (S131_2 s K) (K (dB false) [])) (S131_2 s K)
abbrev S131_4 (s:aj.D) (K:KA):Prop:=cond ((decide (s.1=Z1))==false) (cond ((decide (s.2.2.2.1=Z0))==true) (S131_0 s K) (K (dB false) [])) (S131_0 s K)
abbrev S131_5 (s:aj.D) (K:KA):Prop:=cond ((decide (s.1=Z5))==false) (cond ((decide (s.2.2.1=Z0))==true) (S131_4 s K) (K (dB false) [])) (S131_4 s K)
theorem vc131 (s:aj.D) (K:KA):vcT C131 ay ann131 f131 [.data aj s] [] (.dat Ty.bool) K =
 (cond ((decide (s.1=Z4))==false) (cond ((decide (s.1=Z2))==false) (cond ((!(decide (s.1=Z1)))==false) (cond ((decide (s.2.1=Z0))==true) (S131_3 s K) (K (dB false) [])) (S131_3 s K)) (cond ((!(decide (s.1=Z1)))==false) (cond ((decide (s.2.1=Z0))==true) (S131_5 s K) (K (dB false) [])) (S131_5 s K))) (cond ((decide (s.1=Z2))==false) (cond ((!(decide (s.1=Z1)))==false) (cond ((decide (s.2.1=Z0))==true) (S131_2 s K) (K (dB false) [])) (S131_2 s K)) (cond ((!(decide (s.1=Z1)))==false) (cond ((decide (s.2.1=Z0))==true) (S131_4 s K) (K (dB false) [])) (S131_4 s K)))):=by kernel_rfl
theorem con131_ok:aT P 131 c131:=aZ C131 func131 kN fun args hp K h0=>by
 obtain⟨s,rfl,rfl,h_s,hK⟩:=g1e h0
 have h:ok (F.mL s) (fun r=>K (dB r) []):=az (F.vf s h_s) hK
 refine⟨rfl,ann131,ay,(.dat Ty.bool),(aG (by kernel_rfl)),?_⟩
 ·rw[vc131]
  exact(oC h (fun b_1 h=>(oC h (fun _ h=>(oC h (fun b_3 h=>(oC h (fun _ h=>(bC (ugt (cL (bnf (bgt b_3)) (by decide))) (oC h (fun _ h=>(dW (ugf (bnf (bgt b_3))) (bC (ugt (bgt b_1)) (oC h (fun _ h=>(bC (ugt (cL (bnf (bgt b_3)) (by decide))) h)) fun _ h=>h)))) fun _ h=>h))) fun _ h=>h)) fun b_3 h=>(oC h (fun _ h=>(oC h (fun _ h=>(bC (ugt (bnt (bgf b_3))) (oC h (fun _ h=>(bC (ugt (bgt b_1)) (oC h (fun _ h=>(oC h (fun _ h=>h) fun _ h=>h)) fun _ h=>h))) fun _ h=>h))) fun _ h=>h)) fun b_27 h=>(bC (ugt (bnt (bgf b_3))) (oC h (fun _ h=>(bC (ugt (bgt b_1)) (oC h (fun _ h=>(bC (ugt (cL (bgf b_27) (by decide))) h)) fun _ h=>h))) fun _ h=>h))))) fun b_2 h=>(dW (ugf (unt (cL (bgf b_2) (by decide)))) (bC (ugt (cL (bgf b_2) (by decide))) (oC h (fun _ h=>(bC (ugt (cL (bgf b_2) (by decide))) (oC h (fun _ h=>(bC (ugt (cL (bgf b_2) (by decide))) h)) fun _ h=>h))) fun _ h=>h))))) fun b_1 h=>(bC (ugt (cL (bgf b_1) (by decide))) (dW (ugf (unt (cL (bgf b_1) (by decide)))) (bC (ugt (cL (bgf b_1) (by decide))) (oC h (fun _ h=>(dW (ugf (bgf b_1)) (bC (ugt (cL (bgf b_1) (by decide))) h))) fun _ h=>h)))))
def c134:Con:=⟨[.dat TCS],fun args hp K=>g1 (pD TCS) (fun columns=>(Sm TCS columns)/\K (dB (M.bA columns)) []) args hp,.plain,false⟩
abbrev C134:Ctx:=cx [(39,c39)] 20 [] 0 false
def ann134:=an [[kp 1],[kp 9],[kp 137],[kp 9],[kp 65545],[kp 4],[kp 4]] [[kp 1]]
abbrev s134_0 (columns:LC) (i0:Int) (v0:Unit):St:=⟨[(0,.data TCS columns),(3,dI i0)],[]⟩
abbrev LP134_0 (columns:LC) (m:Nat) (st_:St) (K:KX):Prop:=True/\bJ (t:=ag) (s134_0 columns) columns (F.fU columns) (fun v0:Unit=>True) (bq (fun v0:Unit=>True->K (.exit 0) (⟨[(0,.data TCS columns)],[]⟩:St)) (fun q0:Unit=>K .ret (⟨[(2,dB false)],[]⟩:St))) m st_
def L134 (columns:LC):bD:=lp1 0 (LP134_0 columns)
theorem vc134 (columns:LC) (K:KA):vcT C134 (L134 columns) ann134 f134 [.data TCS columns] [] (.dat Ty.bool) K =
 (∃m_,True/\bJ (t:=ag) (s134_0 columns) columns (F.fU columns) (fun v0:Unit=>True) (bq (fun v0:Unit=>True->K (dB (decide ((columns.length:Int)<=Z4))) []) (fun q0:Unit=>K (dB false) [])) m_ (s134_0 columns Z0 ())):=by kernel_rfl
theorem lvc134_0 (columns:LC)  (i0:Int) (v0:Unit) (m:Nat) (K:KX):lvT C134 (L134 columns) ann134 f134 0 0 (s134_0 columns i0 v0) m K =
 (cond (decide (i0<(columns.length:Int))) ((0<=i0)/\(i0<(columns.length:Int))/\cond (!(M.inR (nC columns i0).1 Z1 Z3)) (K .ret (⟨[(2,dB false)],[]⟩:St)) (nxT (LP134_0 columns) m K (s134_0 columns (wrap64 (i0+Z1)) ()))) (K (.exit 0) (⟨[(0,.data TCS columns)],[]⟩:St))):=by kernel_rfl
theorem con134_ok:aT P 134 c134:=aZ C134 func134 (kC con39_ok kN) fun args hp K h0=>by
 obtain⟨columns,rfl,rfl,h_columns,hK⟩:=g1e h0
 have h:ok (F.lH columns) (fun r=>K (dB r) []):=az (F.sV columns h_columns) hK
 refine⟨rfl,ann134,(L134 columns),(.dat Ty.bool),(bH (i0:=0) (by kernel_rfl) ?_),?_⟩
 ·rintro _ _ K ⟨hc0,i0,v0,rfl,hl0,rfl,hv0,h⟩
  exact cast (lvc134_0 _ _ _ _ _).symm (aW (t:=ag) hl0 h (fun ht0 h=>⟨hl0,⟨ht0,(oC h (fun _ h=>h) fun _ h=>(aP (t:=ag) (fun _ hm=>⟨hc0,hm⟩) _ rfl hl0 ht0 (bu h_columns) trivial h))⟩⟩) fun h=>(h trivial))
 ·rw[vc134]
  exact(aQ (t:=ag) (fun m hm=>⟨trivial,hm⟩) _ rfl trivial (aU h (fun v0 h hv0=>h) (fun q0 h=>h)))
def c210:Con:=⟨[.dat Ty.str],fun args hp K=>g1 (pD Ty.str) (fun s=>(Sm Ty.str s)/\K (dB (M.text s)) []) args hp,.plain,false⟩
abbrev C210:Ctx:=cx [] 23 [] 0 false
def ann210:=an [[kp 1],[kp 9],[kp 137],[kp 9],[kp 524297],[kp 4],[kp 4]] [[kp 1]]
abbrev s210_0 (s:ByteArray) (i0:Int) (v0:Unit):St:=⟨[(0,.data Ty.str s),(3,dI i0)],[]⟩
abbrev LP210_0 (s:ByteArray) (m:Nat) (st_:St) (K:KX):Prop:=True/\dJ (s210_0 s) Z0 (s.size:Int) (F.iQ s) (fun v0:Unit=>True) (bq (fun v0:Unit=>True->K (.exit 0) (⟨[(0,.data Ty.str s)],[]⟩:St)) (fun q0:Unit=>K .ret (⟨[(2,dB false)],[]⟩:St))) m st_
def L210 (s:ByteArray):bD:=lp1 0 (LP210_0 s)
theorem vc210 (s:ByteArray) (K:KA):vcT C210 (L210 s) ann210 f210 [.data Ty.str s] [] (.dat Ty.bool) K =
 (∃m_,True/\dJ (s210_0 s) Z0 (s.size:Int) (F.iQ s) (fun v0:Unit=>True) (bq (fun v0:Unit=>True->K (dB (decide ((s.size:Int)<=Z6))) []) (fun q0:Unit=>K (dB false) [])) m_ (s210_0 s Z0 ())):=by kernel_rfl
theorem lvc210_0 (s:ByteArray)  (i0:Int) (v0:Unit) (m:Nat) (K:KX):lvT C210 (L210 s) ann210 f210 0 0 (s210_0 s i0 v0) m K =
 (cond (decide (i0<(s.size:Int))) ((0<=i0)/\(i0<(s.size:Int))/\cond ((decide (((s.get! i0.toNat).toNat:Int)<(97:Int)))==false) ((0<=i0)/\(i0<(s.size:Int))/\cond (decide ((122:Int)<((s.get! i0.toNat).toNat:Int))) (K .ret (⟨[(2,dB false)],[]⟩:St)) (nxT (LP210_0 s) m K (s210_0 s (wrap64 (i0+Z1)) ()))) (K .ret (⟨[(2,dB false)],[]⟩:St))) (K (.exit 0) (⟨[(0,.data Ty.str s)],[]⟩:St))):=by kernel_rfl
theorem con210_ok:aT P 210 c210:=aZ C210 func210 kN fun args hp K h0=>by
 obtain⟨s,rfl,rfl,h_s,hK⟩:=g1e h0
 have h:ok (F.qd s) (fun r=>K (dB r) []):=az (F.yy s h_s) hK
 refine⟨rfl,ann210,(L210 s),(.dat Ty.bool),(bH (i0:=0) (by kernel_rfl) ?_),?_⟩
 ·rintro _ _ K ⟨hc0,i0,v0,rfl,hl0,rfl,hv0,h⟩
  exact cast (lvc210_0 _ _ _ _ _).symm (cC h (fun ht0 h=>⟨hl0,⟨ht0,(oC h (fun _ h=>⟨hl0,⟨ht0,(oC h (fun _ h=>h) fun _ h=>(bT (fun _ hm=>⟨hc0,hm⟩) _ rfl hl0 nu ht0 (GA h_s) trivial h))⟩⟩) fun _ h=>h)⟩⟩) fun h=>(h trivial))
 ·rw[vc210]
  exact(bZ (fun m hm=>⟨trivial,hm⟩) Z0 _ rfl (Int.natCast_nonneg 0) trivial (aU h (fun v0 h hv0=>h) (fun q0 h=>h)))
def c201:Con:=⟨[.dat aa],fun args hp K=>g1 (pD aa) (fun v=>(Sm aa v)/\K (dB (M.aL v)) []) args hp,.plain,false⟩
abbrev C201:Ctx:=cx [(39,c39),(210,c210)] 45 [] 0 false
def ann201:=an [[.fixRow 1 aa,kp 2],[kp 18],[kp 50],[kp 4],[kp 32786],[kp 4],[kp 33554450],[kp 4],[.keep [1,35]],[kp 4],[kp 4]] []
theorem vc201 (v:aa.D) (K:KA):vcT C201 ay ann201 f201 [.data aa v] [] (.dat Ty.bool) K =
 (cond (decide (v.1=Z0)) (cond ((decide (v.2.1=Z0))==true) (K (dB (decide (v.2.2.1=(⟨#[]⟩:ByteArray)))) []) (K (dB false) [])) (cond (decide (v.1=Z1)) (cond ((M.inR v.2.1 (-9999:Int) (9999:Int))==true) (K (dB (decide (v.2.2.1=(⟨#[]⟩:ByteArray)))) []) (K (dB false) [])) (cond (decide (v.1=Z2)) (cond ((decide (v.2.1=Z0))==true) ((Sm Ty.str v.2.2.1)/\K (dB (M.text v.2.2.1)) []) (K (dB false) [])) (cond (decide (v.1=Z3)) (cond ((M.inR v.2.1 Z0 Z1)==true) (K (dB (decide (v.2.2.1=(⟨#[]⟩:ByteArray)))) []) (K (dB false) [])) (K (dB false) []))))):=by kernel_rfl
theorem con201_ok:aT P 201 c201:=aZ C201 func201 (kC con39_ok (kC con210_ok kN)) fun args hp K h0=>by
 obtain⟨v,rfl,rfl,h_v,hK⟩:=g1e h0
 have h:ok (F.pe v) (fun r=>K (dB r) []):=az (F.wT v h_v) hK
 refine⟨rfl,ann201,ay,(.dat Ty.bool),(aG (by kernel_rfl)),?_⟩
 ·rw[vc201]
  exact(oC h (fun _ h=>(oC h (fun _ h=>h) fun _ h=>h)) fun _ h=>(oC h (fun _ h=>(oC h (fun _ h=>h) fun _ h=>h)) fun _ h=>(oC h (fun _ h=>(oC h (fun _ h=>⟨h_v.2.2.1,h⟩) fun _ h=>h)) fun _ h=>(oC h (fun _ h=>(oC h (fun _ h=>h) fun _ h=>h)) fun _ h=>h))))
def c175:Con:=⟨[.dat TCS,.mv,.dat aC],fun args hp K=>hpN 0 .sh aE (fun kinds=>vT (fun a0 a1 a2=>fy TCS a0 fun columns=>DT 0 a1 (fy aC a2 fun p=>(Sm TCS columns)/\(Sm (Ty.sl aE) kinds)/\(Sm aC p)/\(kinds.length<=1000)/\(LD (M.uA columns kinds p) fun r=>K (.tup [.own 0 none,dB r.2]) [(0,.arr .sh aE r.1)]))) args []) hp,.mv,false⟩
abbrev C175:Ctx:=cx [(39,c39),(201,c201)] 191 [] 0 true
def ann175:=an [[.fixRow 5 aC,kp 35],[kp 291],[kp 137438953763],[kp 192],[kp 1099511628067],[kp 3298534883619],[.keep [1,5,52]],[kp 192],[kp 192],[kp 1152922604118475043],[.keep [0,1,5,68]],[kp 192],[kp 192],[.keep [1,5,8,40,79]],[kp 770],[kp 192],[.keep [1,5,8,40,107]],[kp 1282],[kp 192],[.keep [1,8,40,137]],[.keep [1,8,40,137]],[kp 2306],[kp 192],[.keep [1,8,40,166]],[kp 192],[.keep [1,8,179]],[kp 192],[kp 192]] []
abbrev S175_0 (columns:LC) (kinds:LI) (p:aC.D) (K:KA):Prop:=(0<=Z0)/\(Z0<=(bz (wrap64 ((kinds.length:Int)-Z2)) Z0))/\((bz (wrap64 ((kinds.length:Int)-Z2)) Z0)<=(kinds.length:Int))/\((bz (wrap64 ((kinds.length:Int)-Z2)) Z0)=(bz (wrap64 ((kinds.length:Int)-Z2)) Z0))/\(Z0=0)/\(((bz (wrap64 ((kinds.length:Int)-Z2)) Z0).toNat+[Z1].length) * 8<=lim)/\K (.tup [.own 0 none,dB false]) [(0,.arr .sh aE (kinds.take (bz (wrap64 ((kinds.length:Int)-Z2)) Z0).toNat++[Z1]))]
abbrev S175_1 (columns:LC) (kinds:LI) (p:aC.D) (K:KA):Prop:=(0<=Z0)/\(Z0<=(bz (wrap64 ((kinds.length:Int)-Z2)) Z0))/\((bz (wrap64 ((kinds.length:Int)-Z2)) Z0)<=(kinds.length:Int))/\((bz (wrap64 ((kinds.length:Int)-Z2)) Z0)=(bz (wrap64 ((kinds.length:Int)-Z2)) Z0))/\(Z0=0)/\(((bz (wrap64 ((kinds.length:Int)-Z2)) Z0).toNat+[Z3].length) * 8<=lim)/\K (.tup [.own 0 none,dB false]) [(0,.arr .sh aE (kinds.take (bz (wrap64 ((kinds.length:Int)-Z2)) Z0).toNat++[Z3]))]
abbrev S175_2 (columns:LC) (kinds:LI) (p:aC.D) (K:KA):Prop:=(S175_1 columns kinds p K)
abbrev S175_3 (columns:LC) (kinds:LI) (p:aC.D) (K:KA):Prop:=cond ((decide (Z1<(kinds.length:Int)))==true) ((0<=wrap64 ((kinds.length:Int)-Z1))/\(wrap64 ((kinds.length:Int)-Z1)<(kinds.length:Int))/\cond ((decide ((nI kinds (wrap64 ((kinds.length:Int)-Z1)))=Z3))==true) ((0<=wrap64 ((kinds.length:Int)-Z2))/\(wrap64 ((kinds.length:Int)-Z2)<(kinds.length:Int))/\(0<=Z0)/\(Z0<=(bz (wrap64 ((kinds.length:Int)-Z2)) Z0))/\((bz (wrap64 ((kinds.length:Int)-Z2)) Z0)<=(kinds.length:Int))/\((bz (wrap64 ((kinds.length:Int)-Z2)) Z0)=(bz (wrap64 ((kinds.length:Int)-Z2)) Z0))/\(Z0=0)/\(((bz (wrap64 ((kinds.length:Int)-Z2)) Z0).toNat+[Z3].length) * 8<=lim)/\K (.tup [.own 0 none,dB (decide ((nI kinds (wrap64 ((kinds.length:Int)-Z2)))=Z3))]) [(0,.arr .sh aE (kinds.take (bz (wrap64 ((kinds.length:Int)-Z2)) Z0).toNat++[Z3]))]) (S175_2 columns kinds p K)) (S175_2 columns kinds p K)
abbrev S175_4 (columns:LC) (kinds:LI) (p:aC.D) (K:KA):Prop:=cond (decide (p.1=(7:Int))) (cond ((decide (Z0<(kinds.length:Int)))==true) ((0<=wrap64 ((kinds.length:Int)-Z1))/\(wrap64 ((kinds.length:Int)-Z1)<(kinds.length:Int))/\K (.tup [.own 0 none,dB (decide ((nI kinds (wrap64 ((kinds.length:Int)-Z1)))=Z3))]) [(0,.arr .sh aE kinds)]) (K (.tup [.own 0 none,dB false]) [(0,.arr .sh aE kinds)])) (cond (decide (p.1=(8:Int))) ((0<=Z0)/\(Z0<=(bz (wrap64 ((kinds.length:Int)-Z1)) Z0))/\((bz (wrap64 ((kinds.length:Int)-Z1)) Z0)<=(kinds.length:Int))/\((bz (wrap64 ((kinds.length:Int)-Z1)) Z0)=(bz (wrap64 ((kinds.length:Int)-Z1)) Z0))/\(Z0=0)/\(((bz (wrap64 ((kinds.length:Int)-Z1)) Z0).toNat+[Z3].length) * 8<=lim)/\K (.tup [.own 0 none,dB (decide (Z0<(kinds.length:Int)))]) [(0,.arr .sh aE (kinds.take (bz (wrap64 ((kinds.length:Int)-Z1)) Z0).toNat++[Z3]))]) (K (.tup [.own 0 none,dB false]) [(0,.arr .sh aE kinds)]))
abbrev S175_5 (columns:LC) (kinds:LI) (p:aC.D) (K:KA):Prop:=cond (decide (p.1=Z1)) ((Sm aa p.2.2.1)/\cond ((!(M.aL p.2.2.1))==false) (cond (decide (p.2.2.1.1=Z0)) (K (.tup [.own 0 none,dB false]) [(0,.arr .sh aE kinds)]) (((kinds.length+[p.2.2.1.1].length) * 8<=lim)/\K (.tup [.own 0 none,dB true]) [(0,.arr .sh aE (kinds++[p.2.2.1.1]))])) (K (.tup [.own 0 none,dB false]) [(0,.arr .sh aE kinds)])) (cond (decide (p.1=Z2)) (cond (!(M.inR p.2.1 Z0 (wrap64 ((columns.length:Int)-Z1)))) (K (.tup [.own 0 none,dB false]) [(0,.arr .sh aE kinds)]) ((0<=p.2.1)/\(p.2.1<(columns.length:Int))/\((kinds.length+[(nC columns p.2.1).1].length) * 8<=lim)/\K (.tup [.own 0 none,dB true]) [(0,.arr .sh aE (kinds++[(nC columns p.2.1).1]))])) (cond (decide (p.1=Z3)) (cond ((decide (Z1<(kinds.length:Int)))==true) ((0<=wrap64 ((kinds.length:Int)-Z1))/\(wrap64 ((kinds.length:Int)-Z1)<(kinds.length:Int))/\cond ((decide ((nI kinds (wrap64 ((kinds.length:Int)-Z1)))=Z1))==true) ((0<=wrap64 ((kinds.length:Int)-Z2))/\(wrap64 ((kinds.length:Int)-Z2)<(kinds.length:Int))/\(0<=Z0)/\(Z0<=(bz (wrap64 ((kinds.length:Int)-Z2)) Z0))/\((bz (wrap64 ((kinds.length:Int)-Z2)) Z0)<=(kinds.length:Int))/\((bz (wrap64 ((kinds.length:Int)-Z2)) Z0)=(bz (wrap64 ((kinds.length:Int)-Z2)) Z0))/\(Z0=0)/\(((bz (wrap64 ((kinds.length:Int)-Z2)) Z0).toNat+[Z1].length) * 8<=lim)/\K (.tup [.own 0 none,dB (decide ((nI kinds (wrap64 ((kinds.length:Int)-Z2)))=Z1))]) [(0,.arr .sh aE (kinds.take (bz (wrap64 ((kinds.length:Int)-Z2)) Z0).toNat++[Z1]))]) (S175_0 columns kinds p K)) (S175_0 columns kinds p K)) (cond (decide (p.1=Z4)) (cond ((decide (Z1<(kinds.length:Int)))==true) ((0<=wrap64 ((kinds.length:Int)-Z1))/\(wrap64 ((kinds.length:Int)-Z1)<(kinds.length:Int))/\(0<=wrap64 ((kinds.length:Int)-Z2))/\(wrap64 ((kinds.length:Int)-Z2)<(kinds.length:Int))/\cond ((decide ((nI kinds (wrap64 ((kinds.length:Int)-Z1)))=(nI kinds (wrap64 ((kinds.length:Int)-Z2)))))==true) ((0<=Z0)/\(Z0<=(bz (wrap64 ((kinds.length:Int)-Z2)) Z0))/\((bz (wrap64 ((kinds.length:Int)-Z2)) Z0)<=(kinds.length:Int))/\((bz (wrap64 ((kinds.length:Int)-Z2)) Z0)=(bz (wrap64 ((kinds.length:Int)-Z2)) Z0))/\(Z0=0)/\(((bz (wrap64 ((kinds.length:Int)-Z2)) Z0).toNat+[Z3].length) * 8<=lim)/\K (.tup [.own 0 none,dB (M.inR p.2.1 Z1 Z4)]) [(0,.arr .sh aE (kinds.take (bz (wrap64 ((kinds.length:Int)-Z2)) Z0).toNat++[Z3]))]) (S175_2 columns kinds p K)) (S175_2 columns kinds p K)) (cond (decide (p.1=Z5)) (cond (decide (p.1=Z5)) (S175_3 columns kinds p K) (S175_4 columns kinds p K)) (cond (decide (p.1=Z6)) (S175_3 columns kinds p K) (S175_4 columns kinds p K))))))
abbrev S175_6 (columns:LC) (kinds:LI) (p:aC.D) (K:KA):Prop:=cond ((!decide (p.1=Z2))==true) (cond ((!decide (p.1=Z4))==true) (cond (!decide (p.2.1=Z0)) (K (.tup [.own 0 none,dB false]) [(0,.arr .sh aE kinds)]) (S175_5 columns kinds p K)) (S175_5 columns kinds p K)) (S175_5 columns kinds p K)
theorem vc175 (columns:LC) (kinds:LI) (p:aC.D) (K:KA):vcT C175 ay ann175 f175 [.data TCS columns,.own 0 none,.data aC p] [(0,.arr .sh aE kinds)] .raw K =
 (cond ((!decide (p.1=Z1))==true) (cond ((!(Ty.beq aa p.2.2.1 (Z0,(Z0,((⟨#[]⟩:ByteArray),())))))==false) (S175_6 columns kinds p K) (K (.tup [.own 0 none,dB false]) [(0,.arr .sh aE kinds)])) (S175_6 columns kinds p K)):=by kernel_rfl
theorem con175_ok:aT P 175 c175:=aZ C175 func175 (kC con39_ok (kC con201_ok kN)) fun args hp K h0=>by
 unfold c175 at h0
 dsimp only at h0
 obtain⟨kinds,rfl,h00⟩:=BE (n:=0) (d:=.sh) (t:=aE) h0
 obtain⟨a0,a1,a2,rfl,_,h1⟩:=jr h00
 obtain⟨columns,rfl,h2⟩:=bt h1
 obtain⟨rfl,h3⟩:=yD h2
 obtain⟨p,rfl,h4⟩:=bt h3
 obtain⟨h_columns,h_kinds,h_p,p0,hK⟩:=h4
 have h:ok (F.jY columns kinds p) (fun r=>K (.tup [.own 0 none,dB r.2]) [(0,.arr .sh aE r.1)]):=az (F.xB columns kinds p h_columns h_kinds h_p p0) (hK _ rfl)
 refine⟨rfl,ann175,ay,.raw,(aG (by kernel_rfl)),?_⟩
 ·rw[vc175]
  exact(oC h (fun b_1 h=>(oC h (fun _ h=>(oC h (fun b_3 h=>(oC h (fun b_4 h=>(oC h (fun _ h=>h) fun _ h=>(dW (bnt (bet b_1)) (dW (bnt (bet b_3)) (oC h (fun _ h=>(oC h (fun _ h=>(oG h fun _ h=>(oG h fun _ h=>(oC h (fun _ h=>(oG h fun _ h=>(oG h fun _ h=>⟨(Int.natCast_nonneg 0),(oG h fun _ h=>(oG h fun _ h=>⟨rfl,⟨rfl,(oG h fun _ h=>h)⟩⟩))⟩))) fun _ h=>⟨(Int.natCast_nonneg 0),(oG h fun _ h=>(oG h fun _ h=>⟨rfl,⟨rfl,(oG h fun _ h=>h)⟩⟩))⟩)))) fun _ h=>⟨(Int.natCast_nonneg 0),(oG h fun _ h=>(oG h fun _ h=>⟨rfl,⟨rfl,(oG h fun _ h=>h)⟩⟩))⟩)) fun _ h=>(dW (bnt (bet b_4)) (oC h (fun b_25 h=>(bC b_25 (oC h (fun _ h=>(oG h fun _ h=>(oG h fun _ h=>(oC h (fun _ h=>(oG h fun _ h=>(oG h fun _ h=>⟨(Int.natCast_nonneg 0),(oG h fun _ h=>(oG h fun _ h=>⟨rfl,⟨rfl,(oG h fun _ h=>h)⟩⟩))⟩))) fun _ h=>⟨(Int.natCast_nonneg 0),(oG h fun _ h=>(oG h fun _ h=>⟨rfl,⟨rfl,(oG h fun _ h=>h)⟩⟩))⟩)))) fun _ h=>⟨(Int.natCast_nonneg 0),(oG h fun _ h=>(oG h fun _ h=>⟨rfl,⟨rfl,(oG h fun _ h=>h)⟩⟩))⟩))) fun _ h=>(oC h (fun _ h=>(oC h (fun _ h=>(oG h fun _ h=>(oG h fun _ h=>(oC h (fun _ h=>(oG h fun _ h=>(oG h fun _ h=>⟨(Int.natCast_nonneg 0),(oG h fun _ h=>(oG h fun _ h=>⟨rfl,⟨rfl,(oG h fun _ h=>h)⟩⟩))⟩))) fun _ h=>⟨(Int.natCast_nonneg 0),(oG h fun _ h=>(oG h fun _ h=>⟨rfl,⟨rfl,(oG h fun _ h=>h)⟩⟩))⟩)))) fun _ h=>⟨(Int.natCast_nonneg 0),(oG h fun _ h=>(oG h fun _ h=>⟨rfl,⟨rfl,(oG h fun _ h=>h)⟩⟩))⟩)) fun _ h=>(oC h (fun _ h=>(oC h (fun _ h=>(oG h fun _ h=>(oG h fun _ h=>h))) fun _ h=>h)) fun _ h=>(oC h (fun _ h=>⟨(Int.natCast_nonneg 0),(oG h fun _ h=>(oG h fun _ h=>⟨rfl,⟨rfl,(oG h fun _ h=>h)⟩⟩))⟩) fun _ h=>h)))))))))) fun b_4 h=>(dW (bnt (bet b_1)) (dW (bnt (bet b_3)) (dW (cL (bnf (bef b_4)) (by decide)) (bC (bnf (bef b_4)) (oC h (fun _ h=>(oG h fun _ h=>(oG h fun _ h=>(oG h fun _ h=>(oG h fun _ h=>(oC h (fun _ h=>⟨(Int.natCast_nonneg 0),(oG h fun _ h=>(oG h fun _ h=>⟨rfl,⟨rfl,(oG h fun _ h=>h)⟩⟩))⟩) fun _ h=>⟨(Int.natCast_nonneg 0),(oG h fun _ h=>(oG h fun _ h=>⟨rfl,⟨rfl,(oG h fun _ h=>h)⟩⟩))⟩)))))) fun _ h=>⟨(Int.natCast_nonneg 0),(oG h fun _ h=>(oG h fun _ h=>⟨rfl,⟨rfl,(oG h fun _ h=>h)⟩⟩))⟩))))))) fun b_3 h=>(dW (bnt (bet b_1)) (bC (bnf (bef b_3)) (oC h (fun _ h=>h) fun b_110 h=>⟨(fR (bnf b_110)),⟨(mC (bnf b_110)),⟨(mg h_kinds (AF trivial) rfl),h⟩⟩⟩))))) fun _ h=>h)) fun b_1 h=>(bC (uet (unt (cL (bnf (bef b_1)) (by decide)))) (bC (uet (unt (cL (bnf (bef b_1)) (by decide)))) (oC h (fun _ h=>h) fun _ h=>(bC (bnf (bef b_1)) ⟨h_p.2.2.1,(oC h (fun _ h=>(oC h (fun _ h=>h) fun _ h=>⟨(mg h_kinds (AF trivial) rfl),h⟩)) fun _ h=>h)⟩)))))
def c132:Con:=⟨[.dat TCS,.dat TPS],fun args hp K=>g2 (pD TCS) (pD TPS) (fun columns e=>(Sm TCS columns)/\(Sm TPS e)/\K (dI (M.cO columns e)) []) args hp,.plain,false⟩
abbrev C132:Ctx:=cx [(134,c134),(175,c175)] 46 [] 0 false
def ann132:=an [[kp 3],[kp 32771],[kp 16],[kp 35],[kp 99],[kp 227],[kp 8388835],[kp 227],[kp 227],[.keep [5,42]],[kp 16],[kp 16]] [[kp 96]]
abbrev s132_0 (columns:LC) (e:LPt) (v0:Bool×Int×LI):St:=⟨[(0,.data TCS columns),(1,.data TPS e),(5,.own 16 none),(6,dB v0.1),(7,dI v0.2.1)],[(16,.arr .sh aE v0.2.2)]⟩
abbrev LP132_0 (columns:LC) (e:LPt) (m:Nat) (st_:St) (K:KX):Prop:=True/\cY (s132_0 columns e) (F.cN columns e) (fun v0:Bool×Int×LI=>True) (fun e0:Bool×LI=>True->K (.exit 0) (⟨[(5,.own 16 none),(6,dB e0.1)],[(16,.arr .sh aE e0.2)]⟩:St)) m st_
def L132 (columns:LC) (e:LPt):bD:=lp1 0 (LP132_0 columns e)
theorem vc132 (columns:LC) (e:LPt) (K:KA):vcT C132 (L132 columns e) ann132 f132 [.data TCS columns,.data TPS e] [] (.dat aE) K =
 ((Sm TCS columns)/\cond ((!(M.bA columns))==false) (cond (decide ((12:Int)<(e.length:Int))) (K (dI (-1:Int)) []) (∃m_,True/\cY (s132_0 columns e) (F.cN columns e) (fun v0:Bool×Int×LI=>True) (fun e0:Bool×LI=>True->cond ((!e0.1)==false) (cond (!decide ((e0.2.length:Int)=Z1)) (K (dI (-1:Int)) []) ((0<=Z0)/\(Z0<(e0.2.length:Int))/\K (dI (nI e0.2 Z0)) [])) (K (dI (-1:Int)) [])) m_ (s132_0 columns e (true,Z0,[])))) (K (dI (-1:Int)) [])):=by kernel_rfl
theorem lvc132_0 (columns:LC) (e:LPt)  (v0:Bool×Int×LI) (m:Nat) (K:KX):lvT C132 (L132 columns e) ann132 f132 0 0 (s132_0 columns e v0) m K =
 (cond ((decide (v0.2.1<(e.length:Int)))==true) (cond v0.1 ((0<=v0.2.1)/\(v0.2.1<(e.length:Int))/\(Sm TCS columns)/\(Sm (Ty.sl aE) v0.2.2)/\(Sm aC (nP e v0.2.1))/\(v0.2.2.length<=1000)/\(LD (M.uA columns v0.2.2 (nP e v0.2.1)) fun r1=>(nxT (LP132_0 columns e) m K (s132_0 columns e (r1.2,wrap64 (v0.2.1+Z1),r1.1))))) (K (.exit 0) (⟨[(5,.own 16 none),(6,dB v0.1)],[(16,.arr .sh aE v0.2.2)]⟩:St))) (K (.exit 0) (⟨[(5,.own 16 none),(6,dB v0.1)],[(16,.arr .sh aE v0.2.2)]⟩:St))):=by kernel_rfl
theorem con132_ok:aT P 132 c132:=aZ C132 func132 (kC con134_ok (kC con175_ok kN)) fun args hp K h0=>by
 obtain⟨columns,e,rfl,rfl,h_columns,h_e,hK⟩:=g2e h0
 have h:ok (F.mR columns e) (fun r=>K (dI r) []):=az (F.uH columns e h_columns h_e) hK
 refine⟨rfl,ann132,(L132 columns e),(.dat aE),(bH (i0:=0) (by kernel_rfl) ?_),?_⟩
 ·rintro _ _ K ⟨hc0,v0,rfl,hv0,h⟩
  exact cast (lvc132_0 _ _ _ _ _).symm (cj h (fun m1 hm0 h=>(oC h (fun _ h=>(oC h (fun _ h=>(oG h fun _ h=>(oG h fun _ h=>⟨h_columns,(oG h fun _ h=>⟨(aJ h_e v0.2.1),(oG h fun _ h=>(oL h fun _ _ h=>(bn (fun _ hm=>⟨hc0,hm⟩) hm0 _ rfl trivial h)))⟩)⟩))) fun _ h=>((bX h :) trivial))) fun _ h=>((bX h :) trivial))))
 ·rw[vc132]
  exact⟨h_columns,(oC h (fun _ h=>(oC h (fun _ h=>h) fun _ h=>(bK (fun m hm=>⟨trivial,hm⟩) _ rfl trivial (eG h (fun e0 h hv0=>(oC h (fun _ h=>(oC h (fun _ h=>h) fun _ h=>⟨(Int.natCast_nonneg 0),(oG h fun _ h=>h)⟩)) fun _ h=>h)))))) fun _ h=>h)⟩
def c80:Con:=⟨[.dat TTb,.lent TCS,.dat aj],fun args hp K=>g3 (pD TTb) (pB TCS) (pD aj) (fun tables ahead s=>(Sm TTb tables)/\(Sm (Ty.sl TCS) ahead)/\(Sm aj s)/\(LD (M.eY tables ahead s) fun r=>K (.tup [.data TCS r.1,dB r.2]) [])) args hp,.plain,false⟩
abbrev C80:Ctx:=cx [(39,c39),(131,c131),(132,c132)] 185 [] 0 false
def ann80:=an [[.fixRow 5 aj,kp 35],[kp 32803],[kp 192],[kp 524323],[kp 67108897],[kp 192],[kp 192],[.keep [1,5,51]],[kp 192],[kp 290],[.keep [1,5,8,61]],[kp 6917529027641082146],[kp 192],[.keep [1,5,8,61,70]],[kp 800],[kp 1824],[.keep [5,8,9,10,77]],[kp 1824],[.keep [5,8,9,10,89]],[kp 192],[kp 1824],[kp 192],[.keep [1,5,8,61,106]],[kp 2080],[kp 192],[.keep [1,5,8,61,126]],[.keep [1,5,8,136]],[kp 192],[kp 4386],[.keep [1,5,8,12,141]],[kp 4386],[.keep [1,5,8,12,158]],[kp 192],[kp 4386],[kp 192],[.keep [8,181]],[kp 192],[kp 192]] [[],[kp 512],[],[kp 256]]
abbrev s80_1 (tables:LTb) (ahead:(List LC)) (s:aj.D) (i1:Int) (v1:LC):St:=⟨[(5,.adr aj s),(8,.own 53 none),(9,.own 72 none),(10,dI i1)],[(53,.arr .sh ag ([]++(nth (t:=TCS) ahead s.2.1))),(72,.arr .sh ag v1)]⟩
abbrev LP80_1 (tables:LTb) (ahead:(List LC)) (s:aj.D) (m:Nat) (st_:St) (K:KX):Prop:=True/\bJ (t:=aE) (s80_1 tables ahead s) s.2.2.2.2.2.1 (F.fY tables ahead s) (fun v1:LC=>True) (bq (fun v1:LC=>True->K (.exit 1) (⟨[(9,.own 72 none)],[(72,.arr .sh ag v1)]⟩:St)) (fun q1:Unit=>K .ret (⟨[(6,.own 90 none),(7,dB false)],[(90,.arr .sh ag [])]⟩:St))) m st_
abbrev s80_3 (tables:LTb) (ahead:(List LC)) (s:aj.D) (v3:Int×LC):St:=⟨[(1,.brw TCS ahead),(5,.adr aj s),(8,.own 53 none),(12,dI v3.1)],[(53,.arr .sh ag v3.2)]⟩
abbrev LP80_3 (tables:LTb) (ahead:(List LC)) (s:aj.D) (m:Nat) (st_:St) (K:KX):Prop:=True/\cY (s80_3 tables ahead s) (F.dH tables ahead s) (fun v3:Int×LC=>True) (bq (fun e3:LC=>True->K (.exit 3) (⟨[(8,.own 53 none)],[(53,.arr .sh ag e3)]⟩:St)) (fun q3:Unit=>K .ret (⟨[(6,.own 159 none),(7,dB false)],[(159,.arr .sh ag [])]⟩:St))) m st_
def L80 (tables:LTb) (ahead:(List LC)) (s:aj.D):bD:=lp2 1 (LP80_1 tables ahead s) 3 (LP80_3 tables ahead s)
theorem vc80 (tables:LTb) (ahead:(List LC)) (s:aj.D) (K:KA):vcT C80 (L80 tables ahead s) ann80 f80 [.data TTb tables,.brw TCS ahead,.data aj s] [] (.tup [TCS,Ty.bool]) K =
 ((Sm aj s)/\cond (!(M.bR s)) (K (.tup [.data TCS [],dB false]) []) (cond (decide (s.1=Z1)) (cond (!(M.inR s.2.2.2.1 Z0 (wrap64 ((tables.length:Int)-Z1)))) (K (.tup [.data TCS [],dB false]) []) ((0<=s.2.2.2.1)/\(s.2.2.2.1<(tables.length:Int))/\((([]:List ag.D).length+(nT tables s.2.2.2.1).1.length) * 16<=lim)/\K (.tup [.data TCS ([]++(nT tables s.2.2.2.1).1),dB true]) [])) (cond ((!(M.inR s.2.1 Z0 (wrap64 ((ahead.length:Int)-Z1))))==false) (cond (!(M.inR s.2.2.1 Z0 (wrap64 ((ahead.length:Int)-Z1)))) (K (.tup [.data TCS [],dB false]) []) ((0<=s.2.1)/\(s.2.1<(ahead.length:Int))/\((([]:List ag.D).length+(nth (t:=TCS) ahead s.2.1).length) * 16<=lim)/\cond (decide (s.1=Z2)) ((Sm TCS ([]++(nth (t:=TCS) ahead s.2.1)))/\(Sm TPS s.2.2.2.2.1)/\K (.tup [.data TCS ([]++(nth (t:=TCS) ahead s.2.1)),dB (decide ((M.cO ([]++(nth (t:=TCS) ahead s.2.1)) s.2.2.2.2.1)=Z3))]) []) (cond (decide (s.1=Z3)) (∃m_,True/\bJ (t:=aE) (s80_1 tables ahead s) s.2.2.2.2.2.1 (F.fY tables ahead s) (fun v1:LC=>True) (bq (fun v1:LC=>True->K (.tup [.data TCS v1,dB (decide ((v1.length:Int)<=Z4))]) []) (fun q1:Unit=>K (.tup [.data TCS [],dB false]) [])) m_ (s80_1 tables ahead s Z0 [])) (cond (decide (s.1=Z4)) ((0<=s.2.2.1)/\(s.2.2.1<(ahead.length:Int))/\((([]++(nth (t:=TCS) ahead s.2.1)).length+(nth (t:=TCS) ahead s.2.2.1).length) * 16<=lim)/\cond ((decide (((([]++(nth (t:=TCS) ahead s.2.1))++(nth (t:=TCS) ahead s.2.2.1)).length:Int)<=Z4))==true) ((Sm TCS (([]++(nth (t:=TCS) ahead s.2.1))++(nth (t:=TCS) ahead s.2.2.1)))/\(Sm TPS s.2.2.2.2.1)/\K (.tup [.data TCS (([]++(nth (t:=TCS) ahead s.2.1))++(nth (t:=TCS) ahead s.2.2.1)),dB (decide ((M.cO (([]++(nth (t:=TCS) ahead s.2.1))++(nth (t:=TCS) ahead s.2.2.1)) s.2.2.2.2.1)=Z3))]) []) (K (.tup [.data TCS (([]++(nth (t:=TCS) ahead s.2.1))++(nth (t:=TCS) ahead s.2.2.1)),dB false]) [])) (cond (decide (s.1=Z5)) ((0<=s.2.2.1)/\(s.2.2.1<(ahead.length:Int))/\cond (!decide ((([]++(nth (t:=TCS) ahead s.2.1)).length:Int)=((nth (t:=TCS) ahead s.2.2.1).length:Int))) (K (.tup [.data TCS [],dB false]) []) (∃m_,True/\cY (s80_3 tables ahead s) (F.dH tables ahead s) (fun v3:Int×LC=>True) (bq (fun e3:LC=>True->K (.tup [.data TCS e3,dB true]) []) (fun q3:Unit=>K (.tup [.data TCS [],dB false]) [])) m_ (s80_3 tables ahead s (Z0,([]++(nth (t:=TCS) ahead s.2.1)))))) (cond (decide (s.1=Z6)) (K (.tup [.data TCS ([]++(nth (t:=TCS) ahead s.2.1)),dB true]) []) (K (.tup [.data TCS [],dB false]) []))))))) (K (.tup [.data TCS [],dB false]) [])))):=by kernel_rfl
theorem lvc80_0 (tables:LTb) (ahead:(List LC)) (s:aj.D)  (i1:Int) (v1:LC) (m:Nat) (K:KX):lvT C80 (L80 tables ahead s) ann80 f80 0 1 (s80_1 tables ahead s i1 v1) m K =
 (cond (decide (i1<(s.2.2.2.2.2.1.length:Int))) ((0<=i1)/\(i1<(s.2.2.2.2.2.1.length:Int))/\cond (!(M.inR (nI s.2.2.2.2.2.1 i1) Z0 (wrap64 ((([]++(nth (t:=TCS) ahead s.2.1)).length:Int)-Z1)))) (K .ret (⟨[(6,.own 90 none),(7,dB false)],[(90,.arr .sh ag [])]⟩:St)) ((0<=i1)/\(i1<(s.2.2.2.2.2.1.length:Int))/\(0<=(nI s.2.2.2.2.2.1 i1))/\((nI s.2.2.2.2.2.1 i1)<(([]++(nth (t:=TCS) ahead s.2.1)).length:Int))/\((v1.length+([(nC ([]++(nth (t:=TCS) ahead s.2.1)) (nI s.2.2.2.2.2.1 i1))]:List ag.D).length) * 16<=lim)/\(nxT (LP80_1 tables ahead s) m K (s80_1 tables ahead s (wrap64 (i1+Z1)) (v1++[(nC ([]++(nth (t:=TCS) ahead s.2.1)) (nI s.2.2.2.2.2.1 i1))]))))) (K (.exit 1) (⟨[(9,.own 72 none)],[(72,.arr .sh ag v1)]⟩:St))):=by kernel_rfl
theorem lvc80_1 (tables:LTb) (ahead:(List LC)) (s:aj.D)  (v3:Int×LC) (m:Nat) (K:KX):lvT C80 (L80 tables ahead s) ann80 f80 1 3 (s80_3 tables ahead s v3) m K =
 (cond (decide (v3.1<(v3.2.length:Int))) ((0<=v3.1)/\(v3.1<(v3.2.length:Int))/\(0<=s.2.2.1)/\(s.2.2.1<(ahead.length:Int))/\(0<=v3.1)/\(v3.1<((nth (t:=TCS) ahead s.2.2.1).length:Int))/\cond (!decide ((nC v3.2 v3.1).1=(nC (nth (t:=TCS) ahead s.2.2.1) v3.1).1)) (K .ret (⟨[(6,.own 159 none),(7,dB false)],[(159,.arr .sh ag [])]⟩:St)) ((0<=v3.1)/\(v3.1<(v3.2.length:Int))/\cond ((nC v3.2 v3.1).2.1==false) ((0<=s.2.2.1)/\(s.2.2.1<(ahead.length:Int))/\(0<=v3.1)/\(v3.1<((nth (t:=TCS) ahead s.2.2.1).length:Int))/\(0<=v3.1)/\(v3.1<(v3.2.length:Int))/\(let y1:LC:=(v3.2.set v3.1.toNat ((nC v3.2 v3.1).1,(nC (nth (t:=TCS) ahead s.2.2.1) v3.1).2));(nxT (LP80_3 tables ahead s) m K (s80_3 tables ahead s (wrap64 (v3.1+Z1),y1))))) ((0<=v3.1)/\(v3.1<(v3.2.length:Int))/\(nxT (LP80_3 tables ahead s) m K (s80_3 tables ahead s (wrap64 (v3.1+Z1),(v3.2.set v3.1.toNat ((nC v3.2 v3.1).1,(true,()))))))))) (K (.exit 3) (⟨[(8,.own 53 none)],[(53,.arr .sh ag v3.2)]⟩:St))):=by kernel_rfl
theorem con80_ok:aT P 80 c80:=aZ C80 func80 (kC con39_ok (kC con131_ok (kC con132_ok kN))) fun args hp K h0=>by
 obtain⟨tables,ahead,s,rfl,rfl,h_tables,h_ahead,h_s,hK⟩:=g3e h0
 have h:ok (F.gA tables ahead s) (fun r=>K (.tup [.data TCS r.1,dB r.2]) []):=az (F.uq tables ahead s h_tables h_ahead h_s) (hK _ rfl)
 refine⟨rfl,ann80,(L80 tables ahead s),(.tup [TCS,Ty.bool]),(qW (i0:=1) (i1:=3) (by kernel_rfl) ?_ ?_),?_⟩
 ·rintro _ _ K ⟨hc1,i1,v1,rfl,hl1,rfl,hv1,h⟩
  exact cast (lvc80_0 _ _ _ _ _ _ _).symm (aW (t:=aE) hl1 h (fun ht1 h=>⟨hl1,⟨ht1,(oC h (fun _ h=>h) fun b_22 h=>⟨hl1,⟨ht1,⟨(fR (bnf b_22)),⟨(mC (bnf b_22)),(oG h fun _ h=>(aP (t:=aE) (fun _ hm=>⟨hc1,hm⟩) _ rfl hl1 ht1 (bu h_s.2.2.2.2.2.1) trivial h))⟩⟩⟩⟩)⟩⟩) fun h=>(h trivial))
 ·rintro _ _ K ⟨hc3,v3,rfl,hv3,h⟩
  exact cast (lvc80_1 _ _ _ _ _ _).symm (cj h (fun m1 hm3 h=>(oC h (fun _ h=>(oG h fun g1 h=>(oG h fun g2 h=>(oG h fun g3 h=>(oG h fun g4 h=>⟨g1,(oG h fun g5 h=>(oC h (fun _ h=>h) fun _ h=>⟨g1,⟨g2,(oC h (fun _ h=>⟨g3,⟨g4,⟨g1,⟨g5,⟨g1,⟨g2,(have h:=dR h _ rfl;(bn (fun _ hm=>⟨hc3,hm⟩) hm3 _ rfl trivial h))⟩⟩⟩⟩⟩⟩) fun _ h=>⟨g1,⟨g2,(bn (fun _ hm=>⟨hc3,hm⟩) hm3 _ rfl trivial h)⟩⟩)⟩⟩))⟩))))) fun _ h=>((bX h :) trivial))))
 ·rw[vc80]
  exact⟨h_s,(oC h (fun _ h=>h) fun _ h=>(oC h (fun _ h=>(oC h (fun _ h=>h) fun b_3 h=>⟨(fR (bnf b_3)),⟨(mC (bnf b_3)),⟨(mg (iB ag) (aJ h_tables s.2.2.2.1).1 rfl),h⟩⟩⟩)) fun _ h=>(oC h (fun b_4 h=>(oC h (fun _ h=>h) fun b_5 h=>⟨(fR (bnf (bgt b_4))),⟨(mC (bnf (bgt b_4))),⟨(mg (iB ag) (aJ h_ahead s.2.1) rfl),(oC h (fun _ h=>(oG h fun _ h=>⟨h_s.2.2.2.2.1,h⟩)) fun _ h=>(oC h (fun _ h=>(aQ (t:=aE) (fun m hm=>⟨trivial,hm⟩) _ rfl trivial (aU h (fun v1 h hv1=>h) (fun q1 h=>h)))) fun _ h=>(oC h (fun _ h=>⟨(fR (bnf b_5)),⟨(mC (bnf b_5)),(oG h fun _ h=>(oC h (fun _ h=>(oG h fun _ h=>⟨h_s.2.2.2.2.1,h⟩)) fun _ h=>h))⟩⟩) fun _ h=>(oC h (fun _ h=>⟨(fR (bnf b_5)),⟨(mC (bnf b_5)),(oC h (fun _ h=>h) fun _ h=>(bK (fun m hm=>⟨trivial,hm⟩) _ rfl trivial (aU h (fun e3 h hv3=>h) (fun q3 h=>h))))⟩⟩) fun _ h=>(oC h (fun _ h=>h) fun _ h=>h)))))⟩⟩⟩)) fun _ h=>h)))⟩
def c81:Con:=⟨[.lent aE,.dat aj],fun args hp K=>g2 (pB aE) (pD aj) (fun ahead s=>(Sm (Ty.sl aE) ahead)/\(Sm aj s)/\(M.oo (ahead.length:Int) s)/\K (dI (M.bf ahead s)) []) args hp,.plain,false⟩
abbrev C81:Ctx:=cx [] 40 [] 0 false
def ann81:=an [[.fixRow 3 aj,kp 9],[kp 73],[kp 201],[kp 16],[kp 585],[kp 16],[kp 4194313],[kp 16],[kp 16]] []
theorem vc81 (ahead:LI) (s:aj.D) (K:KA):vcT C81 ay ann81 f81 [.brw aE ahead,.data aj s] [] (.dat aE) K =
 (cond (decide (s.1=Z1)) (K (dI Z6) []) (cond (decide (s.1=Z4)) ((0<=s.2.1)/\(s.2.1<(ahead.length:Int))/\(0<=s.2.2.1)/\(s.2.2.1<(ahead.length:Int))/\K (dI (wrap64 ((nI ahead s.2.1) * (nI ahead s.2.2.1)))) []) (cond (decide (s.1=Z5)) ((0<=s.2.1)/\(s.2.1<(ahead.length:Int))/\(0<=s.2.2.1)/\(s.2.2.1<(ahead.length:Int))/\K (dI (wrap64 ((nI ahead s.2.1)+(nI ahead s.2.2.1)))) []) ((0<=s.2.1)/\(s.2.1<(ahead.length:Int))/\K (dI (nI ahead s.2.1)) [])))):=by kernel_rfl
theorem con81_ok:aT P 81 c81:=aZ C81 func81 kN fun args hp K h0=>by
 obtain⟨ahead,s,rfl,rfl,h_ahead,h_s,p0,hK⟩:=g2e h0
 have h:ok (F.qa ahead s) (fun r=>K (dI r) []):=az (F.ym ahead s h_ahead h_s p0) hK
 refine⟨rfl,ann81,ay,(.dat aE),(aG (by kernel_rfl)),?_⟩
 ·rw[vc81]
  exact(oC h (fun _ h=>h) fun _ h=>(oC h (fun _ h=>(oG h fun _ h=>(oG h fun _ h=>(oG h fun _ h=>(oG h fun _ h=>h))))) fun _ h=>(oC h (fun _ h=>(oG h fun _ h=>(oG h fun _ h=>(oG h fun _ h=>(oG h fun _ h=>h))))) fun _ h=>(oG h fun _ h=>(oG h fun _ h=>h)))))
def c37:Con:=⟨[.dat TTb,.lent aj],fun args hp K=>g2 (pD TTb) (pB aj) (fun tables plan=>(Sm TTb tables)/\(Sm TSS plan)/\(LD (M.dg tables plan) fun r=>K (.tup [.data (Ty.sl TCS) r.1,dB r.2]) [])) args hp,.plain,false⟩
abbrev C37:Ctx:=cx [(80,c80),(81,c81)] 52 [] 0 false
def ann37:=an [[kp 3],[kp 67],[kp 195],[kp 451],[kp 65987],[kp 451],[kp 1987],[kp 1073742787],[.freeze 31,kp 48],[kp 451],[kp 451],[kp 562949953421763],[.freeze 50,kp 48],[kp 48]] [[kp 64]]
abbrev s37_0 (tables:LTb) (plan:LS) (i0:Int) (v0:(List LC)×LI):St:=⟨[(0,.data TTb tables),(1,.brw aj plan),(6,.own 11 none),(7,.own 12 none),(8,dI i0)],[(11,.arr .sh TCS v0.1),(12,.arr .sh aE v0.2)]⟩
abbrev LP37_0 (tables:LTb) (plan:LS) (m:Nat) (st_:St) (K:KX):Prop:=True/\dJ (s37_0 tables plan) Z0 (plan.length:Int) (F.ia tables plan) (fun v0:(List LC)×LI=>True) (bq (fun v0:(List LC)×LI=>True->K (.exit 0) (⟨[(6,.own 11 none)],[(11,.arr .sh TCS v0.1)]⟩:St)) (fun q0:Unit=>K .ret (⟨[(4,.data (Ty.sl TCS) []),(5,dB false)],[]⟩:St))) m st_
def L37 (tables:LTb) (plan:LS):bD:=lp1 0 (LP37_0 tables plan)
theorem vc37 (tables:LTb) (plan:LS) (K:KA):vcT C37 (L37 tables plan) ann37 f37 [.data TTb tables,.brw aj plan] [] (.tup [(Ty.sl TCS),Ty.bool]) K =
 (∃m_,True/\dJ (s37_0 tables plan) Z0 (plan.length:Int) (F.ia tables plan) (fun v0:(List LC)×LI=>True) (bq (fun v0:(List LC)×LI=>True->K (.tup [.data (Ty.sl TCS) v0.1,dB true]) []) (fun q0:Unit=>K (.tup [.data (Ty.sl TCS) [],dB false]) [])) m_ (s37_0 tables plan Z0 ([],[]))):=by kernel_rfl
theorem lvc37_0 (tables:LTb) (plan:LS)  (i0:Int) (v0:(List LC)×LI) (m:Nat) (K:KX):lvT C37 (L37 tables plan) ann37 f37 0 0 (s37_0 tables plan i0 v0) m K =
 (cond (decide (i0<(plan.length:Int))) ((0<=i0)/\(i0<(plan.length:Int))/\(Sm TTb tables)/\(Sm (Ty.sl TCS) v0.1)/\(Sm aj (nS plan i0))/\(LD (M.eY tables v0.1 (nS plan i0)) fun r1=>cond (!r1.2) (K .ret (⟨[(4,.data (Ty.sl TCS) []),(5,dB false)],[]⟩:St)) (((v0.1.length+[r1.1].length) * 24<=lim)/\(0<=i0)/\(i0<(plan.length:Int))/\(Sm (Ty.sl aE) v0.2)/\(Sm aj (nS plan i0))/\(M.oo (v0.2.length:Int) (nS plan i0))/\((v0.2.length+[(M.bf v0.2 (nS plan i0))].length) * 8<=lim)/\(0<=i0)/\(i0<((v0.2++[(M.bf v0.2 (nS plan i0))]).length:Int))/\cond (decide ((300:Int)<(nI (v0.2++[(M.bf v0.2 (nS plan i0))]) i0))) (K .ret (⟨[(4,.data (Ty.sl TCS) []),(5,dB false)],[]⟩:St)) (nxT (LP37_0 tables plan) m K (s37_0 tables plan (wrap64 (i0+Z1)) ((v0.1++[r1.1]),(v0.2++[(M.bf v0.2 (nS plan i0))]))))))) (K (.exit 0) (⟨[(6,.own 11 none)],[(11,.arr .sh TCS v0.1)]⟩:St))):=by kernel_rfl
theorem con37_ok:aT P 37 c37:=aZ C37 func37 (kC con80_ok (kC con81_ok kN)) fun args hp K h0=>by
 obtain⟨tables,plan,rfl,rfl,h_tables,h_plan,hK⟩:=g2e h0
 have h:ok (F.rY tables plan) (fun r=>K (.tup [.data (Ty.sl TCS) r.1,dB r.2]) []):=az (F.zl tables plan h_tables h_plan) (hK _ rfl)
 refine⟨rfl,ann37,(L37 tables plan),(.tup [(Ty.sl TCS),Ty.bool]),(bH (i0:=0) (by kernel_rfl) ?_),?_⟩
 ·rintro _ _ K ⟨hc0,i0,v0,rfl,hl0,rfl,hv0,h⟩
  exact cast (lvc37_0 _ _ _ _ _ _).symm (cC h (fun ht0 h=>⟨hl0,⟨ht0,⟨h_tables,(oG h fun _ h=>⟨(aJ h_plan i0),(oL h fun _ _ h=>(oC h (fun _ h=>h) fun _ h=>(oG h fun _ h=>⟨hl0,⟨ht0,(oG h fun _ h=>⟨(aJ h_plan i0),(oG h fun _ h=>(oG h fun _ h=>⟨hl0,(oG h fun _ h=>(oC h (fun _ h=>h) fun _ h=>(bT (fun _ hm=>⟨hc0,hm⟩) _ rfl hl0 nu ht0 (bu h_plan) trivial h)))⟩))⟩)⟩⟩)))⟩)⟩⟩⟩) fun h=>(h trivial))
 ·rw[vc37]
  exact(bZ (fun m hm=>⟨trivial,hm⟩) Z0 _ rfl (Int.natCast_nonneg 0) trivial (aU h (fun v0 h hv0=>h) (fun q0 h=>h)))
def c75:Con:=⟨[.any,.dat TTb],fun args hp K=>hpR (fun b p=>args2 (fun a0 a1=>mc a0 (fy TTb a1 fun tables=>(Sm TBy b)/\(Sm TTb tables)/\(M.aq b)/\(0<=p)/\(p<=995000000000000)/\(∀t∈tables,M.gX t)/\(LD (M.jH b p tables) fun r=>K (.own 0 none) [(0,.arr .sh aj r.1),(1000000,.box [.data TBy b,dI r.2])]))) args []) hp,.plain,true⟩
abbrev C75:Ctx:=cx [(35,c35),(37,c37),(76,c76),(80,c80)] 165 [] 0 true
def ann75:=an [[kp 3],[.weak 26,kp 35],[kp 99],[kp 1073741923],[kp 99],[kp 483],[kp 1099511628003],[kp 16],[kp 739],[kp 1763],[kp 2251799813687011],[kp 1763],[kp 3811],[kp 288230376151715555],[kp 864691128455139043],[kp 2147],[kp 590584040734857367267],[kp 3299],[.mineC .sh 11 5 800181 aE,kp 7395],[kp 19342813113834066795306211],[kp 7395],[kp 7395],[kp 633825300114402931124503318243],[kp 633825300114402931124503318243],[kp 11491],[kp 27747],[kp 332306998946228968225951765070113891],[kp 2147],[kp 42535295865117307933210056305122741987],[.mineC .sh 11 4 800180 aC,.freeze 800180,.mineC .sh 11 5 800182 aE,.freeze 800182,kp 36579],[.keep [0,1,5,6,7,9,10,11,15,129]],[kp 36579],[.fixRow 16 aj,kp 102115],[kp 364259],[.keep [0,1,5,6,7,9,10,11,15,16,142]],[kp 36579],[.keep [0,1,5,6,10,11,144]],[kp 2147],[kp 1050723],[.keep [0,1,5,6,11,159]],[kp 99],[kp 16]] [[kp 32],[],[.freeze 67,.freeze 123,.freeze 800181,.mineC .sh 11 4 800180 aC,.freeze 800180,.mineC .sh 11 5 800182 aE,.freeze 800182,kp 2147],[kp 2147],[],[kp 2147]]
abbrev s75_0 (b:LI) (p:Int) (tables:LTb) (v0:Int×Int×LS):St:=⟨[(0,.ptr 1000000 0),(1,.data TTb tables),(5,.own 26 none),(6,dI v0.1)],[(1000000,.box [.data TBy b,dI v0.2.1]),(26,.arr .sh aj v0.2.2)]⟩
abbrev LP75_0 (b:LI) (p:Int) (tables:LTb) (m:Nat) (st_:St) (K:KX):Prop:=True/\cY (s75_0 b p tables) (F.iy b p tables) (fun v0:Int×Int×LS=>True) (bq (fun e0:Int×LS=>True->K (.exit 0) (⟨[(5,.own 26 none)],[(1000000,.box [.data TBy b,dI e0.1]),(26,.arr .sh aj e0.2)]⟩:St)) (fun q0:Int×LS=>K .ret (⟨[(4,.own 26 none)],[(1000000,.box [.data TBy b,dI q0.1]),(26,.arr .sh aj q0.2)]⟩:St))) m st_
abbrev s75_2 (b:LI) (p:Int) (tables:LTb) (c2_0:Int) (c2_1:(List LC)) (c2_2:Int) (c2_3:Int) (c2_4:Int) (c2_5:Int) (c2_6:LS) (c2_7:Int) (v2:Unit):St:=⟨[(0,.ptr 1000000 0),(1,.data TTb tables),(5,.own 26 none),(6,dI c2_0),(7,.data (Ty.sl TCS) c2_1),(9,dI c2_2),(10,dI c2_3),(11,.ptr 11 0),(58,dI c2_4)],[(1000000,.box [.data TBy b,dI c2_5]),(26,.arr .sh aj c2_6),(11,.box [dI Z1,dI Z0,dI Z0,dI c2_7,.cst (.slice none 0 0),.cst (.slice none 0 0)])]⟩
abbrev LP75_2 (b:LI) (p:Int) (tables:LTb) (m:Nat) (st_:St) (K:KX):Prop:=∃c2_0:Int,∃c2_1:(List LC),∃c2_2:Int,∃c2_3:Int,∃c2_4:Int,∃c2_5:Int,∃c2_6:LS,∃c2_7:Int,True/\cY (s75_2 b p tables c2_0 c2_1 c2_2 c2_3 c2_4 c2_5 c2_6 c2_7) (F.dN b p tables c2_0 c2_1 c2_2 c2_3 c2_4 c2_5 c2_6 c2_7) (fun v2:Unit=>True) (fun e2:Int×Int×Int×Int×Int×LPt×LI=>True->K (.exit 2) (⟨[(0,.ptr 1000000 0),(1,.data TTb tables),(5,.own 26 none),(6,dI c2_0),(11,.ptr 11 0)],[(1000000,.box [.data TBy b,dI e2.1]),(26,.arr .sh aj c2_6),(11,.box [dI e2.2.1,dI e2.2.2.1,dI e2.2.2.2.1,dI e2.2.2.2.2.1,.data TPS e2.2.2.2.2.2.1,.data (Ty.sl aE) e2.2.2.2.2.2.2])]⟩:St)) m st_
abbrev s75_3 (b:LI) (p:Int) (tables:LTb) (c3_0:Int) (c3_1:(List LC)) (c3_2:Int) (c3_3:LS) (c3_4:Int) (v3:Int×Int×LI):St:=⟨[(0,.ptr 1000000 0),(1,.data TTb tables),(5,.own 26 none),(6,dI c3_0),(7,.data (Ty.sl TCS) c3_1),(10,dI c3_2),(11,.ptr 11 0),(12,dI v3.1)],[(1000000,.box [.data TBy b,dI v3.2.1]),(26,.arr .sh aj c3_3),(11,.box [dI Z3,dI c3_4,dI Z0,dI Z0,.cst (.slice none 0 0),.own 800181 none]),(800181,.arr .sh aE v3.2.2)]⟩
abbrev LP75_3 (b:LI) (p:Int) (tables:LTb) (m:Nat) (st_:St) (K:KX):Prop:=∃c3_0:Int,∃c3_1:(List LC),∃c3_2:Int,∃c3_3:LS,∃c3_4:Int,True/\cY (s75_3 b p tables c3_0 c3_1 c3_2 c3_3 c3_4) (F.fE b p tables c3_0 c3_1 c3_2 c3_3 c3_4) (fun v3:Int×Int×LI=>True) (fun e3:Int×LI=>True->K (.exit 3) (⟨[(0,.ptr 1000000 0),(1,.data TTb tables),(5,.own 26 none),(6,dI c3_0),(11,.ptr 11 0)],[(1000000,.box [.data TBy b,dI e3.1]),(26,.arr .sh aj c3_3),(11,.box [dI Z3,dI c3_4,dI Z0,dI Z0,.cst (.slice none 0 0),.own 800181 none]),(800181,.arr .sh aE e3.2)]⟩:St)) m st_
abbrev s75_5 (b:LI) (p:Int) (tables:LTb) (c5_0:Int) (c5_1:(List LC)) (c5_2:Int) (c5_3:Int) (c5_4:Int) (c5_5:LS) (i5:Int) (v5:Int×Int×Int×Int):St:=⟨[(0,.ptr 1000000 0),(1,.data TTb tables),(5,.own 26 none),(6,dI c5_0),(7,.data (Ty.sl TCS) c5_1),(9,dI c5_2),(10,dI c5_3),(11,.ptr 11 0),(15,dI i5)],[(1000000,.box [.data TBy b,dI c5_4]),(26,.arr .sh aj c5_5),(11,.box [dI v5.1,dI v5.2.1,dI v5.2.2.1,dI v5.2.2.2,.data TPS [],.data (Ty.sl aE) []])]⟩
abbrev LP75_5 (b:LI) (p:Int) (tables:LTb) (m:Nat) (st_:St) (K:KX):Prop:=∃c5_0:Int,∃c5_1:(List LC),∃c5_2:Int,∃c5_3:Int,∃c5_4:Int,∃c5_5:LS,(c5_2<=nO/\True)/\dJ (s75_5 b p tables c5_0 c5_1 c5_2 c5_3 c5_4 c5_5) Z0 c5_2 (F.fJ b p tables c5_0 c5_1 c5_2 c5_3 c5_4 c5_5) (fun v5:Int×Int×Int×Int=>True) (bq (fun v5:Int×Int×Int×Int=>True->K (.exit 5) (⟨[(0,.ptr 1000000 0),(1,.data TTb tables),(5,.own 26 none),(6,dI c5_0),(11,.ptr 11 0)],[(1000000,.box [.data TBy b,dI c5_4]),(26,.arr .sh aj c5_5),(11,.box [dI v5.1,dI v5.2.1,dI v5.2.2.1,dI v5.2.2.2,.data TPS [],.data (Ty.sl aE) []])]⟩:St)) (fun _=>False)) m st_
def L75 (b:LI) (p:Int) (tables:LTb):bD:=fun id m st_ K=>match id with
 | 0=>LP75_0 b p tables m st_ K
 | 2=>LP75_2 b p tables m st_ K
 | 3=>LP75_3 b p tables m st_ K
 | 5=>LP75_5 b p tables m st_ K
 | _=>False
theorem vc75 (b:LI) (p:Int) (tables:LTb) (K:KA):vcT C75 (L75 b p tables) ann75 (rW [(1000002,true)] f75) [.ptr 1000000 0,.data TTb tables] [(1000000,.box [.data TBy b,dI p])] .raw K =
 ((Sm TBy b)/\(M.aq b)/\(0<=p)/\(p<=1000000000000000)/\(LD (M.pick b p (tables.length:Int)) fun r1=>(Sm TBy b)/\(M.aq b)/\(0<=r1.2)/\(r1.2<=1000000000000000)/\(LD (M.pick b r1.2 Z6) fun r2=>(∃m_,True/\cY (s75_0 b p tables) (F.iy b p tables) (fun v0:Int×Int×LS=>True) (bq (fun e0:Int×LS=>True->K (.own 0 none) [(0,.arr .sh aj e0.2),(1000000,.box [.data TBy b,dI e0.1])]) (fun q0:Int×LS=>K (.own 0 none) [(0,.arr .sh aj q0.2),(1000000,.box [.data TBy b,dI q0.1])])) m_ (s75_0 b p tables (r2.1,r2.2,[(Z1,(Z0,(Z0,(r1.1,([],([],()))))))])))))):=by kernel_rfl
theorem lvc75_0 (b:LI) (p:Int) (tables:LTb)  (v0:Int×Int×LS) (m:Nat) (K:KX):lvT C75 (L75 b p tables) ann75 (rW [(1000002,true)] f75) 0 0 (s75_0 b p tables v0) m K =
 (cond (decide (Z0<v0.1)) ((Sm TTb tables)/\(Sm TSS v0.2.2)/\(LD (M.dg tables v0.2.2) fun r3=>cond (!r3.2) (K .ret (⟨[(4,.own 26 none)],[(1000000,.box [.data TBy b,dI v0.2.1]),(26,.arr .sh aj v0.2.2)]⟩:St)) ((Sm TBy b)/\(M.aq b)/\(0<=v0.2.1)/\(v0.2.1<=1000000000000000)/\(LD (M.pick b v0.2.1 Z5) fun r4=>(Z4≠0)/\cond (decide (wrap64 (wrap64 ((v0.2.2.length:Int)-Z1)-(wrap64 (r4.1.tdiv Z4)))<Z0)) ((Sm TBy b)/\(M.aq b)/\(0<=r4.2)/\(r4.2<=1000000000000000)/\(LD (M.pick b r4.2 (tables.length:Int)) fun r5=>(Sm TBy b)/\(M.aq b)/\(0<=r5.2)/\(r5.2<=1000000000000000)/\(LD (M.pick b r5.2 (7:Int)) fun r6=>(∃m_,∃c2_0:Int,∃c2_1:(List LC),∃c2_2:Int,∃c2_3:Int,∃c2_4:Int,∃c2_5:Int,∃c2_6:LS,∃c2_7:Int,True/\cY (s75_2 b p tables c2_0 c2_1 c2_2 c2_3 c2_4 c2_5 c2_6 c2_7) (F.dN b p tables c2_0 c2_1 c2_2 c2_3 c2_4 c2_5 c2_6 c2_7) (fun v2:Unit=>True) (fun e2:Int×Int×Int×Int×Int×LPt×LI=>True->Q5 (((([]:List aj.D).length+c2_6.length) * 80<=lim)/\((([]++c2_6).length+[(e2.2.1,(e2.2.2.1,(e2.2.2.2.1,(e2.2.2.2.2.1,(e2.2.2.2.2.2.1,(e2.2.2.2.2.2.2,()))))))].length) * 80<=lim)/\(Sm TTb tables)/\(Sm TSS (([]++c2_6)++[(e2.2.1,(e2.2.2.1,(e2.2.2.2.1,(e2.2.2.2.2.1,(e2.2.2.2.2.2.1,(e2.2.2.2.2.2.2,()))))))]))/\(LD (M.dg tables (([]++c2_6)++[(e2.2.1,(e2.2.2.1,(e2.2.2.2.1,(e2.2.2.2.2.1,(e2.2.2.2.2.2.1,(e2.2.2.2.2.2.2,()))))))])) fun r7=>cond r7.2 (((c2_6.length+[(e2.2.1,(e2.2.2.1,(e2.2.2.2.1,(e2.2.2.2.2.1,(e2.2.2.2.2.2.1,(e2.2.2.2.2.2.2,()))))))].length) * 80<=lim)/\(nxT (LP75_0 b p tables) m K (s75_0 b p tables (wrap64 (c2_0-Z1),e2.1,(c2_6++[(e2.2.1,(e2.2.2.1,(e2.2.2.2.1,(e2.2.2.2.2.1,(e2.2.2.2.2.2.1,(e2.2.2.2.2.2.2,()))))))]))))) (nxT (LP75_0 b p tables) m K (s75_0 b p tables (wrap64 (c2_0-Z1),e2.1,c2_6)))))) m_ (s75_2 b p tables v0.1 r3.1 (v0.2.2.length:Int) Z0 r6.1 r6.2 v0.2.2 r5.1 ()))))) ((Sm TBy b)/\(M.aq b)/\(0<=r4.2)/\(r4.2<=1000000000000000)/\(LD (M.pick b r4.2 (tables.length:Int)) fun r5=>(Sm TBy b)/\(M.aq b)/\(0<=r5.2)/\(r5.2<=1000000000000000)/\(LD (M.pick b r5.2 (7:Int)) fun r6=>(∃m_,∃c2_0:Int,∃c2_1:(List LC),∃c2_2:Int,∃c2_3:Int,∃c2_4:Int,∃c2_5:Int,∃c2_6:LS,∃c2_7:Int,True/\cY (s75_2 b p tables c2_0 c2_1 c2_2 c2_3 c2_4 c2_5 c2_6 c2_7) (F.dN b p tables c2_0 c2_1 c2_2 c2_3 c2_4 c2_5 c2_6 c2_7) (fun v2:Unit=>True) (fun e2:Int×Int×Int×Int×Int×LPt×LI=>True->Q5 (((([]:List aj.D).length+c2_6.length) * 80<=lim)/\((([]++c2_6).length+[(e2.2.1,(e2.2.2.1,(e2.2.2.2.1,(e2.2.2.2.2.1,(e2.2.2.2.2.2.1,(e2.2.2.2.2.2.2,()))))))].length) * 80<=lim)/\(Sm TTb tables)/\(Sm TSS (([]++c2_6)++[(e2.2.1,(e2.2.2.1,(e2.2.2.2.1,(e2.2.2.2.2.1,(e2.2.2.2.2.2.1,(e2.2.2.2.2.2.2,()))))))]))/\(LD (M.dg tables (([]++c2_6)++[(e2.2.1,(e2.2.2.1,(e2.2.2.2.1,(e2.2.2.2.2.1,(e2.2.2.2.2.2.1,(e2.2.2.2.2.2.2,()))))))])) fun r7=>cond r7.2 (((c2_6.length+[(e2.2.1,(e2.2.2.1,(e2.2.2.2.1,(e2.2.2.2.2.1,(e2.2.2.2.2.2.1,(e2.2.2.2.2.2.2,()))))))].length) * 80<=lim)/\(nxT (LP75_0 b p tables) m K (s75_0 b p tables (wrap64 (c2_0-Z1),e2.1,(c2_6++[(e2.2.1,(e2.2.2.1,(e2.2.2.2.1,(e2.2.2.2.2.1,(e2.2.2.2.2.2.1,(e2.2.2.2.2.2.2,()))))))]))))) (nxT (LP75_0 b p tables) m K (s75_0 b p tables (wrap64 (c2_0-Z1),e2.1,c2_6)))))) m_ (s75_2 b p tables v0.1 r3.1 (v0.2.2.length:Int) (wrap64 (wrap64 ((v0.2.2.length:Int)-Z1)-(wrap64 (r4.1.tdiv Z4)))) r6.1 r6.2 v0.2.2 r5.1 ()))))))))) (K (.exit 0) (⟨[(5,.own 26 none)],[(1000000,.box [.data TBy b,dI v0.2.1]),(26,.arr .sh aj v0.2.2)]⟩:St))):=by kernel_rfl
abbrev S75l2_0 (b:LI) (p:Int) (tables:LTb) (c2_0:Int) (c2_1:(List LC)) (c2_2:Int) (c2_3:Int) (c2_4:Int) (c2_5:Int) (c2_6:LS) (c2_7:Int) (v2:Unit) (m:Nat) (K:KX):Prop:=(Sm TBy b)/\(M.aq b)/\(0<=c2_5)/\(c2_5<=1000000000000000)/\(LD (M.pick b c2_5 c2_2) fun r8=>(0<=c2_3)/\(c2_3<(c2_1.length:Int))/\(0<=r8.1)/\(r8.1<(c2_1.length:Int))/\((([]:List ag.D).length+(nth (t:=TCS) c2_1 c2_3).length) * 16<=lim)/\((([]++(nth (t:=TCS) c2_1 c2_3)).length+(nth (t:=TCS) c2_1 r8.1).length) * 16<=lim)/\cond (decide (((([]++(nth (t:=TCS) c2_1 c2_3))++(nth (t:=TCS) c2_1 r8.1)).length:Int)<=Z4)) ((Sm TBy b)/\(Sm TCS (([]++(nth (t:=TCS) c2_1 c2_3))++(nth (t:=TCS) c2_1 r8.1)))/\(M.aq b)/\(0<=r8.2)/\(r8.2+40 * (M.eB Z2:Int)<=996000000000000)/\(Z2<=3)/\(Z2.toNat<64)/\(LD (M.bB 64 b r8.2 (([]++(nth (t:=TCS) c2_1 c2_3))++(nth (t:=TCS) c2_1 r8.1)) Z3 Z2) fun r9=>K (.exit 2) (⟨[(0,.ptr 1000000 0),(1,.data TTb tables),(5,.own 26 none),(6,dI c2_0),(11,.ptr 11 0)],[(1000000,.box [.data TBy b,dI r9.2]),(26,.arr .sh aj c2_6),(11,.box [dI Z4,dI c2_3,dI r8.1,dI Z0,.data TPS r9.1,.data (Ty.sl aE) []])]⟩:St))) (K (.exit 2) (⟨[(0,.ptr 1000000 0),(1,.data TTb tables),(5,.own 26 none),(6,dI c2_0),(11,.ptr 11 0)],[(1000000,.box [.data TBy b,dI r8.2]),(26,.arr .sh aj c2_6),(11,.box [dI Z1,dI Z0,dI Z0,dI c2_7,.data TPS [],.data (Ty.sl aE) []])]⟩:St)))
abbrev S75l2_1 (b:LI) (p:Int) (tables:LTb) (c2_0:Int) (c2_1:(List LC)) (c2_2:Int) (c2_3:Int) (c2_4:Int) (c2_5:Int) (c2_6:LS) (c2_7:Int) (v2:Unit) (m:Nat) (K:KX):Prop:=cond (decide (c2_4=Z4)) (∃m_,∃c5_0:Int,∃c5_1:(List LC),∃c5_2:Int,∃c5_3:Int,∃c5_4:Int,∃c5_5:LS,(c5_2<=nO/\True)/\dJ (s75_5 b p tables c5_0 c5_1 c5_2 c5_3 c5_4 c5_5) Z0 c5_2 (F.fJ b p tables c5_0 c5_1 c5_2 c5_3 c5_4 c5_5) (fun v5:Int×Int×Int×Int=>True) (bq (fun v5:Int×Int×Int×Int=>True->K (.exit 2) (⟨[(0,.ptr 1000000 0),(1,.data TTb tables),(5,.own 26 none),(6,dI c5_0),(11,.ptr 11 0)],[(1000000,.box [.data TBy b,dI c5_4]),(26,.arr .sh aj c5_5),(11,.box [dI v5.1,dI v5.2.1,dI v5.2.2.1,dI v5.2.2.2,.data TPS [],.data (Ty.sl aE) []])]⟩:St)) (fun _=>False)) m_ (s75_5 b p tables c2_0 c2_1 c2_2 c2_3 c2_5 c2_6 Z0 (Z1,Z0,Z0,c2_7))) (cond (decide (c2_4=Z5)) (K (.exit 2) (⟨[(0,.ptr 1000000 0),(1,.data TTb tables),(5,.own 26 none),(6,dI c2_0),(11,.ptr 11 0)],[(1000000,.box [.data TBy b,dI c2_5]),(26,.arr .sh aj c2_6),(11,.box [dI Z6,dI c2_3,dI Z0,dI Z0,.data TPS [],.data (Ty.sl aE) []])]⟩:St)) (K (.exit 2) (⟨[(0,.ptr 1000000 0),(1,.data TTb tables),(5,.own 26 none),(6,dI c2_0),(11,.ptr 11 0)],[(1000000,.box [.data TBy b,dI c2_5]),(26,.arr .sh aj c2_6),(11,.box [dI Z1,dI Z0,dI Z0,dI c2_7,.data TPS [],.data (Ty.sl aE) []])]⟩:St)))
theorem lvc75_1 (b:LI) (p:Int) (tables:LTb) (c2_0:Int) (c2_1:(List LC)) (c2_2:Int) (c2_3:Int) (c2_4:Int) (c2_5:Int) (c2_6:LS) (c2_7:Int) (v2:Unit) (m:Nat) (K:KX):lvT C75 (L75 b p tables) ann75 (rW [(1000002,true)] f75) 1 2 (s75_2 b p tables c2_0 c2_1 c2_2 c2_3 c2_4 c2_5 c2_6 c2_7 v2) m K =
 (cond (decide (c2_4=Z0)) ((0<=c2_3)/\(c2_3<(c2_1.length:Int))/\(Sm TBy b)/\(Sm TCS (nth (t:=TCS) c2_1 c2_3))/\(M.aq b)/\(0<=c2_5)/\(c2_5+40 * (M.eB Z2:Int)<=996000000000000)/\(Z2<=3)/\(Z2.toNat<64)/\(LD (M.bB 64 b c2_5 (nth (t:=TCS) c2_1 c2_3) Z3 Z2) fun r10=>K (.exit 2) (⟨[(0,.ptr 1000000 0),(1,.data TTb tables),(5,.own 26 none),(6,dI c2_0),(11,.ptr 11 0)],[(1000000,.box [.data TBy b,dI r10.2]),(26,.arr .sh aj c2_6),(11,.box [dI Z2,dI c2_3,dI Z0,dI Z0,.data TPS r10.1,.data (Ty.sl aE) []])]⟩:St))) (cond (decide (c2_4=Z1)) ((Sm TBy b)/\(M.aq b)/\(0<=c2_5)/\(c2_5<=1000000000000000)/\(LD (M.pick b c2_5 Z3) fun r11=>(∃m_,∃c3_0:Int,∃c3_1:(List LC),∃c3_2:Int,∃c3_3:LS,∃c3_4:Int,True/\cY (s75_3 b p tables c3_0 c3_1 c3_2 c3_3 c3_4) (F.fE b p tables c3_0 c3_1 c3_2 c3_3 c3_4) (fun v3:Int×Int×LI=>True) (fun e3:Int×LI=>True->K (.exit 2) (⟨[(0,.ptr 1000000 0),(1,.data TTb tables),(5,.own 26 none),(6,dI c3_0),(11,.ptr 11 0)],[(1000000,.box [.data TBy b,dI e3.1]),(26,.arr .sh aj c3_3),(11,.box [dI Z3,dI c3_4,dI Z0,dI Z0,.data TPS [],.data (Ty.sl aE) e3.2])]⟩:St)) m_ (s75_3 b p tables c2_0 c2_1 c2_3 c2_6 c2_3 (r11.1,r11.2,[]))))) (cond (decide (c2_4=Z2)) (cond (decide (c2_4=Z2)) (S75l2_0  b p tables c2_0 c2_1 c2_2 c2_3 c2_4 c2_5 c2_6 c2_7 v2 m K) (S75l2_1  b p tables c2_0 c2_1 c2_2 c2_3 c2_4 c2_5 c2_6 c2_7 v2 m K)) (cond (decide (c2_4=Z3)) (S75l2_0  b p tables c2_0 c2_1 c2_2 c2_3 c2_4 c2_5 c2_6 c2_7 v2 m K) (S75l2_1  b p tables c2_0 c2_1 c2_2 c2_3 c2_4 c2_5 c2_6 c2_7 v2 m K))))):=by kernel_rfl
abbrev S75l3_0 (b:LI) (p:Int) (tables:LTb) (c3_0:Int) (c3_1:(List LC)) (c3_2:Int) (c3_3:LS) (c3_4:Int) (v3:Int×Int×LI) (m:Nat) (K:KX):Prop:=K (.exit 3) (⟨[(0,.ptr 1000000 0),(1,.data TTb tables),(5,.own 26 none),(6,dI c3_0),(11,.ptr 11 0)],[(1000000,.box [.data TBy b,dI v3.2.1]),(26,.arr .sh aj c3_3),(11,.box [dI Z3,dI c3_4,dI Z0,dI Z0,.cst (.slice none 0 0),.own 800181 none]),(800181,.arr .sh aE v3.2.2)]⟩:St)
theorem lvc75_2 (b:LI) (p:Int) (tables:LTb) (c3_0:Int) (c3_1:(List LC)) (c3_2:Int) (c3_3:LS) (c3_4:Int) (v3:Int×Int×LI) (m:Nat) (K:KX):lvT C75 (L75 b p tables) ann75 (rW [(1000002,true)] f75) 2 3 (s75_3 b p tables c3_0 c3_1 c3_2 c3_3 c3_4 v3) m K =
 (cond ((decide (Z0<=v3.1))==true) ((0<=c3_2)/\(c3_2<(c3_1.length:Int))/\cond (decide (Z0<((nth (t:=TCS) c3_1 c3_2).length:Int))) ((0<=c3_2)/\(c3_2<(c3_1.length:Int))/\((Sm TBy b)/\(M.aq b)/\(0<=v3.2.1)/\(v3.2.1<=1000000000000000)/\(LD (M.pick b v3.2.1 ((nth (t:=TCS) c3_1 c3_2).length:Int)) fun r12=>((v3.2.2.length+[r12.1].length) * 8<=lim)/\(nxT (LP75_3 b p tables) m K (s75_3 b p tables c3_0 c3_1 c3_2 c3_3 c3_4 (wrap64 (v3.1-Z1),r12.2,(v3.2.2++[r12.1]))))))/\((Sm TBy b)/\(M.aq b)/\(0<=v3.2.1)/\(v3.2.1<=1000000000000000)/\(LD (M.pick b v3.2.1 ((nth (t:=TCS) c3_1 c3_2).length:Int)) fun r12=>Q0 (((v3.2.2.length+[r12.1].length) * 8<=lim)/\(nxT (LP75_3 b p tables) m K (s75_3 b p tables c3_0 c3_1 c3_2 c3_3 c3_4 (wrap64 (v3.1-Z1),r12.2,(v3.2.2++[r12.1])))))))) (S75l3_0  b p tables c3_0 c3_1 c3_2 c3_3 c3_4 v3 m K)) (S75l3_0  b p tables c3_0 c3_1 c3_2 c3_3 c3_4 v3 m K)):=by kernel_rfl
theorem lvc75_3 (b:LI) (p:Int) (tables:LTb) (c5_0:Int) (c5_1:(List LC)) (c5_2:Int) (c5_3:Int) (c5_4:Int) (c5_5:LS) (i5:Int) (v5:Int×Int×Int×Int) (m:Nat) (K:KX):lvT C75 (L75 b p tables) ann75 (rW [(1000002,true)] f75) 3 5 (s75_5 b p tables c5_0 c5_1 c5_2 c5_3 c5_4 c5_5 i5 v5) m K =
 (cond (decide (i5<c5_2)) ((Sm TTb tables)/\(Sm (Ty.sl TCS) c5_1)/\(Sm aj (Z5,(c5_3,(i5,(Z0,([],([],())))))))/\(LD (M.eY tables c5_1 (Z5,(c5_3,(i5,(Z0,([],([],()))))))) fun r13=>cond r13.2 (nxT (LP75_5 b p tables) m K (s75_5 b p tables c5_0 c5_1 c5_2 c5_3 c5_4 c5_5 (wrap64 (i5+Z1)) (Z5,c5_3,i5,Z0))) (nxT (LP75_5 b p tables) m K (s75_5 b p tables c5_0 c5_1 c5_2 c5_3 c5_4 c5_5 (wrap64 (i5+Z1)) (v5.1,v5.2.1,v5.2.2.1,v5.2.2.2))))) (K (.exit 5) (⟨[(0,.ptr 1000000 0),(1,.data TTb tables),(5,.own 26 none),(6,dI c5_0),(11,.ptr 11 0)],[(1000000,.box [.data TBy b,dI c5_4]),(26,.arr .sh aj c5_5),(11,.box [dI v5.1,dI v5.2.1,dI v5.2.2.1,dI v5.2.2.2,.data TPS [],.data (Ty.sl aE) []])]⟩:St))):=by kernel_rfl
theorem con75_ok:aT P 75 c75:=Hw [(1000002,true)] C75 func75 (kC con35_ok (kC con37_ok (kC con76_ok (kC con80_ok kN)))) fun args hp K h0=>by
 unfold c75 at h0
 dsimp only at h0
 obtain⟨b,p,rfl,h00⟩:=fc h0
 obtain⟨a0,a1,rfl,_,h1⟩:=bO h00
 obtain⟨rfl,h2⟩:=dn h1
 obtain⟨tables,rfl,h3⟩:=bt h2
 obtain⟨h_b,h_tables,p0,p1,p2,p3,hK⟩:=h3
 have h:ok (F.iY b p tables) (fun r=>K (.own 0 none) [(0,.arr .sh aj r.1),(1000000,.box [.data TBy b,dI r.2])]):=az (F.wC b p tables h_b h_tables p0 p1 p2 p3) (hK _ rfl)
 refine⟨rfl,ann75,(L75 b p tables),.raw,(DU (i0:=0) (i1:=2) (i2:=3) (i3:=5) (by kernel_rfl) ?_ ?_ ?_ ?_),?_⟩
 ·rintro _ _ K ⟨hc0,v0,rfl,hv0,h⟩
  exact cast (lvc75_0 _ _ _ _ _ _).symm (cj h (fun m1 hm0 h=>(oC h (fun _ h=>⟨h_tables,(oG h fun _ h=>(oL h fun r3 _ h=>(oC h (fun _ h=>h) fun _ h=>⟨h_b,(oG h fun g1 h=>(oG h fun _ h=>(oG h fun _ h=>(oL h fun r4 _ h=>⟨(by decide),(oC h (fun _ h=>⟨h_b,⟨g1,(oG h fun _ h=>(oG h fun _ h=>(oL h fun r5 _ h=>⟨h_b,⟨g1,(oG h fun _ h=>(oG h fun _ h=>(oL h fun r6 _ h=>(bK (fun m hm=>⟨v0.1,r3.1,(v0.2.2.length:Int),Z0,r6.1,r6.2,v0.2.2,r5.1,trivial,hm⟩) _ rfl trivial (eG h (fun e2 h hv2=>(q5 (oG h fun _ h=>(oG h fun _ h=>⟨h_tables,(oG h fun _ h=>(oL h fun _ _ h=>(oC h (fun _ h=>(oG h fun _ h=>(bn (fun _ hm=>⟨hc0,hm⟩) hm0 _ rfl trivial h))) fun _ h=>(bn (fun _ hm=>⟨hc0,hm⟩) hm0 _ rfl trivial h))))⟩)))))))))⟩⟩)))⟩⟩) fun _ h=>⟨h_b,⟨g1,(oG h fun _ h=>(oG h fun _ h=>(oL h fun r5 _ h=>⟨h_b,⟨g1,(oG h fun _ h=>(oG h fun _ h=>(oL h fun r6 _ h=>(bK (fun m hm=>⟨v0.1,r3.1,(v0.2.2.length:Int),(wrap64 (wrap64 ((v0.2.2.length:Int)-Z1)-(wrap64 (r4.1.tdiv Z4)))),r6.1,r6.2,v0.2.2,r5.1,trivial,hm⟩) _ rfl trivial (eG h (fun e2 h hv2=>(q5 (oG h fun _ h=>(oG h fun _ h=>⟨h_tables,(oG h fun _ h=>(oL h fun _ _ h=>(oC h (fun _ h=>(oG h fun _ h=>(bn (fun _ hm=>⟨hc0,hm⟩) hm0 _ rfl trivial h))) fun _ h=>(bn (fun _ hm=>⟨hc0,hm⟩) hm0 _ rfl trivial h))))⟩)))))))))⟩⟩)))⟩⟩)⟩))))⟩)))⟩) fun _ h=>((bX h :) trivial))))
 ·rintro _ _ K ⟨c2_0,c2_1,c2_2,c2_3,c2_4,c2_5,c2_6,c2_7,hc2,v2,rfl,hv2,h⟩
  exact cast (lvc75_1 _ _ _ _ _ _ _ _ _ _ _ _ _ _).symm (cj h (fun m1 hm2 h=>(oC h (fun _ h=>(oG h fun _ h=>(oG h fun _ h=>⟨h_b,(oG h fun _ h=>(oG h fun _ h=>(oG h fun _ h=>(oG h fun _ h=>(oG h fun _ h=>(oG h fun _ h=>(oL h fun _ _ h=>((bX h :) trivial))))))))⟩))) fun _ h=>(oC h (fun _ h=>⟨h_b,(oG h fun _ h=>(oG h fun _ h=>(oG h fun _ h=>(oL h fun _ _ h=>(bK (fun m hm=>⟨c2_0,c2_1,c2_3,c2_6,c2_3,trivial,hm⟩) _ rfl trivial (eG h (fun e3 h hv3=>((bX h :) trivial))))))))⟩) fun _ h=>(oC h (fun b_41 h=>(bC b_41 ⟨h_b,(oG h fun g2 h=>(oG h fun _ h=>(oG h fun _ h=>(oL h fun _ _ h=>(oG h fun _ h=>(oG h fun _ h=>(oG h fun _ h=>(oG h fun _ h=>(oG h fun _ h=>(oG h fun _ h=>(oC h (fun _ h=>⟨h_b,(oG h fun _ h=>⟨g2,(oG h fun _ h=>(oG h fun _ h=>(oG h fun _ h=>(oG h fun _ h=>(oL h fun _ _ h=>((bX h :) trivial))))))⟩)⟩) fun _ h=>((bX h :) trivial))))))))))))⟩)) fun _ h=>(oC h (fun _ h=>⟨h_b,(oG h fun g3 h=>(oG h fun _ h=>(oG h fun _ h=>(oL h fun _ _ h=>(oG h fun _ h=>(oG h fun _ h=>(oG h fun _ h=>(oG h fun _ h=>(oG h fun _ h=>(oG h fun _ h=>(oC h (fun _ h=>⟨h_b,(oG h fun _ h=>⟨g3,(oG h fun _ h=>(oG h fun _ h=>(oG h fun _ h=>(oG h fun _ h=>(oL h fun _ _ h=>((bX h :) trivial))))))⟩)⟩) fun _ h=>((bX h :) trivial))))))))))))⟩) fun _ h=>(oC h (fun _ h=>(have hi_0:=(aD h).1;have h:=(aD h).2;(bZ (fun m hm=>⟨c2_0,c2_1,c2_2,c2_3,c2_5,c2_6,⟨hi_0,trivial⟩,hm⟩) Z0 _ rfl (Int.natCast_nonneg 0) trivial (aU h (fun v5 h hv5=>((bX h :) trivial)) (fun _ h=>h.elim))))) fun _ h=>(oC h (fun _ h=>((bX h :) trivial)) fun _ h=>((bX h :) trivial)))))))))
 ·rintro _ _ K ⟨c3_0,c3_1,c3_2,c3_3,c3_4,hc3,v3,rfl,hv3,h⟩
  exact cast (lvc75_2 _ _ _ _ _ _ _ _ _ _ _).symm (cj h (fun m1 hm3 h=>(oC h (fun _ h=>(oG h fun g4 h=>(oG h fun g5 h=>(oC h (fun _ h=>⟨g4,⟨g5,((fun(g3_0:M.aq b)=>(fun(g3_1:0<=v3.2.1)=>(fun(g3_2:v3.2.1<=1000000000000000)=>(fun(g3_3:(v3.2.2.length+[(M.pick b v3.2.1 ((nth (t:=TCS) c3_1 c3_2).length:Int)).1].length) * 8<=lim)=>⟨⟨h_b,⟨g3_0,have g6:=g3_0;⟨g3_1,have g7:=g3_1;⟨g3_2,have g8:=g3_2;(fun r12 er12=>(have g9:(v3.2.2.length+[r12.1].length) * 8<=lim:=(by rw[er12];exact g3_3);⟨g9,(have h:=(aD (dR (aD (aD (aD h).2).2).2 r12 er12)).2;(bn (fun _ hm=>⟨c3_0,c3_1,c3_2,c3_3,c3_4,hc3,hm⟩) hm3 _ rfl trivial h))⟩))⟩⟩⟩⟩,⟨h_b,⟨g3_0,have g10:=g3_0;⟨g3_1,have g11:=g3_1;⟨g3_2,have g12:=g3_2;(fun r12 er12=>(q0 (have g13:(v3.2.2.length+[r12.1].length) * 8<=lim:=(by rw[er12];exact g3_3);⟨g13,(have h:=(aD (dR (aD (aD (aD h).2).2).2 r12 er12)).2;(bn (fun _ hm=>⟨c3_0,c3_1,c3_2,c3_3,c3_4,hc3,hm⟩) hm3 _ rfl trivial h))⟩)))⟩⟩⟩⟩⟩) (aD (dR (aD (aD (aD h).2).2).2 _ rfl)).1) (aD (aD (aD h).2).2).1) (aD (aD h).2).1) (aD h).1)⟩⟩) fun _ h=>((bX h :) trivial))))) fun _ h=>((bX h :) trivial))))
 ·rintro _ _ K ⟨c5_0,c5_1,c5_2,c5_3,c5_4,c5_5,hc5,i5,v5,rfl,hl5,rfl,hv5,h⟩
  exact cast (lvc75_3 _ _ _ _ _ _ _ _ _ _ _ _ _).symm (cC h (fun ht5 h=>⟨h_tables,(oG h fun _ h=>⟨(show Sm aj _ from⟨trivial,(show Sm (Ty.pair aE (Ty.pair aE (Ty.pair aE (Ty.pair TPS (Ty.pair (Ty.sl aE) Ty.unit))))) _ from⟨trivial,(show Sm (Ty.pair aE (Ty.pair aE (Ty.pair TPS (Ty.pair (Ty.sl aE) Ty.unit)))) _ from⟨trivial,(show Sm (Ty.pair aE (Ty.pair TPS (Ty.pair (Ty.sl aE) Ty.unit))) _ from⟨trivial,(show Sm (Ty.pair TPS (Ty.pair (Ty.sl aE) Ty.unit)) _ from⟨(iB aC),(show Sm (Ty.pair (Ty.sl aE) Ty.unit) _ from⟨(iB aE),trivial⟩)⟩)⟩)⟩)⟩)⟩),(oL h fun _ _ h=>(oC h (fun _ h=>(bT (fun _ hm=>⟨c5_0,c5_1,c5_2,c5_3,c5_4,c5_5,hc5,hm⟩) _ rfl hl5 nu ht5 hc5.1 trivial h)) fun _ h=>(bT (fun _ hm=>⟨c5_0,c5_1,c5_2,c5_3,c5_4,c5_5,hc5,hm⟩) _ rfl hl5 nu ht5 hc5.1 trivial h)))⟩)⟩) fun h=>(h trivial))
 ·rw[vc75]
  exact⟨h_b,⟨p0,⟨p1,(oG h fun _ h=>(oL h fun _ _ h=>⟨h_b,⟨p0,(oG h fun _ h=>(oG h fun _ h=>(oL h fun _ _ h=>(bK (fun m hm=>⟨trivial,hm⟩) _ rfl trivial (aU h (fun e0 h hv0=>h) (fun q0 h=>h))))))⟩⟩))⟩⟩⟩
def c57:Con:=⟨[.any,.dat aE],fun args hp K=>hpR (fun b p=>args2 (fun a0 a1=>mc a0 (fy aE a1 fun n=>(Sm TBy b)/\(M.aq b)/\(0<=p)/\(p<=994000000000000)/\(LD (M.fX b p n) fun r=>K (.tup [.data TTb r.1,.data TSS r.2.1]) [(1000000,.box [.data TBy b,dI r.2.2])]))) args []) hp,.plain,true⟩
abbrev C57:Ctx:=cx [(74,c74),(75,c75),(76,c76),(92,c92)] 48 [] 0 false
def ann57:=an [[kp 3],[.weak 9,kp 67],[kp 195],[kp 32961],[kp 131265],[.weak 19,kp 192],[kp 1179841],[kp 192],[kp 8519873],[kp 192],[kp 34359738561],[kp 192],[kp 48]] []
theorem vc57 (b:LI) (p:Int) (n:Int) (K:KA):vcT C57 ay ann57 f57 [.ptr 1000000 0,dI n] [(1000000,.box [.data TBy b,dI p])] (.tup [TTb,TSS]) K =
 ((Sm TBy b)/\(M.aq b)/\(0<=p)/\(p<=995000000000000)/\(LD (M.dK b p Z0) fun r1=>(Sm TBy b)/\(Sm TTb r1.1)/\(M.aq b)/\(0<=r1.2)/\(r1.2<=995000000000000)/\(∀t∈r1.1,M.gX t)/\(LD (M.jH b r1.2 r1.1) fun r2=>(Sm TBy b)/\(M.aq b)/\(0<=r2.2)/\(r2.2<=999000000000000)/\(LD (M.odd b r2.2 n) fun r3=>cond r3.1 ((Sm TBy b)/\(M.aq b)/\(0<=r3.2)/\(r3.2<=1000000000000000)/\(LD (M.pick b r3.2 Z4) fun r4=>cond (decide (r4.1=Z0)) (K (.tup [.data TTb r1.1,.data TSS []]) [(1000000,.box [.data TBy b,dI r4.2])]) (cond (decide (r4.1=Z1)) ((Sm TBy b)/\(M.aq b)/\(0<=r4.2)/\(r4.2<=1000000000000000)/\(LD (M.pick b r4.2 (r2.1.length:Int)) fun r5=>(Sm TBy b)/\(M.aq b)/\(0<=r5.2)/\(r5.2<=1000000000000000)/\(LD (M.pick b r5.2 (8:Int)) fun r6=>(0<=r5.1)/\(r5.1<(r2.1.length:Int))/\(let y1:LS:=(r2.1.set r5.1.toNat ((nS r2.1 r5.1).1,(wrap64 (r6.1-Z1),(nS r2.1 r5.1).2.2)));K (.tup [.data TTb r1.1,.data TSS y1]) [(1000000,.box [.data TBy b,dI r6.2])])))) (cond (decide (r4.1=Z2)) ((Sm TBy b)/\(M.aq b)/\(0<=r4.2)/\(r4.2<=1000000000000000)/\(LD (M.pick b r4.2 (r2.1.length:Int)) fun r7=>(Sm TBy b)/\(M.aq b)/\(0<=r7.2)/\(r7.2<=1000000000000000)/\(LD (M.pick b r7.2 (8:Int)) fun r8=>(0<=r7.1)/\(r7.1<(r2.1.length:Int))/\K (.tup [.data TTb r1.1,.data TSS (r2.1.set r7.1.toNat (r8.1,(nS r2.1 r7.1).2))]) [(1000000,.box [.data TBy b,dI r8.2])]))) ((Sm TBy b)/\(M.aq b)/\(0<=r4.2)/\(r4.2<=995000000000000)/\(LD (M.dK b r4.2 Z1) fun r9=>K (.tup [.data TTb r9.1,.data TSS r2.1]) [(1000000,.box [.data TBy b,dI r9.2])])))))) (K (.tup [.data TTb r1.1,.data TSS r2.1]) [(1000000,.box [.data TBy b,dI r3.2])]))))):=by kernel_rfl
theorem con57_ok:aT P 57 c57:=aZ C57 func57 (kC con74_ok (kC con75_ok (kC con76_ok (kC con92_ok kN)))) fun args hp K h0=>by
 unfold c57 at h0
 dsimp only at h0
 obtain⟨b,p,rfl,h00⟩:=fc h0
 obtain⟨a0,a1,rfl,_,h1⟩:=bO h00
 obtain⟨rfl,h2⟩:=dn h1
 obtain⟨n,rfl,h3⟩:=bt h2
 obtain⟨h_b,p0,p1,p2,hK⟩:=h3
 have h:ok (F.jg b p n) (fun r=>K (.tup [.data TTb r.1,.data TSS r.2.1]) [(1000000,.box [.data TBy b,dI r.2.2])]):=az (F.xd b p n h_b p0 p1 p2) (hK _ rfl)
 refine⟨rfl,ann57,ay,(.tup [TTb,TSS]),(aG (by kernel_rfl)),?_⟩
 ·rw[vc57]
  exact⟨h_b,⟨p0,⟨p1,(oG h fun _ h=>(oL h fun _ _ h=>⟨h_b,(oG h fun _ h=>⟨p0,(oG h fun _ h=>(oG h fun _ h=>(oG h fun _ h=>(oL h fun _ _ h=>⟨h_b,⟨p0,(oG h fun _ h=>(oG h fun _ h=>(oL h fun _ _ h=>(oC h (fun _ h=>⟨h_b,⟨p0,(oG h fun _ h=>(oG h fun _ h=>(oL h fun _ _ h=>(oC h (fun _ h=>h) fun _ h=>(oC h (fun _ h=>⟨h_b,⟨p0,(oG h fun _ h=>(oG h fun _ h=>(oL h fun _ _ h=>⟨h_b,⟨p0,(oG h fun _ h=>(oG h fun _ h=>(oL h fun _ _ h=>(oG h fun _ h=>(oG h fun _ h=>(have h:=dR h _ rfl;h))))))⟩⟩)))⟩⟩) fun _ h=>(oC h (fun _ h=>⟨h_b,⟨p0,(oG h fun _ h=>(oG h fun _ h=>(oL h fun _ _ h=>⟨h_b,⟨p0,(oG h fun _ h=>(oG h fun _ h=>(oL h fun _ _ h=>(oG h fun _ h=>(oG h fun _ h=>h)))))⟩⟩)))⟩⟩) fun _ h=>⟨h_b,⟨p0,(oG h fun _ h=>(oG h fun _ h=>(oL h fun _ _ h=>h)))⟩⟩))))))⟩⟩) fun _ h=>h))))⟩⟩))))⟩)⟩))⟩⟩⟩
def c20:Con:=⟨[.dat TBy],fun args hp K=>g1 (pD TBy) (fun code=>(Sm TBy code)/\(M.aq code)/\(LD (M.cV code) fun r=>K (.tup [.data TTb r.1,.data TSS r.2]) [])) args hp,.plain,false⟩
abbrev C20:Ctx:=cx [(57,c57)] 9 [(32,T32)] 0 false
def ann20:=an [[kp 1],[kp 12]] []
theorem vc20 (code:LI) (K:KA):vcT C20 ay ann20 f20 [.data TBy code] [] (.tup [TTb,TSS]) K =
 (cond (decide ((2000:Int)<(code.length:Int))) ((0<=Z0)/\(Z0<=(2000:Int))/\((2000:Int)<=(code.length:Int))/\((2000:Int)=(2000:Int))/\(Sm TBy (aB code (some (Z0,(2000:Int)))))/\(M.aq (aB code (some (Z0,(2000:Int)))))/\(0<=Z0)/\(Z0<=994000000000000)/\(LD (M.fX (aB code (some (Z0,(2000:Int)))) Z0 (12:Int)) fun r1=>K (.tup [.data TTb r1.1,.data TSS r1.2.1]) [])) ((Sm TBy code)/\(M.aq code)/\(0<=Z0)/\(Z0<=994000000000000)/\(LD (M.fX code Z0 (12:Int)) fun r1=>K (.tup [.data TTb r1.1,.data TSS r1.2.1]) []))):=by kernel_rfl
theorem con20_ok:aT P 20 c20:=aZ C20 func20 (kC con57_ok (kI inlOk32 kN)) fun args hp K h0=>by
 obtain⟨code,rfl,rfl,h_code,p0,hK⟩:=g1e h0
 have h:ok (F.eH code) (fun r=>K (.tup [.data TTb r.1,.data TSS r.2]) []):=az (F.qA code h_code p0) (hK _ rfl)
 refine⟨rfl,ann20,ay,(.tup [TTb,TSS]),(aG (by kernel_rfl)),?_⟩
 ·rw[vc20]
  exact(oC h (fun _ h=>⟨(Int.natCast_nonneg 0),(oG h fun _ h=>(oG h fun _ h=>⟨rfl,⟨(Ds h_code _),(oG h fun _ h=>(oG h fun _ h=>(oG h fun _ h=>(oL h fun _ _ h=>h))))⟩⟩))⟩) fun _ h=>⟨h_code,⟨p0,(oG h fun _ h=>(oG h fun _ h=>(oL h fun _ _ h=>h)))⟩⟩)
def c176:Con:=⟨[.dat TVS],fun args hp K=>g1 (pD TVS) (fun row=>(Sm TVS row)/\K (dB (M.nE row)) []) args hp,.plain,false⟩
abbrev C176:Ctx:=cx [(201,c201)] 19 [] 0 false
def ann176:=an [[kp 1],[kp 9],[kp 137],[kp 9],[kp 32777],[kp 4],[kp 4]] [[kp 1]]
abbrev s176_0 (row:LV) (i0:Int) (v0:Unit):St:=⟨[(0,.data TVS row),(3,dI i0)],[]⟩
abbrev LP176_0 (row:LV) (m:Nat) (st_:St) (K:KX):Prop:=True/\bJ (t:=aa) (s176_0 row) row (F.jF row) (fun v0:Unit=>True) (bq (fun v0:Unit=>True->K (.exit 0) (⟨[(0,.data TVS row)],[]⟩:St)) (fun q0:Unit=>K .ret (⟨[(2,dB false)],[]⟩:St))) m st_
def L176 (row:LV):bD:=lp1 0 (LP176_0 row)
theorem vc176 (row:LV) (K:KA):vcT C176 (L176 row) ann176 f176 [.data TVS row] [] (.dat Ty.bool) K =
 (∃m_,True/\bJ (t:=aa) (s176_0 row) row (F.jF row) (fun v0:Unit=>True) (bq (fun v0:Unit=>True->K (dB (decide ((row.length:Int)<=Z4))) []) (fun q0:Unit=>K (dB false) [])) m_ (s176_0 row Z0 ())):=by kernel_rfl
theorem lvc176_0 (row:LV)  (i0:Int) (v0:Unit) (m:Nat) (K:KX):lvT C176 (L176 row) ann176 f176 0 0 (s176_0 row i0 v0) m K =
 (cond (decide (i0<(row.length:Int))) ((0<=i0)/\(i0<(row.length:Int))/\(Sm aa (nV row i0))/\cond (!(M.aL (nV row i0))) (K .ret (⟨[(2,dB false)],[]⟩:St)) (nxT (LP176_0 row) m K (s176_0 row (wrap64 (i0+Z1)) ()))) (K (.exit 0) (⟨[(0,.data TVS row)],[]⟩:St))):=by kernel_rfl
theorem con176_ok:aT P 176 c176:=aZ C176 func176 (kC con201_ok kN) fun args hp K h0=>by
 obtain⟨row,rfl,rfl,h_row,hK⟩:=g1e h0
 have h:ok (F.sx row) (fun r=>K (dB r) []):=az (F.zn row h_row) hK
 refine⟨rfl,ann176,(L176 row),(.dat Ty.bool),(bH (i0:=0) (by kernel_rfl) ?_),?_⟩
 ·rintro _ _ K ⟨hc0,i0,v0,rfl,hl0,rfl,hv0,h⟩
  exact cast (lvc176_0 _ _ _ _ _).symm (aW (t:=aa) hl0 h (fun ht0 h=>⟨hl0,⟨ht0,⟨(aJ h_row i0),(oC h (fun _ h=>h) fun _ h=>(aP (t:=aa) (fun _ hm=>⟨hc0,hm⟩) _ rfl hl0 ht0 (bu h_row) trivial h))⟩⟩⟩) fun h=>(h trivial))
 ·rw[vc176]
  exact(aQ (t:=aa) (fun m hm=>⟨trivial,hm⟩) _ rfl trivial (aU h (fun v0 h hv0=>h) (fun q0 h=>h)))
def c133:Con:=⟨[.dat TCS,.dat TVS],fun args hp K=>g2 (pD TCS) (pD TVS) (fun columns row=>(Sm TCS columns)/\(Sm TVS row)/\K (dB (M.cr columns row)) []) args hp,.plain,false⟩
abbrev C133:Ctx:=cx [(134,c134),(176,c176)] 54 [] 0 false
def ann133:=an [[kp 3],[kp 1048579],[kp 16],[kp 35],[kp 16777251],[kp 35],[kp 9007199254741027],[kp 16],[kp 16]] [[kp 0]]
abbrev s133_0 (columns:LC) (row:LV) (i0:Int) (v0:Unit):St:=⟨[(0,.data TCS columns),(1,.data TVS row),(5,dI i0)],[]⟩
abbrev LP133_0 (columns:LC) (row:LV) (m:Nat) (st_:St) (K:KX):Prop:=True/\dJ (s133_0 columns row) Z0 (row.length:Int) (F.iz columns row) (fun v0:Unit=>True) (bq (fun v0:Unit=>True->K (.exit 0) (⟨[],[]⟩:St)) (fun q0:Unit=>K .ret (⟨[(4,dB false)],[]⟩:St))) m st_
def L133 (columns:LC) (row:LV):bD:=lp1 0 (LP133_0 columns row)
theorem vc133 (columns:LC) (row:LV) (K:KA):vcT C133 (L133 columns row) ann133 f133 [.data TCS columns,.data TVS row] [] (.dat Ty.bool) K =
 ((Sm TCS columns)/\cond ((!(M.bA columns))==false) ((Sm TVS row)/\cond ((!(M.nE row))==false) (cond (!decide ((row.length:Int)=(columns.length:Int))) (K (dB false) []) (∃m_,True/\dJ (s133_0 columns row) Z0 (row.length:Int) (F.iz columns row) (fun v0:Unit=>True) (bq (fun v0:Unit=>True->K (dB true) []) (fun q0:Unit=>K (dB false) [])) m_ (s133_0 columns row Z0 ()))) (K (dB false) [])) (K (dB false) [])):=by kernel_rfl
theorem lvc133_0 (columns:LC) (row:LV)  (i0:Int) (v0:Unit) (m:Nat) (K:KX):lvT C133 (L133 columns row) ann133 f133 0 0 (s133_0 columns row i0 v0) m K =
 (cond (decide (i0<(row.length:Int))) ((0<=i0)/\(i0<(row.length:Int))/\(0<=i0)/\(i0<(columns.length:Int))/\cond ((!decide ((nV row i0).1=(nC columns i0).1))==true) ((0<=i0)/\(i0<(row.length:Int))/\cond ((!decide ((nV row i0).1=Z0))==false) ((0<=i0)/\(i0<(columns.length:Int))/\cond (!(nC columns i0).2.1) (K .ret (⟨[(4,dB false)],[]⟩:St)) (nxT (LP133_0 columns row) m K (s133_0 columns row (wrap64 (i0+Z1)) ()))) (K .ret (⟨[(4,dB false)],[]⟩:St))) (nxT (LP133_0 columns row) m K (s133_0 columns row (wrap64 (i0+Z1)) ()))) (K (.exit 0) (⟨[],[]⟩:St))):=by kernel_rfl
theorem con133_ok:aT P 133 c133:=aZ C133 func133 (kC con134_ok (kC con176_ok kN)) fun args hp K h0=>by
 obtain⟨columns,row,rfl,rfl,h_columns,h_row,hK⟩:=g2e h0
 have h:ok (F.ov columns row) (fun r=>K (dB r) []):=az (F.wv columns row h_columns h_row) hK
 refine⟨rfl,ann133,(L133 columns row),(.dat Ty.bool),(bH (i0:=0) (by kernel_rfl) ?_),?_⟩
 ·rintro _ _ K ⟨hc0,i0,v0,rfl,hl0,rfl,hv0,h⟩
  exact cast (lvc133_0 _ _ _ _ _ _).symm (cC h (fun ht0 h=>⟨hl0,⟨ht0,⟨hl0,(oG h fun g1 h=>(oC h (fun _ h=>⟨hl0,⟨ht0,(oC h (fun _ h=>⟨hl0,⟨g1,(oC h (fun _ h=>h) fun _ h=>(bT (fun _ hm=>⟨hc0,hm⟩) _ rfl hl0 nu ht0 (bu h_row) trivial h))⟩⟩) fun _ h=>h)⟩⟩) fun _ h=>(bT (fun _ hm=>⟨hc0,hm⟩) _ rfl hl0 nu ht0 (bu h_row) trivial h)))⟩⟩⟩) fun h=>(h trivial))
 ·rw[vc133]
  exact⟨h_columns,(oC h (fun _ h=>⟨h_row,(oC h (fun _ h=>(oC h (fun _ h=>h) fun _ h=>(bZ (fun m hm=>⟨trivial,hm⟩) Z0 _ rfl (Int.natCast_nonneg 0) trivial (aU h (fun v0 h hv0=>h) (fun q0 h=>h))))) fun _ h=>h)⟩) fun _ h=>h)⟩
end Go.AE
