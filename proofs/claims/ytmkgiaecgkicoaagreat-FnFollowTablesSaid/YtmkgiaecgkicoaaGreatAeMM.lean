/- What the functions compute, in plain Lean. -/
import Derived.Test.YtmkgiaecgkicoaaGreatAeX
namespace Go.AE
open Go Go.RowKit
abbrev aD:Ty:=.int .i64
abbrev aa:Ty:=.pair (.int .i64) (.pair (.int .i64) (.pair .str .unit))
abbrev ax:Ty:=.pair (.int .i64) (.pair .bool .unit)
abbrev ag:Ty:=.pair (.sl ax) (.pair (.sl (.sl aa)) .unit)
abbrev aE:Ty:=.pair (.int .i64) (.pair (.int .i64) (.pair aa .unit))
abbrev ah:Ty:=.pair (.int .i64) (.pair (.int .i64) (.pair (.sl (.int .i64)) (.pair (.int .i64) (.pair (.sl (.int .i64)) (.pair .bool (.pair (.sl aE) .unit))))))
abbrev sk:Ty:=.pair (.int .i64) (.pair (.int .i64) (.pair (.int .i64) (.pair (.int .i64) (.pair (.sl aE) (.pair (.sl (.int .i64)) .unit)))))
abbrev lQ:Ty:=.pair (.int .i64) (.pair (.sl aE) .unit)
abbrev ay:Ty:=.pair (.int .i64) (.pair (.sl aa) (.pair .bool .unit))
abbrev Kw:Ty:=.pair (.sl aa) (.pair (.int .i64) .unit)
abbrev IJ:Ty:=.pair (.sl sk) (.pair (.sl (.sl aa)) (.pair (.sl (.int .i64)) .unit))
abbrev Kz:Ty:=.pair (.sl ag) (.pair (.sl (.int .i64)) (.pair (.sl IJ) .unit))
abbrev LTb:Type:=List ag.D
abbrev LV:Type:=List aa.D
abbrev LPt:Type:=List aE.D
abbrev LC:Type:=List ax.D
abbrev LLV:Type:=List (List aa.D)
abbrev TTb:Ty:=.sl ag
abbrev TSS:Ty:=.sl sk
abbrev TCS:Ty:=.sl ax
abbrev TVS:Ty:=.sl aa
abbrev TPS:Ty:=.sl aE
abbrev TGS:Ty:=.sl lQ
namespace M
def inR (n a b:Int):Bool:=decide (a<=n)&&decide (n<=b)
theorem kE {n N:Int} (h:inR n 0 N=true):0<=n:=by unfold inR at h;simp at h;exact h.1
theorem Jc {n N:Int} (h:inR n 0 N=true):n<=N:=by unfold inR at h;simp at h;exact h.2
def lower (l:List Int):Bool:=l.all fun n=>inR n 97 122
def text (s:ByteArray):Bool:=decide (s.size<=6)&&lower (bX s)
abbrev none_:ByteArray:=⟨#[]⟩
def aP (v:aa.D):Bool:=cond (decide (v.1=(0:Int))) (decide (v.2.1=(0:Int))&&decide (v.2.2.1=none_))
 (cond (decide (v.1=(1:Int))) (inR v.2.1 (-9999) 9999&&decide (v.2.2.1=none_))
 (cond (decide (v.1=(2:Int))) (decide (v.2.1=(0:Int))&&text v.2.2.1)
 (cond (decide (v.1=(3:Int))) (inR v.2.1 0 1&&decide (v.2.2.1=none_)) false)))
def eJ (c:ax.D):Bool:=inR c.1 1 3
def bM (x:List ax.D):Bool:=decide (x.length<=4)&&x.all eJ
def cz (c:List ax.D) (l:List Int):Bool:=inR l.length 1 4&&l.all fun n=>inR n 0 (c.length-1)
def taken (row:List aa.D) (l:List Int):List aa.D:=l.map fun i=>nth (t:=aa) row i
def pL (row:List aa.D):Bool:=decide (row.length<=4)&&row.all aP
def idx {t:Ty} (p:t.D->Bool) (xs:List t.D):Int:=match xs.findIdx? p with
 | some k=>(k:Int)
 | none=>-1
def fm (row:List aa.D) (l:List Int):Prop:=∀i∈l,0<=i/\i<(row.length:Int)
theorem gv {B:Nat} {row:List aa.D} {l:List Int} (h:SmB B (.sl aa) row) (hl:SmB B (.sl (.int .i64)) l):SmB B (.sl aa) (taken row l):=by
 refine⟨by unfold taken;rw[List.length_map];exact hl.1,fun x hx=>?_⟩
 unfold taken at hx
 obtain⟨i,_,rfl⟩:=List.mem_map.1 hx
 exact aH h i
def sure (n:Int):Int:=cond (decide (n=0)) 0 (cond (decide (n=1)) 2 1)
def fold (a b alone:Int):Int:=cond (inR a 0 2&&inR b 0 2) (cond (decide (a=alone)||decide (b=alone)) alone (cond (decide (a=2)||decide (b=2)) 2 (1-alone))) (-1)
def rV (a b:Int):Int:=fold a b 0
def zU (a b:Int):Int:=fold a b 1
def rR (a:Int):Int:=cond (decide (a=0)) 1 (cond (decide (a=1)) 0 (cond (decide (a=2)) 2 (-1)))
def bool (b:Bool):Int:=cond b 1 0
abbrev zeroV:aa.D:=((0:Int),(0:Int),none_,())
def valueOf (n:Int):aa.D:=cond (inR n 0 1) ((3:Int),n,none_,()) zeroV
def cv (v:aa.D):Int:=cond (aP v) (cond (decide (v.1=(0:Int))) 2 (cond (decide (v.1=(3:Int))) v.2.1 (-1))) (-1)
def less (a b:Int):Int:=cond (decide (a<b)) 1 0
def uM (a b:Int):Int:=cond (decide (a<b)) (-1) (cond (decide (b<a)) 1 0)
def vN (a b:ByteArray):Int:=cond (Op.bytesLess a.toList b.toList) (-1) (cond (!(Op.bytesLess a.toList b.toList||decide (a=b))) 1 0)
def orI:List Int->Int
 | []=>0
 | x::l=>cond (decide (x=0)) (orI l) x
def order (v w:aa.D):Int:=orI [uM v.1 w.1,uM v.2.1 w.2.1,vN v.2.2.1 w.2.2.1]
def eH (a b:aa.D):Int:=cond (aP a&&aP b) (order a b) 0
def zE (kind c:Int):Bool:=cond (decide (kind=1)) (decide (c=0)) (cond (decide (kind=2)) (!decide (c=0)) (cond (decide (kind=3)) (decide (c<0)) (decide (c<=0))))
def compare (kind:Int) (a b:aa.D):Int:=cond (inR kind 1 4&&(aP a&&aP b)) (cond (decide (a.1=(0:Int))||decide (b.1=(0:Int))) 2 (cond (decide (a.1=b.1)) (bool (zE kind (order a b))) (-1))) (-1)
def tZ (columns:List ax.D) (row:List aa.D) (k:Int):Bool:=decide ((nth (t:=aa) row k).1=(nth (t:=ax) columns k).1)||(decide ((nth (t:=aa) row k).1=(0:Int))&&(nth (t:=ax) columns k).2.1)
def bU (columns:List ax.D) (row:List aa.D):Bool:=bM columns&&(pL row&&(decide (row.length=columns.length)&&(aT 0 (row.length:Int)).all (tZ columns row)))
def gF (columns:List ax.D) (rows:List (List aa.D)):Bool:=bM columns&&rows.all (bU columns)
def dm (t:ag.D):Bool:=decide (t.2.1.length<=6)&&gF t.1 t.2.1
def aF (ts:List ag.D):Bool:=decide (ts.length<=3)&&ts.all dm
def gn (vs:List aa.D):Bool:=vs.any fun v=>decide (v.1=(0:Int))
def takes (p:aE.D):Int:=cond (decide (p.1=(3:Int))||decide (p.1=(4:Int))||decide (p.1=(5:Int))||decide (p.1=(6:Int))) 2 (cond (decide (p.1=(7:Int))||decide (p.1=(8:Int))) 1 0)
def noV (p:aE.D):Bool:=Ty.beq aa p.2.2.1 zeroV
def mg (p:aE.D) (columns:List ax.D):Bool:=
 cond (decide (p.1=(1:Int))) (decide (p.2.1=(0:Int))&&(aP p.2.2.1&&!decide (p.2.2.1.1=(0:Int))))
 (cond (decide (p.1=(2:Int))) (inR p.2.1 0 ((columns.length:Int)-1)&&noV p)
 (cond (decide (p.1=(4:Int))) (inR p.2.1 1 4&&noV p)
 (cond (inR p.1 3 8) (decide (p.2.1=(0:Int))&&noV p) false)))
def cV (p:aE.D) (columns:List ax.D) (l:List Int):Int×Bool:=
 cond (decide (p.1=(1:Int))) (p.2.2.1.1,true)
 (cond (decide (p.1=(2:Int))) ((nth (t:=ax) columns p.2.1).1,true)
 (cond (decide (p.1=(3:Int))) (1,l.all fun k=>decide (k=1))
 (cond (decide (p.1=(4:Int))) (3,decide (nth (t:=.int .i64) l 0=nth (t:=.int .i64) l 1))
 (cond (decide (p.1=(8:Int))) (3,true) (3,l.all fun k=>decide (k=3))))))
def fU (columns:List ax.D) (st:List Int) (p:aE.D):Option (List Int):=
 cond (mg p columns&&(decide (takes p<=(st.length:Int))&&(cV p columns (st.drop (st.length-(takes p).toNat))).2)) (some (st.take (st.length-(takes p).toNat)++[(cV p columns (st.drop (st.length-(takes p).toNat))).1])) none
def jS (columns:List ax.D):List aE.D->List Int->Option (List Int)
 | [],st=>some st
 | p::e,st=>match fU columns st p with
  | some st'=>jS columns e st'
  | none=>none
def oneOf:Option (List Int)->Int
 | some [k]=>k
 | _=>-1
def dL (columns:List ax.D) (e:List aE.D):Int:=cond (bM columns&&decide (e.length<=12)) (oneOf (jS columns e [])) (-1)
def sum (a b:aa.D):aa.D:=cond (decide (a.1=(0:Int))||decide (b.1=(0:Int))||!inR (wrap64 (a.2.1+b.2.1)) (-9999) 9999) zeroV ((1:Int),wrap64 (a.2.1+b.2.1),none_,())
def iy (p:aE.D) (row:List aa.D) (l:List aa.D):aa.D:=
 cond (decide (p.1=(1:Int))) p.2.2.1
 (cond (decide (p.1=(2:Int))) (nth (t:=aa) row p.2.1)
 (cond (decide (p.1=(3:Int))) (sum (nth (t:=aa) l 0) (nth (t:=aa) l 1))
 (cond (decide (p.1=(4:Int))) (valueOf (compare p.2.1 (nth (t:=aa) l 0) (nth (t:=aa) l 1)))
 (cond (decide (p.1=(5:Int))) (valueOf (rV (cv (nth (t:=aa) l 0)) (cv (nth (t:=aa) l 1))))
 (cond (decide (p.1=(6:Int))) (valueOf (zU (cv (nth (t:=aa) l 0)) (cv (nth (t:=aa) l 1))))
 (cond (decide (p.1=(7:Int))) (valueOf (rR (cv (nth (t:=aa) l 0))))
 (valueOf (bool (decide ((nth (t:=aa) l 0).1=(0:Int)))))))))))
def fz (row:List aa.D) (st:List aa.D) (p:aE.D):List aa.D:=st.take (st.length-(takes p).toNat)++[iy p row (st.drop (st.length-(takes p).toNat))]
def ff (row:List aa.D) (e:List aE.D):aa.D:=nth (t:=aa) (e.foldl (fz row) []) 0
def nR (p:aE.D) (w:Nat):Prop:=p.1=(2:Int)->0<=p.2.1/\p.2.1<(w:Int)
def yK (w:Nat):List aE.D->Nat->Prop
 | [],d=>0<d
 | p::e,d=>takes p<=(d:Int)/\(1<=p.1/\p.1<=8)/\nR p w/\yK w e (d-(takes p).toNat+1)
def jG (w:Nat) (e:List aE.D):Prop:=e.length<=12/\yK w e 0
def aN (tables:List ag.D) (b:ah.D):Bool:=
 inR b.2.1 0 ((tables.length:Int)-1) &&
 cond (decide (b.1=(1:Int))) (cz (nth (t:=ag) tables b.2.1).1 b.2.2.1&&(decide (b.2.2.2.1=(0:Int))&&(decide (b.2.2.2.2.1.length=0)&&(!b.2.2.2.2.2.1&&decide (b.2.2.2.2.2.2.1.length=0)))))
 (cond (decide (b.1=(3:Int))) (decide (dL (nth (t:=ag) tables b.2.1).1 b.2.2.2.2.2.2.1=3)&&(decide (b.2.2.1.length=0)&&(decide (b.2.2.2.1=(0:Int))&&(decide (b.2.2.2.2.1.length=0)&&!b.2.2.2.2.2.1))))
 (cond (decide (b.1=(2:Int))) (inR b.2.2.2.1 0 ((tables.length:Int)-1)&&(cz (nth (t:=ag) tables b.2.1).1 b.2.2.1&&(cz (nth (t:=ag) tables b.2.2.2.1).1 b.2.2.2.2.1&&(decide (b.2.2.1.length=b.2.2.2.2.1.length)&&(decide (b.2.2.2.2.2.2.1.length=0) &&
  (aT 0 (b.2.2.1.length:Int)).all fun i=>decide ((nth (t:=ax) (nth (t:=ag) tables b.2.1).1 (nth (t:=.int .i64) b.2.2.1 i)).1=(nth (t:=ax) (nth (t:=ag) tables b.2.2.2.1).1 (nth (t:=.int .i64) b.2.2.2.2.1 i)).1)))))) false))
def dD (tables:List ag.D) (b:ah.D):List (List aa.D):=(nth (t:=ag) tables b.2.1).2.1
def breaks (tables:List ag.D) (b:ah.D) (n:Int):Bool:=
 cond (decide (b.1=(3:Int))) (Ty.beq aa (ff (nth (t:=.sl aa) (dD tables b) n) b.2.2.2.2.2.2.1) (valueOf 0))
 (cond (gn (taken (nth (t:=.sl aa) (dD tables b) n) b.2.2.1)) false
 (cond (decide (b.1=(1:Int))) (((dD tables b).take n.toNat).any fun r=>decide (taken r b.2.2.1=taken (nth (t:=.sl aa) (dD tables b) n) b.2.2.1))
 (!((nth (t:=ag) tables b.2.2.2.1).2.1.any fun r=>decide (taken r b.2.2.2.2.1=taken (nth (t:=.sl aa) (dD tables b) n) b.2.2.1)))))
def broken (tables:List ag.D) (b:ah.D):Int:=match (aT 0 ((dD tables b).length:Int)).find? (breaks tables b) with
 | some n=>n
 | none=>-1
def aJ (tables:List ag.D) (b:ah.D):Int:=cond (aF tables&&aN tables b) (broken tables b) (-2)
def bS (tables:List ag.D) (bonds:List ah.D):Bool:=decide (bonds.length<=4)&&bonds.all fun b=>decide (aJ tables b=-1)
end M
theorem kE {n N:Int} (h:M.inR n 0 N=true):0<=n:=M.kE h
theorem oh {n:Int} {N:Nat} (h:M.inR n 0 (wrap64 ((N:Int)-1))=true):n<(N:Int):=by
 have h1:=M.kE h
 have h2:=M.Jc h
 have:wrap64 ((N:Int)-1)<=(N:Int)-1:=by unfold wrap64;omega
 omega
end Go.AE
