/- What the functions compute, in plain Lean. -/
import Derived.Test.YtiplhefglgpdoaaGreatAeX
namespace Go.AE
open Go Go.RowKit
@[reducible] def aF:Ty:=.int .i64
@[reducible] def aa:Ty:=.pair (.int .i64) (.pair (.int .i64) (.pair .str .unit))
@[reducible] def ag:Ty:=.pair (.int .i64) (.pair .bool .unit)
@[reducible] def ax:Ty:=.pair (.sl ag) (.pair (.sl (.sl aa)) .unit)
@[reducible] def aC:Ty:=.pair (.int .i64) (.pair (.int .i64) (.pair aa .unit))
@[reducible] def Iy:Ty:=.pair (.int .i64) (.pair (.int .i64) (.pair (.sl (.int .i64)) (.pair (.int .i64) (.pair (.sl (.int .i64)) (.pair .bool (.pair (.sl aC) .unit))))))
@[reducible] def ah:Ty:=.pair (.int .i64) (.pair (.int .i64) (.pair (.int .i64) (.pair (.int .i64) (.pair (.sl aC) (.pair (.sl (.int .i64)) .unit)))))
@[reducible] def az:Ty:=.pair (.int .i64) (.pair (.sl aC) .unit)
abbrev LTb:Type:=List ax.D
abbrev LV:Type:=List aa.D
abbrev LS:Type:=List ah.D
abbrev LPt:Type:=List aC.D
abbrev LC:Type:=List ag.D
abbrev LG:Type:=List az.D
abbrev LLV:Type:=List (List aa.D)
abbrev LLC:Type:=List (List ag.D)
@[reducible] def TTb:Ty:=.sl ax
@[reducible] def TSS:Ty:=.sl ah
@[reducible] def TCS:Ty:=.sl ag
@[reducible] def TVS:Ty:=.sl aa
@[reducible] def TPS:Ty:=.sl aC
@[reducible] def TGS:Ty:=.sl az
namespace M
def inR (n a b:Int):Bool:=decide (a<=n)&&decide (n<=b)
theorem ew {n N:Int} (h:inR n 0 N=true):0<=n:=by unfold inR at h;simp at h;exact h.1
theorem mZ {n N:Int} (h:inR n 0 N=true):n<=N:=by unfold inR at h;simp at h;exact h.2
def lower (l:List Int):Bool:=l.all fun n=>inR n 97 122
def text (s:ByteArray):Bool:=decide (s.size<=6)&&lower (bU s)
@[reducible] def none_:ByteArray:=⟨#[]⟩
def aW (v:aa.D):Bool:=cond (decide (v.1=(0:Int))) (decide (v.2.1=(0:Int))&&decide (v.2.2.1=none_))
 (cond (decide (v.1=(1:Int))) (inR v.2.1 (-9999) 9999&&decide (v.2.2.1=none_))
 (cond (decide (v.1=(2:Int))) (decide (v.2.1=(0:Int))&&text v.2.2.1)
 (cond (decide (v.1=(3:Int))) (inR v.2.1 0 1&&decide (v.2.2.1=none_)) false)))
def dV (c:ag.D):Bool:=inR c.1 1 3
def bE (x:List ag.D):Bool:=decide (x.length<=4)&&x.all dV
def taken (row:List aa.D) (l:List Int):List aa.D:=l.map fun i=>nth (t:=aa) row i
def ov (row:List aa.D):Bool:=decide (row.length<=4)&&row.all aW
def idx {t:Ty} (p:t.D->Bool) (xs:List t.D):Int:=match xs.findIdx? p with
 | some k=>(k:Int)
 | none=>-1
def Ac (row:List aa.D) (l:List Int):Prop:=∀i∈l,0<=i/\i<(row.length:Int)
theorem Gm {B:Nat} {row:List aa.D} {l:List Int} (h:SmB B (.sl aa) row) (hl:SmB B (.sl (.int .i64)) l):SmB B (.sl aa) (taken row l):=by
 refine⟨by unfold taken;rw[List.length_map];exact hl.1,fun x hx=>?_⟩
 unfold taken at hx
 obtain⟨i,_,rfl⟩:=List.mem_map.1 hx
 exact aN h i
def fold (a b alone:Int):Int:=cond (inR a 0 2&&inR b 0 2) (cond (decide (a=alone)||decide (b=alone)) alone (cond (decide (a=2)||decide (b=2)) 2 (1-alone))) (-1)
def zV (a b:Int):Int:=fold a b 0
def EG (a b:Int):Int:=fold a b 1
def An (a:Int):Int:=cond (decide (a=0)) 1 (cond (decide (a=1)) 0 (cond (decide (a=2)) 2 (-1)))
def bool (b:Bool):Int:=cond b 1 0
@[reducible] def zeroV:aa.D:=((0:Int),(0:Int),none_,())
def valueOf (n:Int):aa.D:=cond (inR n 0 1) ((3:Int),n,none_,()) zeroV
def eI (v:aa.D):Int:=cond (aW v) (cond (decide (v.1=(0:Int))) 2 (cond (decide (v.1=(3:Int))) v.2.1 (-1))) (-1)
def less (a b:Int):Int:=cond (decide (a<b)) 1 0
def vj (a b:Int):Int:=cond (decide (a<b)) (-1) (cond (decide (b<a)) 1 0)
def Ci (a b:ByteArray):Int:=cond (Op.bytesLess a.toList b.toList) (-1) (cond (!(Op.bytesLess a.toList b.toList||decide (a=b))) 1 0)
def orI:List Int->Int
 | []=>0
 | x::l=>cond (decide (x=0)) (orI l) x
def order (v w:aa.D):Int:=orI [vj v.1 w.1,vj v.2.1 w.2.1,Ci v.2.2.1 w.2.2.1]
def BT (kind c:Int):Bool:=cond (decide (kind=1)) (decide (c=0)) (cond (decide (kind=2)) (!decide (c=0)) (cond (decide (kind=3)) (decide (c<0)) (decide (c<=0))))
def compare (kind:Int) (a b:aa.D):Int:=cond (inR kind 1 4&&(aW a&&aW b)) (cond (decide (a.1=(0:Int))||decide (b.1=(0:Int))) 2 (cond (decide (a.1=b.1)) (bool (BT kind (order a b))) (-1))) (-1)
def sI (columns:List ag.D) (row:List aa.D) (k:Int):Bool:=decide ((nth (t:=aa) row k).1=(nth (t:=ag) columns k).1)||(decide ((nth (t:=aa) row k).1=(0:Int))&&(nth (t:=ag) columns k).2.1)
def cA (columns:List ag.D) (row:List aa.D):Bool:=bE columns&&(ov row&&(decide (row.length=columns.length)&&(aQ 0 (row.length:Int)).all (sI columns row)))
def gb (columns:List ag.D) (rows:List (List aa.D)):Bool:=bE columns&&rows.all (cA columns)
def cY (t:ax.D):Bool:=decide (t.2.1.length<=6)&&gb t.1 t.2.1
def bN (ts:List ax.D):Bool:=decide (ts.length<=3)&&ts.all cY
def takes (p:aC.D):Int:=cond (decide (p.1=(3:Int))||decide (p.1=(4:Int))||decide (p.1=(5:Int))||decide (p.1=(6:Int))) 2 (cond (decide (p.1=(7:Int))||decide (p.1=(8:Int))) 1 0)
def noV (p:aC.D):Bool:=Ty.beq aa p.2.2.1 zeroV
def lz (p:aC.D) (columns:List ag.D):Bool:=
 cond (decide (p.1=(1:Int))) (decide (p.2.1=(0:Int))&&(aW p.2.2.1&&!decide (p.2.2.1.1=(0:Int))))
 (cond (decide (p.1=(2:Int))) (inR p.2.1 0 ((columns.length:Int)-1)&&noV p)
 (cond (decide (p.1=(4:Int))) (inR p.2.1 1 4&&noV p)
 (cond (inR p.1 3 8) (decide (p.2.1=(0:Int))&&noV p) false)))
def cI (p:aC.D) (columns:List ag.D) (l:List Int):Int×Bool:=
 cond (decide (p.1=(1:Int))) (p.2.2.1.1,true)
 (cond (decide (p.1=(2:Int))) ((nth (t:=ag) columns p.2.1).1,true)
 (cond (decide (p.1=(3:Int))) (1,l.all fun k=>decide (k=1))
 (cond (decide (p.1=(4:Int))) (3,decide (nth (t:=.int .i64) l 0=nth (t:=.int .i64) l 1))
 (cond (decide (p.1=(8:Int))) (3,true) (3,l.all fun k=>decide (k=3))))))
def fA (columns:List ag.D) (st:List Int) (p:aC.D):Option (List Int):=
 cond (lz p columns&&(decide (takes p<=(st.length:Int))&&(cI p columns (st.drop (st.length-(takes p).toNat))).2)) (some (st.take (st.length-(takes p).toNat)++[(cI p columns (st.drop (st.length-(takes p).toNat))).1])) none
def jd (columns:List ag.D):List aC.D->List Int->Option (List Int)
 | [],st=>some st
 | p::e,st=>match fA columns st p with
  | some st'=>jd columns e st'
  | none=>none
def oneOf:Option (List Int)->Int
 | some [k]=>k
 | _=>-1
def bT (columns:List ag.D) (e:List aC.D):Int:=cond (bE columns&&decide (e.length<=12)) (oneOf (jd columns e [])) (-1)
def sum (a b:aa.D):aa.D:=cond (decide (a.1=(0:Int))||decide (b.1=(0:Int))||!inR (wrap64 (a.2.1+b.2.1)) (-9999) 9999) zeroV ((1:Int),wrap64 (a.2.1+b.2.1),none_,())
def iW (p:aC.D) (row:List aa.D) (l:List aa.D):aa.D:=
 cond (decide (p.1=(1:Int))) p.2.2.1
 (cond (decide (p.1=(2:Int))) (nth (t:=aa) row p.2.1)
 (cond (decide (p.1=(3:Int))) (sum (nth (t:=aa) l 0) (nth (t:=aa) l 1))
 (cond (decide (p.1=(4:Int))) (valueOf (compare p.2.1 (nth (t:=aa) l 0) (nth (t:=aa) l 1)))
 (cond (decide (p.1=(5:Int))) (valueOf (zV (eI (nth (t:=aa) l 0)) (eI (nth (t:=aa) l 1))))
 (cond (decide (p.1=(6:Int))) (valueOf (EG (eI (nth (t:=aa) l 0)) (eI (nth (t:=aa) l 1))))
 (cond (decide (p.1=(7:Int))) (valueOf (An (eI (nth (t:=aa) l 0))))
 (valueOf (bool (decide ((nth (t:=aa) l 0).1=(0:Int)))))))))))
def jP (row:List aa.D) (st:List aa.D) (p:aC.D):List aa.D:=st.take (st.length-(takes p).toNat)++[iW p row (st.drop (st.length-(takes p).toNat))]
def lT (row:List aa.D) (e:List aC.D):aa.D:=nth (t:=aa) (e.foldl (jP row) []) 0
def vV (p:aC.D) (w:Nat):Prop:=p.1=(2:Int)->0<=p.2.1/\p.2.1<(w:Int)
def xB (w:Nat):List aC.D->Nat->Prop
 | [],d=>0<d
 | p::e,d=>takes p<=(d:Int)/\(1<=p.1/\p.1<=8)/\vV p w/\xB w e (d-(takes p).toNat+1)
def cJ (w:Nat) (e:List aC.D):Prop:=e.length<=12/\xB w e 0
end M
theorem ew {n N:Int} (h:M.inR n 0 N=true):0<=n:=M.ew h
theorem jC {n:Int} {N:Nat} (h:M.inR n 0 (wrap64 ((N:Int)-1))=true):n<(N:Int):=by
 have h1:=M.ew h
 have h2:=M.mZ h
 have:wrap64 ((N:Int)-1)<=(N:Int)-1:=by unfold wrap64;omega
 omega
end Go.AE
