/- What the functions compute, in plain Lean. -/
import Derived.Test.YtmkgiaecgkicoaaGreatAeX
namespace Go.AE
open Go Go.RowKit
abbrev aC:Ty:=.int .i64
abbrev aa:Ty:=.pair (.int .i64) (.pair (.int .i64) (.pair .str .unit))
abbrev ay:Ty:=.pair (.int .i64) (.pair .bool .unit)
abbrev ag:Ty:=.pair (.sl ay) (.pair (.sl (.sl aa)) .unit)
abbrev aE:Ty:=.pair (.int .i64) (.pair (.int .i64) (.pair aa .unit))
abbrev ai:Ty:=.pair (.int .i64) (.pair (.int .i64) (.pair (.sl (.int .i64)) (.pair (.int .i64) (.pair (.sl (.int .i64)) (.pair .bool (.pair (.sl aE) .unit))))))
abbrev qQ:Ty:=.pair (.int .i64) (.pair (.int .i64) (.pair (.int .i64) (.pair (.int .i64) (.pair (.sl aE) (.pair (.sl (.int .i64)) .unit)))))
abbrev lB:Ty:=.pair (.int .i64) (.pair (.sl aE) .unit)
abbrev ak:Ty:=.pair (.int .i64) (.pair (.sl aa) (.pair .bool .unit))
abbrev HB:Ty:=.pair (.sl qQ) (.pair (.sl (.sl aa)) (.pair (.sl (.int .i64)) .unit))
abbrev JA:Ty:=.pair (.sl ag) (.pair (.sl (.int .i64)) (.pair (.sl HB) .unit))
abbrev LTb:Type:=List ag.D
abbrev LV:Type:=List aa.D
abbrev LPt:Type:=List aE.D
abbrev LC:Type:=List ay.D
abbrev LLV:Type:=List (List aa.D)
abbrev TTb:Ty:=.sl ag
abbrev TSS:Ty:=.sl qQ
abbrev TCS:Ty:=.sl ay
abbrev TVS:Ty:=.sl aa
abbrev TPS:Ty:=.sl aE
abbrev TGS:Ty:=.sl lB
namespace M
def inR (n a b:Int):Bool:=decide (a<=n)&&decide (n<=b)
theorem kf {n N:Int} (h:inR n 0 N=true):0<=n:=by unfold inR at h;simp at h;exact h.1
theorem HO {n N:Int} (h:inR n 0 N=true):n<=N:=by unfold inR at h;simp at h;exact h.2
def lower (l:List Int):Bool:=l.all fun n=>inR n 97 122
def text (s:ByteArray):Bool:=decide (s.size<=6)&&lower (bQ s)
abbrev none_:ByteArray:=⟨#[]⟩
def aN (v:aa.D):Bool:=cond (decide (v.1=(0:Int))) (decide (v.2.1=(0:Int))&&decide (v.2.2.1=none_))
 (cond (decide (v.1=(1:Int))) (inR v.2.1 (-9999) 9999&&decide (v.2.2.1=none_))
 (cond (decide (v.1=(2:Int))) (decide (v.2.1=(0:Int))&&text v.2.2.1)
 (cond (decide (v.1=(3:Int))) (inR v.2.1 0 1&&decide (v.2.2.1=none_)) false)))
def ee (c:ay.D):Bool:=inR c.1 1 3
def bH (x:List ay.D):Bool:=decide (x.length<=4)&&x.all ee
def ck (c:List ay.D) (l:List Int):Bool:=inR l.length 1 4&&l.all fun n=>inR n 0 (c.length-1)
def taken (row:List aa.D) (l:List Int):List aa.D:=l.map fun i=>nth (t:=aa) row i
def oA (row:List aa.D):Bool:=decide (row.length<=4)&&row.all aN
def idx {t:Ty} (p:t.D->Bool) (xs:List t.D):Int:=match xs.findIdx? p with
 | some k=>(k:Int)
 | none=>-1
def eZ (row:List aa.D) (l:List Int):Prop:=∀i∈l,0<=i/\i<(row.length:Int)
theorem gi {B:Nat} {row:List aa.D} {l:List Int} (h:SmB B (.sl aa) row) (hl:SmB B (.sl (.int .i64)) l):SmB B (.sl aa) (taken row l):=by
 refine⟨by unfold taken;rw[List.length_map];exact hl.1,fun x hx=>?_⟩
 unfold taken at hx
 obtain⟨i,_,rfl⟩:=List.mem_map.1 hx
 exact aH h i
def sure (n:Int):Int:=cond (decide (n=0)) 0 (cond (decide (n=1)) 2 1)
def fold (a b alone:Int):Int:=cond (inR a 0 2&&inR b 0 2) (cond (decide (a=alone)||decide (b=alone)) alone (cond (decide (a=2)||decide (b=2)) 2 (1-alone))) (-1)
def ru (a b:Int):Int:=fold a b 0
def yd (a b:Int):Int:=fold a b 1
def qB (a:Int):Int:=cond (decide (a=0)) 1 (cond (decide (a=1)) 0 (cond (decide (a=2)) 2 (-1)))
def bool (b:Bool):Int:=cond b 1 0
abbrev zeroV:aa.D:=((0:Int),(0:Int),none_,())
def valueOf (n:Int):aa.D:=cond (inR n 0 1) ((3:Int),n,none_,()) zeroV
def cj (v:aa.D):Int:=cond (aN v) (cond (decide (v.1=(0:Int))) 2 (cond (decide (v.1=(3:Int))) v.2.1 (-1))) (-1)
def less (a b:Int):Int:=cond (decide (a<b)) 1 0
def uY (a b:Int):Int:=cond (decide (a<b)) (-1) (cond (decide (b<a)) 1 0)
def uI (a b:ByteArray):Int:=cond (Op.bytesLess a.toList b.toList) (-1) (cond (!(Op.bytesLess a.toList b.toList||decide (a=b))) 1 0)
def orI:List Int->Int
 | []=>0
 | x::l=>cond (decide (x=0)) (orI l) x
def order (v w:aa.D):Int:=orI [uY v.1 w.1,uY v.2.1 w.2.1,uI v.2.2.1 w.2.2.1]
def dX (a b:aa.D):Int:=cond (aN a&&aN b) (order a b) 0
def zD (kind c:Int):Bool:=cond (decide (kind=1)) (decide (c=0)) (cond (decide (kind=2)) (!decide (c=0)) (cond (decide (kind=3)) (decide (c<0)) (decide (c<=0))))
def compare (kind:Int) (a b:aa.D):Int:=cond (inR kind 1 4&&(aN a&&aN b)) (cond (decide (a.1=(0:Int))||decide (b.1=(0:Int))) 2 (cond (decide (a.1=b.1)) (bool (zD kind (order a b))) (-1))) (-1)
def tq (columns:List ay.D) (row:List aa.D) (k:Int):Bool:=decide ((nth (t:=aa) row k).1=(nth (t:=ay) columns k).1)||(decide ((nth (t:=aa) row k).1=(0:Int))&&(nth (t:=ay) columns k).2.1)
def bM (columns:List ay.D) (row:List aa.D):Bool:=bH columns&&(oA row&&(decide (row.length=columns.length)&&(aR 0 (row.length:Int)).all (tq columns row)))
def gu (columns:List ay.D) (rows:List (List aa.D)):Bool:=bH columns&&rows.all (bM columns)
def dy (t:ag.D):Bool:=decide (t.2.1.length<=6)&&gu t.1 t.2.1
def aG (ts:List ag.D):Bool:=decide (ts.length<=3)&&ts.all dy
def kr (vs:List aa.D):Bool:=vs.any fun v=>decide (v.1=(0:Int))
def takes (p:aE.D):Int:=cond (decide (p.1=(3:Int))||decide (p.1=(4:Int))||decide (p.1=(5:Int))||decide (p.1=(6:Int))) 2 (cond (decide (p.1=(7:Int))||decide (p.1=(8:Int))) 1 0)
def noV (p:aE.D):Bool:=Ty.beq aa p.2.2.1 zeroV
def lK (p:aE.D) (columns:List ay.D):Bool:=
 cond (decide (p.1=(1:Int))) (decide (p.2.1=(0:Int))&&(aN p.2.2.1&&!decide (p.2.2.1.1=(0:Int))))
 (cond (decide (p.1=(2:Int))) (inR p.2.1 0 ((columns.length:Int)-1)&&noV p)
 (cond (decide (p.1=(4:Int))) (inR p.2.1 1 4&&noV p)
 (cond (inR p.1 3 8) (decide (p.2.1=(0:Int))&&noV p) false)))
def cP (p:aE.D) (columns:List ay.D) (l:List Int):Int×Bool:=
 cond (decide (p.1=(1:Int))) (p.2.2.1.1,true)
 (cond (decide (p.1=(2:Int))) ((nth (t:=ay) columns p.2.1).1,true)
 (cond (decide (p.1=(3:Int))) (1,l.all fun k=>decide (k=1))
 (cond (decide (p.1=(4:Int))) (3,decide (nth (t:=.int .i64) l 0=nth (t:=.int .i64) l 1))
 (cond (decide (p.1=(8:Int))) (3,true) (3,l.all fun k=>decide (k=3))))))
def fL (columns:List ay.D) (st:List Int) (p:aE.D):Option (List Int):=
 cond (lK p columns&&(decide (takes p<=(st.length:Int))&&(cP p columns (st.drop (st.length-(takes p).toNat))).2)) (some (st.take (st.length-(takes p).toNat)++[(cP p columns (st.drop (st.length-(takes p).toNat))).1])) none
def jk (columns:List ay.D):List aE.D->List Int->Option (List Int)
 | [],st=>some st
 | p::e,st=>match fL columns st p with
  | some st'=>jk columns e st'
  | none=>none
def oneOf:Option (List Int)->Int
 | some [k]=>k
 | _=>-1
def dF (columns:List ay.D) (e:List aE.D):Int:=cond (bH columns&&decide (e.length<=12)) (oneOf (jk columns e [])) (-1)
def sum (a b:aa.D):aa.D:=cond (decide (a.1=(0:Int))||decide (b.1=(0:Int))||!inR (wrap64 (a.2.1+b.2.1)) (-9999) 9999) zeroV ((1:Int),wrap64 (a.2.1+b.2.1),none_,())
def gZ (p:aE.D) (row:List aa.D) (l:List aa.D):aa.D:=
 cond (decide (p.1=(1:Int))) p.2.2.1
 (cond (decide (p.1=(2:Int))) (nth (t:=aa) row p.2.1)
 (cond (decide (p.1=(3:Int))) (sum (nth (t:=aa) l 0) (nth (t:=aa) l 1))
 (cond (decide (p.1=(4:Int))) (valueOf (compare p.2.1 (nth (t:=aa) l 0) (nth (t:=aa) l 1)))
 (cond (decide (p.1=(5:Int))) (valueOf (ru (cj (nth (t:=aa) l 0)) (cj (nth (t:=aa) l 1))))
 (cond (decide (p.1=(6:Int))) (valueOf (yd (cj (nth (t:=aa) l 0)) (cj (nth (t:=aa) l 1))))
 (cond (decide (p.1=(7:Int))) (valueOf (qB (cj (nth (t:=aa) l 0))))
 (valueOf (bool (decide ((nth (t:=aa) l 0).1=(0:Int)))))))))))
def eY (row:List aa.D) (st:List aa.D) (p:aE.D):List aa.D:=st.take (st.length-(takes p).toNat)++[gZ p row (st.drop (st.length-(takes p).toNat))]
def eR (row:List aa.D) (e:List aE.D):aa.D:=nth (t:=aa) (e.foldl (eY row) []) 0
def nF (p:aE.D) (w:Nat):Prop:=p.1=(2:Int)->0<=p.2.1/\p.2.1<(w:Int)
def xX (w:Nat):List aE.D->Nat->Prop
 | [],d=>0<d
 | p::e,d=>takes p<=(d:Int)/\(1<=p.1/\p.1<=8)/\nF p w/\xX w e (d-(takes p).toNat+1)
def jE (w:Nat) (e:List aE.D):Prop:=e.length<=12/\xX w e 0
def aS (tables:List ag.D) (b:ai.D):Bool:=
 inR b.2.1 0 ((tables.length:Int)-1) &&
 cond (decide (b.1=(1:Int))) (ck (nth (t:=ag) tables b.2.1).1 b.2.2.1&&(decide (b.2.2.2.1=(0:Int))&&(decide (b.2.2.2.2.1.length=0)&&(!b.2.2.2.2.2.1&&decide (b.2.2.2.2.2.2.1.length=0)))))
 (cond (decide (b.1=(3:Int))) (decide (dF (nth (t:=ag) tables b.2.1).1 b.2.2.2.2.2.2.1=3)&&(decide (b.2.2.1.length=0)&&(decide (b.2.2.2.1=(0:Int))&&(decide (b.2.2.2.2.1.length=0)&&!b.2.2.2.2.2.1))))
 (cond (decide (b.1=(2:Int))) (inR b.2.2.2.1 0 ((tables.length:Int)-1)&&(ck (nth (t:=ag) tables b.2.1).1 b.2.2.1&&(ck (nth (t:=ag) tables b.2.2.2.1).1 b.2.2.2.2.1&&(decide (b.2.2.1.length=b.2.2.2.2.1.length)&&(decide (b.2.2.2.2.2.2.1.length=0) &&
  (aR 0 (b.2.2.1.length:Int)).all fun i=>decide ((nth (t:=ay) (nth (t:=ag) tables b.2.1).1 (nth (t:=.int .i64) b.2.2.1 i)).1=(nth (t:=ay) (nth (t:=ag) tables b.2.2.2.1).1 (nth (t:=.int .i64) b.2.2.2.2.1 i)).1)))))) false))
def fW (tables:List ag.D) (b:ai.D):List (List aa.D):=(nth (t:=ag) tables b.2.1).2.1
def breaks (tables:List ag.D) (b:ai.D) (n:Int):Bool:=
 cond (decide (b.1=(3:Int))) (Ty.beq aa (eR (nth (t:=.sl aa) (fW tables b) n) b.2.2.2.2.2.2.1) (valueOf 0))
 (cond (kr (taken (nth (t:=.sl aa) (fW tables b) n) b.2.2.1)) false
 (cond (decide (b.1=(1:Int))) (((fW tables b).take n.toNat).any fun r=>decide (taken r b.2.2.1=taken (nth (t:=.sl aa) (fW tables b) n) b.2.2.1))
 (!((nth (t:=ag) tables b.2.2.2.1).2.1.any fun r=>decide (taken r b.2.2.2.2.1=taken (nth (t:=.sl aa) (fW tables b) n) b.2.2.1)))))
def broken (tables:List ag.D) (b:ai.D):Int:=match (aR 0 ((fW tables b).length:Int)).find? (breaks tables b) with
 | some n=>n
 | none=>-1
def aJ (tables:List ag.D) (b:ai.D):Int:=cond (aG tables&&aS tables b) (broken tables b) (-2)
def bq (tables:List ag.D) (bonds:List ai.D):Bool:=decide (bonds.length<=4)&&bonds.all fun b=>decide (aJ tables b=-1)
end M
theorem kf {n N:Int} (h:M.inR n 0 N=true):0<=n:=M.kf h
theorem ot {n:Int} {N:Nat} (h:M.inR n 0 (wrap64 ((N:Int)-1))=true):n<(N:Int):=by
 have h1:=M.kf h
 have h2:=M.HO h
 have:wrap64 ((N:Int)-1)<=(N:Int)-1:=by unfold wrap64;omega
 omega
end Go.AE
