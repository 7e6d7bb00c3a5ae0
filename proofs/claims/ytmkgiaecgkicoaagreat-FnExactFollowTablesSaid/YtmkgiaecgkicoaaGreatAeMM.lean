/- What the functions compute, in plain Lean. -/
import Derived.Test.YtmkgiaecgkicoaaGreatAeX
namespace Go.AE
open Go Go.RowKit
abbrev au:Ty:=.int .i64
abbrev aa:Ty:=.pair (.int .i64) (.pair (.int .i64) (.pair .str .unit))
abbrev ai:Ty:=.pair (.int .i64) (.pair .bool .unit)
abbrev TTable:Ty:=.pair (.sl ai) (.pair (.sl (.sl aa)) .unit)
abbrev ax:Ty:=.pair (.int .i64) (.pair (.int .i64) (.pair aa .unit))
abbrev TBond:Ty:=.pair (.int .i64) (.pair (.int .i64) (.pair (.sl (.int .i64)) (.pair (.int .i64) (.pair (.sl (.int .i64)) (.pair .bool (.pair (.sl ax) .unit))))))
abbrev xE:Ty:=.pair (.int .i64) (.pair (.int .i64) (.pair (.int .i64) (.pair (.int .i64) (.pair (.sl ax) (.pair (.sl (.int .i64)) .unit)))))
abbrev wN:Ty:=.pair (.int .i64) (.pair (.sl ax) .unit)
abbrev TChange:Ty:=.pair (.int .i64) (.pair (.sl aa) (.pair .bool .unit))
abbrev Il:Ty:=.pair (.sl xE) (.pair (.sl (.sl aa)) (.pair (.sl (.int .i64)) .unit))
abbrev Js:Ty:=.pair (.sl TTable) (.pair (.sl (.int .i64)) (.pair (.sl Il) .unit))
abbrev LTb:Type:=List TTable.D
abbrev LV:Type:=List aa.D
abbrev LPt:Type:=List ax.D
abbrev LC:Type:=List ai.D
abbrev LLV:Type:=List (List aa.D)
abbrev TTb:Ty:=.sl TTable
abbrev TSS:Ty:=.sl xE
abbrev TCS:Ty:=.sl ai
abbrev TVS:Ty:=.sl aa
abbrev TPS:Ty:=.sl ax
abbrev TGS:Ty:=.sl wN
namespace M
def bE (n:Nat) (left:Int):Int:=if left-n<0 then -1 else left-n
def bM (v:aa.D) (left:Int):Int:=bE v.2.2.1.size left
def rJ {α:Type} (f:α->Int->Int):List α->Int->Int
 | [],l=>l
 | x::xs,l=>if f x l<0 then -1 else rJ f xs (f x l)
def szS {α:Type} (f:α->Int->Int) (xs:List α) (left:Int):Int:=if left-xs.length<0 then -1 else rJ f xs (left-xs.length)
def iP (r:Int) (k:Int->Int):Int:=if r<0 then -1 else k r
def bH (x:TTable.D) (l:Int):Int:=iP (bE x.1.length l) fun l=>iP (szS (szS bM) x.2.1 l) fun l=>l
def gy (x:ax.D) (l:Int):Int:=iP (bM x.2.2.1 l) fun l=>l
def dj (x:TBond.D) (l:Int):Int:=iP (bE x.2.2.1.length l) fun l=>iP (bE x.2.2.2.2.1.length l) fun l=>iP (szS gy x.2.2.2.2.2.2.1 l) fun l=>l
def inR (n a b:Int):Bool:=decide (a<=n)&&decide (n<=b)
theorem jN {n N:Int} (h:inR n 0 N=true):0<=n:=by unfold inR at h;simp at h;exact h.1
theorem Iq {n N:Int} (h:inR n 0 N=true):n<=N:=by unfold inR at h;simp at h;exact h.2
def lower (l:List Int):Bool:=l.all fun n=>inR n 97 122
def text (s:ByteArray):Bool:=decide (s.size<=6)&&lower (bI s)
abbrev none_:ByteArray:=⟨#[]⟩
def aO (v:aa.D):Bool:=cond (decide (v.1=(0:Int))) (decide (v.2.1=(0:Int))&&decide (v.2.2.1=none_))
 (cond (decide (v.1=(1:Int))) (inR v.2.1 (-9999) 9999&&decide (v.2.2.1=none_))
 (cond (decide (v.1=(2:Int))) (decide (v.2.1=(0:Int))&&text v.2.2.1)
 (cond (decide (v.1=(3:Int))) (inR v.2.1 0 1&&decide (v.2.2.1=none_)) false)))
def dO (c:ai.D):Bool:=inR c.1 1 3
def bC (x:List ai.D):Bool:=decide (x.length<=4)&&x.all dO
def bT (c:List ai.D) (l:List Int):Bool:=inR l.length 1 4&&l.all fun n=>inR n 0 (c.length-1)
def taken (row:List aa.D) (l:List Int):List aa.D:=l.map fun i=>nth (t:=aa) row i
def oS (row:List aa.D):Bool:=decide (row.length<=4)&&row.all aO
def idx {t:Ty} (p:t.D->Bool) (xs:List t.D):Int:=match xs.findIdx? p with
 | some k=>(k:Int)
 | none=>-1
def eJ (row:List aa.D) (l:List Int):Prop:=∀i∈l,0<=i/\i<(row.length:Int)
theorem fS {B:Nat} {row:List aa.D} {l:List Int} (h:SmB B (.sl aa) row) (hl:SmB B (.sl (.int .i64)) l):SmB B (.sl aa) (taken row l):=by
 refine⟨by unfold taken;rw[List.length_map];exact hl.1,fun x hx=>?_⟩
 unfold taken at hx
 obtain⟨i,_,rfl⟩:=List.mem_map.1 hx
 exact ay h i
def sure (n:Int):Int:=cond (decide (n=0)) 0 (cond (decide (n=1)) 2 1)
def fold (a b alone:Int):Int:=cond (inR a 0 2&&inR b 0 2) (cond (decide (a=alone)||decide (b=alone)) alone (cond (decide (a=2)||decide (b=2)) 2 (1-alone))) (-1)
def rj (a b:Int):Int:=fold a b 0
def zE (a b:Int):Int:=fold a b 1
def rK (a:Int):Int:=cond (decide (a=0)) 1 (cond (decide (a=1)) 0 (cond (decide (a=2)) 2 (-1)))
def bool (b:Bool):Int:=cond b 1 0
abbrev zeroV:aa.D:=((0:Int),(0:Int),none_,())
def valueOf (n:Int):aa.D:=cond (inR n 0 1) ((3:Int),n,none_,()) zeroV
def bU (v:aa.D):Int:=cond (aO v) (cond (decide (v.1=(0:Int))) 2 (cond (decide (v.1=(3:Int))) v.2.1 (-1))) (-1)
def less (a b:Int):Int:=cond (decide (a<b)) 1 0
def uZ (a b:Int):Int:=cond (decide (a<b)) (-1) (cond (decide (b<a)) 1 0)
def uN (a b:ByteArray):Int:=cond (Op.bytesLess a.toList b.toList) (-1) (cond (!(Op.bytesLess a.toList b.toList||decide (a=b))) 1 0)
def orI:List Int->Int
 | []=>0
 | x::l=>cond (decide (x=0)) (orI l) x
def order (v w:aa.D):Int:=orI [uZ v.1 w.1,uZ v.2.1 w.2.1,uN v.2.2.1 w.2.2.1]
def dK (a b:aa.D):Int:=cond (aO a&&aO b) (order a b) 0
def Av (kind c:Int):Bool:=cond (decide (kind=1)) (decide (c=0)) (cond (decide (kind=2)) (!decide (c=0)) (cond (decide (kind=3)) (decide (c<0)) (decide (c<=0))))
def compare (kind:Int) (a b:aa.D):Int:=cond (inR kind 1 4&&(aO a&&aO b)) (cond (decide (a.1=(0:Int))||decide (b.1=(0:Int))) 2 (cond (decide (a.1=b.1)) (bool (Av kind (order a b))) (-1))) (-1)
def tJ (columns:List ai.D) (row:List aa.D) (k:Int):Bool:=decide ((nth (t:=aa) row k).1=(nth (t:=ai) columns k).1)||(decide ((nth (t:=aa) row k).1=(0:Int))&&(nth (t:=ai) columns k).2.1)
def bG (columns:List ai.D) (row:List aa.D):Bool:=bC columns&&(oS row&&(decide (row.length=columns.length)&&(aH 0 (row.length:Int)).all (tJ columns row)))
def fX (columns:List ai.D) (rows:List (List aa.D)):Bool:=bC columns&&rows.all (bG columns)
def cN (t:TTable.D):Bool:=decide (t.2.1.length<=6)&&fX t.1 t.2.1
def aA (ts:List TTable.D):Bool:=decide (ts.length<=3)&&ts.all cN
def kB (vs:List aa.D):Bool:=vs.any fun v=>decide (v.1=(0:Int))
def takes (p:ax.D):Int:=cond (decide (p.1=(3:Int))||decide (p.1=(4:Int))||decide (p.1=(5:Int))||decide (p.1=(6:Int))) 2 (cond (decide (p.1=(7:Int))||decide (p.1=(8:Int))) 1 0)
def noV (p:ax.D):Bool:=Ty.beq aa p.2.2.1 zeroV
def lI (p:ax.D) (columns:List ai.D):Bool:=
 cond (decide (p.1=(1:Int))) (decide (p.2.1=(0:Int))&&(aO p.2.2.1&&!decide (p.2.2.1.1=(0:Int))))
 (cond (decide (p.1=(2:Int))) (inR p.2.1 0 ((columns.length:Int)-1)&&noV p)
 (cond (decide (p.1=(4:Int))) (inR p.2.1 1 4&&noV p)
 (cond (inR p.1 3 8) (decide (p.2.1=(0:Int))&&noV p) false)))
def cF (p:ax.D) (columns:List ai.D) (l:List Int):Int×Bool:=
 cond (decide (p.1=(1:Int))) (p.2.2.1.1,true)
 (cond (decide (p.1=(2:Int))) ((nth (t:=ai) columns p.2.1).1,true)
 (cond (decide (p.1=(3:Int))) (1,l.all fun k=>decide (k=1))
 (cond (decide (p.1=(4:Int))) (3,decide (nth (t:=.int .i64) l 0=nth (t:=.int .i64) l 1))
 (cond (decide (p.1=(8:Int))) (3,true) (3,l.all fun k=>decide (k=3))))))
def fu (columns:List ai.D) (st:List Int) (p:ax.D):Option (List Int):=
 cond (lI p columns&&(decide (takes p<=(st.length:Int))&&(cF p columns (st.drop (st.length-(takes p).toNat))).2)) (some (st.take (st.length-(takes p).toNat)++[(cF p columns (st.drop (st.length-(takes p).toNat))).1])) none
def js (columns:List ai.D):List ax.D->List Int->Option (List Int)
 | [],st=>some st
 | p::e,st=>match fu columns st p with
  | some st'=>js columns e st'
  | none=>none
def oneOf:Option (List Int)->Int
 | some [k]=>k
 | _=>-1
def dg (columns:List ai.D) (e:List ax.D):Int:=cond (bC columns&&decide (e.length<=12)) (oneOf (js columns e [])) (-1)
def sum (a b:aa.D):aa.D:=cond (decide (a.1=(0:Int))||decide (b.1=(0:Int))||!inR (wrap64 (a.2.1+b.2.1)) (-9999) 9999) zeroV ((1:Int),wrap64 (a.2.1+b.2.1),none_,())
def gU (p:ax.D) (row:List aa.D) (l:List aa.D):aa.D:=
 cond (decide (p.1=(1:Int))) p.2.2.1
 (cond (decide (p.1=(2:Int))) (nth (t:=aa) row p.2.1)
 (cond (decide (p.1=(3:Int))) (sum (nth (t:=aa) l 0) (nth (t:=aa) l 1))
 (cond (decide (p.1=(4:Int))) (valueOf (compare p.2.1 (nth (t:=aa) l 0) (nth (t:=aa) l 1)))
 (cond (decide (p.1=(5:Int))) (valueOf (rj (bU (nth (t:=aa) l 0)) (bU (nth (t:=aa) l 1))))
 (cond (decide (p.1=(6:Int))) (valueOf (zE (bU (nth (t:=aa) l 0)) (bU (nth (t:=aa) l 1))))
 (cond (decide (p.1=(7:Int))) (valueOf (rK (bU (nth (t:=aa) l 0))))
 (valueOf (bool (decide ((nth (t:=aa) l 0).1=(0:Int)))))))))))
def eM (row:List aa.D) (st:List aa.D) (p:ax.D):List aa.D:=st.take (st.length-(takes p).toNat)++[gU p row (st.drop (st.length-(takes p).toNat))]
def ep (row:List aa.D) (e:List ax.D):aa.D:=nth (t:=aa) (e.foldl (eM row) []) 0
def nr (p:ax.D) (w:Nat):Prop:=p.1=(2:Int)->0<=p.2.1/\p.2.1<(w:Int)
def yS (w:Nat):List ax.D->Nat->Prop
 | [],d=>0<d
 | p::e,d=>takes p<=(d:Int)/\(1<=p.1/\p.1<=8)/\nr p w/\yS w e (d-(takes p).toNat+1)
def jB (w:Nat) (e:List ax.D):Prop:=e.length<=12/\yS w e 0
def aN (tables:List TTable.D) (b:TBond.D):Bool:=
 inR b.2.1 0 ((tables.length:Int)-1) &&
 cond (decide (b.1=(1:Int))) (bT (nth (t:=TTable) tables b.2.1).1 b.2.2.1&&(decide (b.2.2.2.1=(0:Int))&&(decide (b.2.2.2.2.1.length=0)&&(!b.2.2.2.2.2.1&&decide (b.2.2.2.2.2.2.1.length=0)))))
 (cond (decide (b.1=(3:Int))) (decide (dg (nth (t:=TTable) tables b.2.1).1 b.2.2.2.2.2.2.1=3)&&(decide (b.2.2.1.length=0)&&(decide (b.2.2.2.1=(0:Int))&&(decide (b.2.2.2.2.1.length=0)&&!b.2.2.2.2.2.1))))
 (cond (decide (b.1=(2:Int))) (inR b.2.2.2.1 0 ((tables.length:Int)-1)&&(bT (nth (t:=TTable) tables b.2.1).1 b.2.2.1&&(bT (nth (t:=TTable) tables b.2.2.2.1).1 b.2.2.2.2.1&&(decide (b.2.2.1.length=b.2.2.2.2.1.length)&&(decide (b.2.2.2.2.2.2.1.length=0) &&
  (aH 0 (b.2.2.1.length:Int)).all fun i=>decide ((nth (t:=ai) (nth (t:=TTable) tables b.2.1).1 (nth (t:=.int .i64) b.2.2.1 i)).1=(nth (t:=ai) (nth (t:=TTable) tables b.2.2.2.1).1 (nth (t:=.int .i64) b.2.2.2.2.1 i)).1)))))) false))
def dZ (tables:List TTable.D) (b:TBond.D):List (List aa.D):=(nth (t:=TTable) tables b.2.1).2.1
def breaks (tables:List TTable.D) (b:TBond.D) (n:Int):Bool:=
 cond (decide (b.1=(3:Int))) (Ty.beq aa (ep (nth (t:=.sl aa) (dZ tables b) n) b.2.2.2.2.2.2.1) (valueOf 0))
 (cond (kB (taken (nth (t:=.sl aa) (dZ tables b) n) b.2.2.1)) false
 (cond (decide (b.1=(1:Int))) (((dZ tables b).take n.toNat).any fun r=>decide (taken r b.2.2.1=taken (nth (t:=.sl aa) (dZ tables b) n) b.2.2.1))
 (!((nth (t:=TTable) tables b.2.2.2.1).2.1.any fun r=>decide (taken r b.2.2.2.2.1=taken (nth (t:=.sl aa) (dZ tables b) n) b.2.2.1)))))
def broken (tables:List TTable.D) (b:TBond.D):Int:=match (aH 0 ((dZ tables b).length:Int)).find? (breaks tables b) with
 | some n=>n
 | none=>-1
def eS (tables:List TTable.D) (b:TBond.D):Int:=cond (aA tables&&aN tables b) (broken tables b) (-2)
def cU (tables:List TTable.D) (bonds:List TBond.D):Bool:=decide (bonds.length<=4)&&bonds.all fun b=>decide (eS tables b=-1)
end M
theorem jN {n N:Int} (h:M.inR n 0 N=true):0<=n:=M.jN h
theorem nW {n:Int} {N:Nat} (h:M.inR n 0 (wrap64 ((N:Int)-1))=true):n<(N:Int):=by
 have h1:=M.jN h
 have h2:=M.Iq h
 have:wrap64 ((N:Int)-1)<=(N:Int)-1:=by unfold wrap64;omega
 omega
end Go.AE
