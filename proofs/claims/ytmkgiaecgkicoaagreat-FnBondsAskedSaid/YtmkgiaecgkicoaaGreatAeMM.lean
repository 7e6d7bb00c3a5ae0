/- What the functions compute, in plain Lean. -/
import Derived.Test.YtmkgiaecgkicoaaGreatAeX
section
namespace Go.AE
open Go Go.RowKit
abbrev az:Ty:=.int .i64
abbrev aa:Ty:=.pair (.int .i64) (.pair (.int .i64) (.pair .str .unit))
abbrev ax:Ty:=.pair (.int .i64) (.pair .bool .unit)
abbrev ag:Ty:=.pair (.sl ax) (.pair (.sl (.sl aa)) .unit)
abbrev aE:Ty:=.pair (.int .i64) (.pair (.int .i64) (.pair aa .unit))
abbrev ah:Ty:=.pair (.int .i64) (.pair (.int .i64) (.pair (.sl (.int .i64)) (.pair (.int .i64) (.pair (.sl (.int .i64)) (.pair .bool (.pair (.sl aE) .unit))))))
abbrev qk:Ty:=.pair (.int .i64) (.pair (.int .i64) (.pair (.int .i64) (.pair (.int .i64) (.pair (.sl aE) (.pair (.sl (.int .i64)) .unit)))))
abbrev lz:Ty:=.pair (.int .i64) (.pair (.sl aE) .unit)
abbrev aB:Ty:=.pair (.int .i64) (.pair (.sl aa) (.pair .bool .unit))
abbrev HL:Ty:=.pair (.sl qk) (.pair (.sl (.sl aa)) (.pair (.sl (.int .i64)) .unit))
abbrev Jn:Ty:=.pair (.sl ag) (.pair (.sl (.int .i64)) (.pair (.sl HL) .unit))
abbrev LTb:Type:=List ag.D
abbrev LV:Type:=List aa.D
abbrev LPt:Type:=List aE.D
abbrev LC:Type:=List ax.D
abbrev LLV:Type:=List (List aa.D)
abbrev TTb:Ty:=.sl ag
abbrev TSS:Ty:=.sl qk
abbrev TCS:Ty:=.sl ax
abbrev TVS:Ty:=.sl aa
abbrev TPS:Ty:=.sl aE
abbrev TGS:Ty:=.sl lz
namespace M
def inR (n a b:Int):Bool:=decide (a<=n)&&decide (n<=b)
theorem jO {n N:Int} (h:inR n 0 N=true):0<=n:=by unfold inR at h;simp at h;exact h.1
theorem HS {n N:Int} (h:inR n 0 N=true):n<=N:=by unfold inR at h;simp at h;exact h.2
def lower (l:List Int):Bool:=l.all fun n=>inR n 97 122
def text (s:ByteArray):Bool:=decide (s.size<=6)&&lower (bL s)
abbrev none_:ByteArray:=⟨#[]⟩
def aN (v:aa.D):Bool:=cond (decide (v.1=(0:Int))) (decide (v.2.1=(0:Int))&&decide (v.2.2.1=none_))
 (cond (decide (v.1=(1:Int))) (inR v.2.1 (-9999) 9999&&decide (v.2.2.1=none_))
 (cond (decide (v.1=(2:Int))) (decide (v.2.1=(0:Int))&&text v.2.2.1)
 (cond (decide (v.1=(3:Int))) (inR v.2.1 0 1&&decide (v.2.2.1=none_)) false)))
def dS (c:ax.D):Bool:=inR c.1 1 3
def bC (x:List ax.D):Bool:=decide (x.length<=4)&&x.all dS
def bX (c:List ax.D) (l:List Int):Bool:=inR l.length 1 4&&l.all fun n=>inR n 0 (c.length-1)
def taken (row:List aa.D) (l:List Int):List aa.D:=l.map fun i=>nth (t:=aa) row i
def ot (row:List aa.D):Bool:=decide (row.length<=4)&&row.all aN
def idx {t:Ty} (p:t.D->Bool) (xs:List t.D):Int:=match xs.findIdx? p with
 | some k=>(k:Int)
 | none=>-1
def eV (row:List aa.D) (l:List Int):Prop:=∀i∈l,0<=i/\i<(row.length:Int)
theorem gd {B:Nat} {row:List aa.D} {l:List Int} (h:SmB B (.sl aa) row) (hl:SmB B (.sl (.int .i64)) l):SmB B (.sl aa) (taken row l):=by
 refine⟨by unfold taken;rw[List.length_map];exact hl.1,fun x hx=>?_⟩
 unfold taken at hx
 obtain⟨i,_,rfl⟩:=List.mem_map.1 hx
 exact aJ h i
def sure (n:Int):Int:=cond (decide (n=0)) 0 (cond (decide (n=1)) 2 1)
def fold (a b alone:Int):Int:=cond (inR a 0 2&&inR b 0 2) (cond (decide (a=alone)||decide (b=alone)) alone (cond (decide (a=2)||decide (b=2)) 2 (1-alone))) (-1)
def qw (a b:Int):Int:=fold a b 0
def xZ (a b:Int):Int:=fold a b 1
def ri (a:Int):Int:=cond (decide (a=0)) 1 (cond (decide (a=1)) 0 (cond (decide (a=2)) 2 (-1)))
def bool (b:Bool):Int:=cond b 1 0
abbrev zeroV:aa.D:=((0:Int),(0:Int),none_,())
def valueOf (n:Int):aa.D:=cond (inR n 0 1) ((3:Int),n,none_,()) zeroV
def bV (v:aa.D):Int:=cond (aN v) (cond (decide (v.1=(0:Int))) 2 (cond (decide (v.1=(3:Int))) v.2.1 (-1))) (-1)
def less (a b:Int):Int:=cond (decide (a<b)) 1 0
def tU (a b:Int):Int:=cond (decide (a<b)) (-1) (cond (decide (b<a)) 1 0)
def tw (a b:ByteArray):Int:=cond (Op.bytesLess a.toList b.toList) (-1) (cond (!(Op.bytesLess a.toList b.toList||decide (a=b))) 1 0)
def orI:List Int->Int
 | []=>0
 | x::l=>cond (decide (x=0)) (orI l) x
def order (v w:aa.D):Int:=orI [tU v.1 w.1,tU v.2.1 w.2.1,tw v.2.2.1 w.2.2.1]
def dR (a b:aa.D):Int:=cond (aN a&&aN b) (order a b) 0
def zv (kind c:Int):Bool:=cond (decide (kind=1)) (decide (c=0)) (cond (decide (kind=2)) (!decide (c=0)) (cond (decide (kind=3)) (decide (c<0)) (decide (c<=0))))
def compare (kind:Int) (a b:aa.D):Int:=cond (inR kind 1 4&&(aN a&&aN b)) (cond (decide (a.1=(0:Int))||decide (b.1=(0:Int))) 2 (cond (decide (a.1=b.1)) (bool (zv kind (order a b))) (-1))) (-1)
def tv (columns:List ax.D) (row:List aa.D) (k:Int):Bool:=decide ((nth (t:=aa) row k).1=(nth (t:=ax) columns k).1)||(decide ((nth (t:=aa) row k).1=(0:Int))&&(nth (t:=ax) columns k).2.1)
def bI (columns:List ax.D) (row:List aa.D):Bool:=bC columns&&(ot row&&(decide (row.length=columns.length)&&(aP 0 (row.length:Int)).all (tv columns row)))
def gp (columns:List ax.D) (rows:List (List aa.D)):Bool:=bC columns&&rows.all (bI columns)
def dr (t:ag.D):Bool:=decide (t.2.1.length<=6)&&gp t.1 t.2.1
def aH (ts:List ag.D):Bool:=decide (ts.length<=3)&&ts.all dr
def fq (vs:List aa.D):Bool:=vs.any fun v=>decide (v.1=(0:Int))
def takes (p:aE.D):Int:=cond (decide (p.1=(3:Int))||decide (p.1=(4:Int))||decide (p.1=(5:Int))||decide (p.1=(6:Int))) 2 (cond (decide (p.1=(7:Int))||decide (p.1=(8:Int))) 1 0)
def noV (p:aE.D):Bool:=Ty.beq aa p.2.2.1 zeroV
def lE (p:aE.D) (columns:List ax.D):Bool:=
 cond (decide (p.1=(1:Int))) (decide (p.2.1=(0:Int))&&(aN p.2.2.1&&!decide (p.2.2.1.1=(0:Int))))
 (cond (decide (p.1=(2:Int))) (inR p.2.1 0 ((columns.length:Int)-1)&&noV p)
 (cond (decide (p.1=(4:Int))) (inR p.2.1 1 4&&noV p)
 (cond (inR p.1 3 8) (decide (p.2.1=(0:Int))&&noV p) false)))
def cN (p:aE.D) (columns:List ax.D) (l:List Int):Int×Bool:=
 cond (decide (p.1=(1:Int))) (p.2.2.1.1,true)
 (cond (decide (p.1=(2:Int))) ((nth (t:=ax) columns p.2.1).1,true)
 (cond (decide (p.1=(3:Int))) (1,l.all fun k=>decide (k=1))
 (cond (decide (p.1=(4:Int))) (3,decide (nth (t:=.int .i64) l 0=nth (t:=.int .i64) l 1))
 (cond (decide (p.1=(8:Int))) (3,true) (3,l.all fun k=>decide (k=3))))))
def fH (columns:List ax.D) (st:List Int) (p:aE.D):Option (List Int):=
 cond (lE p columns&&(decide (takes p<=(st.length:Int))&&(cN p columns (st.drop (st.length-(takes p).toNat))).2)) (some (st.take (st.length-(takes p).toNat)++[(cN p columns (st.drop (st.length-(takes p).toNat))).1])) none
def jc (columns:List ax.D):List aE.D->List Int->Option (List Int)
 | [],st=>some st
 | p::e,st=>match fH columns st p with
  | some st'=>jc columns e st'
  | none=>none
def oneOf:Option (List Int)->Int
 | some [k]=>k
 | _=>-1
def dw (columns:List ax.D) (e:List aE.D):Int:=cond (bC columns&&decide (e.length<=12)) (oneOf (jc columns e [])) (-1)
def sum (a b:aa.D):aa.D:=cond (decide (a.1=(0:Int))||decide (b.1=(0:Int))||!inR (wrap64 (a.2.1+b.2.1)) (-9999) 9999) zeroV ((1:Int),wrap64 (a.2.1+b.2.1),none_,())
def gO (p:aE.D) (row:List aa.D) (l:List aa.D):aa.D:=
 cond (decide (p.1=(1:Int))) p.2.2.1
 (cond (decide (p.1=(2:Int))) (nth (t:=aa) row p.2.1)
 (cond (decide (p.1=(3:Int))) (sum (nth (t:=aa) l 0) (nth (t:=aa) l 1))
 (cond (decide (p.1=(4:Int))) (valueOf (compare p.2.1 (nth (t:=aa) l 0) (nth (t:=aa) l 1)))
 (cond (decide (p.1=(5:Int))) (valueOf (qw (bV (nth (t:=aa) l 0)) (bV (nth (t:=aa) l 1))))
 (cond (decide (p.1=(6:Int))) (valueOf (xZ (bV (nth (t:=aa) l 0)) (bV (nth (t:=aa) l 1))))
 (cond (decide (p.1=(7:Int))) (valueOf (ri (bV (nth (t:=aa) l 0))))
 (valueOf (bool (decide ((nth (t:=aa) l 0).1=(0:Int)))))))))))
def eY (row:List aa.D) (st:List aa.D) (p:aE.D):List aa.D:=st.take (st.length-(takes p).toNat)++[gO p row (st.drop (st.length-(takes p).toNat))]
def dY (row:List aa.D) (e:List aE.D):aa.D:=nth (t:=aa) (e.foldl (eY row) []) 0
def mZ (p:aE.D) (w:Nat):Prop:=p.1=(2:Int)->0<=p.2.1/\p.2.1<(w:Int)
def xx (w:Nat):List aE.D->Nat->Prop
 | [],d=>0<d
 | p::e,d=>takes p<=(d:Int)/\(1<=p.1/\p.1<=8)/\mZ p w/\xx w e (d-(takes p).toNat+1)
def jw (w:Nat) (e:List aE.D):Prop:=e.length<=12/\xx w e 0
def aO (tables:List ag.D) (b:ah.D):Bool:=
 inR b.2.1 0 ((tables.length:Int)-1) &&
 cond (decide (b.1=(1:Int))) (bX (nth (t:=ag) tables b.2.1).1 b.2.2.1&&(decide (b.2.2.2.1=(0:Int))&&(decide (b.2.2.2.2.1.length=0)&&(!b.2.2.2.2.2.1&&decide (b.2.2.2.2.2.2.1.length=0)))))
 (cond (decide (b.1=(3:Int))) (decide (dw (nth (t:=ag) tables b.2.1).1 b.2.2.2.2.2.2.1=3)&&(decide (b.2.2.1.length=0)&&(decide (b.2.2.2.1=(0:Int))&&(decide (b.2.2.2.2.1.length=0)&&!b.2.2.2.2.2.1))))
 (cond (decide (b.1=(2:Int))) (inR b.2.2.2.1 0 ((tables.length:Int)-1)&&(bX (nth (t:=ag) tables b.2.1).1 b.2.2.1&&(bX (nth (t:=ag) tables b.2.2.2.1).1 b.2.2.2.2.1&&(decide (b.2.2.1.length=b.2.2.2.2.1.length)&&(decide (b.2.2.2.2.2.2.1.length=0) &&
  (aP 0 (b.2.2.1.length:Int)).all fun i=>decide ((nth (t:=ax) (nth (t:=ag) tables b.2.1).1 (nth (t:=.int .i64) b.2.2.1 i)).1=(nth (t:=ax) (nth (t:=ag) tables b.2.2.2.1).1 (nth (t:=.int .i64) b.2.2.2.2.1 i)).1)))))) false))
def cJ (tables:List ag.D) (b:ah.D):List (List aa.D):=(nth (t:=ag) tables b.2.1).2.1
def breaks (tables:List ag.D) (b:ah.D) (n:Int):Bool:=
 cond (decide (b.1=(3:Int))) (Ty.beq aa (dY (nth (t:=.sl aa) (cJ tables b) n) b.2.2.2.2.2.2.1) (valueOf 0))
 (cond (fq (taken (nth (t:=.sl aa) (cJ tables b) n) b.2.2.1)) false
 (cond (decide (b.1=(1:Int))) (((cJ tables b).take n.toNat).any fun r=>decide (taken r b.2.2.1=taken (nth (t:=.sl aa) (cJ tables b) n) b.2.2.1))
 (!((nth (t:=ag) tables b.2.2.2.1).2.1.any fun r=>decide (taken r b.2.2.2.2.1=taken (nth (t:=.sl aa) (cJ tables b) n) b.2.2.1)))))
def broken (tables:List ag.D) (b:ah.D):Int:=match (aP 0 ((cJ tables b).length:Int)).find? (breaks tables b) with
 | some n=>n
 | none=>-1
def aK (tables:List ag.D) (b:ah.D):Int:=cond (aH tables&&aO tables b) (broken tables b) (-2)
def bQ (tables:List ag.D) (bonds:List ah.D):Bool:=decide (bonds.length<=4)&&bonds.all fun b=>decide (aK tables b=-1)
end M
theorem jO {n N:Int} (h:M.inR n 0 N=true):0<=n:=M.jO h
theorem nD {n:Int} {N:Nat} (h:M.inR n 0 (wrap64 ((N:Int)-1))=true):n<(N:Int):=by
 have h1:=M.jO h
 have h2:=M.HS h
 have:wrap64 ((N:Int)-1)<=(N:Int)-1:=by unfold wrap64;omega
 omega
end Go.AE
end
section
namespace Go.AE
open Go Go.RowKit
@[simp] theorem cq {α β:Type} (x:α) (f:α->β):aL x f=f x:=rfl
@[simp] theorem IQ {σ ε:Type} (s:σ) (g:σ->ε):Ii (some (.inl s)) g=some (g s):=rfl
@[simp] theorem IP {σ ε:Type} (e:ε) (g:σ->ε):Ii (some (.inr e)) g=some e:=rfl
@[simp] theorem IT {σ ε ρ:Type} (s:σ) (g:σ->ε):Ie (ρ:=ρ) (some (.inl s)) g=some (.inl (g s)):=rfl
@[simp] theorem IU {σ ε ρ:Type} (r:Sum ε ρ) (g:σ->ε):Ie (some (.inr r)) g=some r:=rfl
@[simp] theorem IN {α σ ρ:Type} (f:α->σ->Option (Sum σ ρ)) (s:σ):aZ f [] s=some (.inl s):=rfl
theorem dQ {α σ ρ:Type} (f:α->σ->Option (Sum σ ρ)) (x:α) (xs:List α) (s:σ):aZ f (x::xs) s=bF (f x s) (fun s'=>aZ f xs s') (fun r=>some (.inr r)):=rfl
theorem cj {a n i:Int}:i∈aP a n ↔ a<=i/\i<n:=by
 unfold aP
 simp only[List.mem_map,List.mem_range]
 constructor
 ·rintro ⟨k,hk,rfl⟩
  omega
 ·rintro ⟨h1,h2⟩
  exact⟨(i-a).toNat,by omega,by omega⟩
theorem zq {α ρ:Type} {f:α->Unit->Option (Sum Unit ρ)} (p:α->Bool) (r:ρ):∀{xs:List α} (_:∀x∈xs,f x ()=some (cond (p x) (.inr r) (.inl ()))),
  aZ f xs ()=some (cond (xs.any p) (.inr r) (.inl ()))
 | [],_=>rfl
 | x::xs,h=>by
  rw[dQ,h x (List.mem_cons_self ..),List.any_cons]
  cases hp:p x with
  | true=>rfl
  | false=>exact zq p r (fun y hy=>h y (List.mem_cons_of_mem _ hy))
theorem CK {α ρ:Type} {f:α->Unit->Option (Sum Unit ρ)} (p:α->Bool) (r:ρ) {xs:List α} (h:∀x∈xs,f x ()=some (cond (p x) (.inl ()) (.inr r))) :
  aZ f xs ()=some (cond (xs.all p) (.inl ()) (.inr r)):=by
 rw[zq (fun x=>!p x) r (fun x hx=>by rw[h x hx];cases p x<;>rfl)]
 rw[List.all_eq_not_any_not]
 cases xs.any fun x=>!p x<;>rfl
theorem AN {α σ ρ:Type} {f:α->σ->Option (Sum σ ρ)} (g:σ->α->σ) (I:σ->Prop):∀{xs:List α} {s:σ} (_:I s) (_:∀x∈xs,∀s,I s->f x s=some (.inl (g s x))/\I (g s x)),
  aZ f xs s=some (.inl (xs.foldl g s))/\I (xs.foldl g s)
 | [],s,h0,_=>⟨rfl,h0⟩
 | x::xs,s,h0,h=>by
  obtain⟨h1,h2⟩:=h x (List.mem_cons_self ..) s h0
  rw[dQ,h1]
  exact AN g I h2 (fun y hy=>h y (List.mem_cons_of_mem _ hy))
theorem ql {α β ρ:Type} {f:α->List β->Option (Sum (List β) ρ)} (g:α->β) {xs:List α} (h:∀x∈xs,∀s:List β,s.length<xs.length->f x s=some (.inl (s++[g x]))) :
  aZ f xs []=some (.inl (xs.map g)):=by
 have key:∀(ys zs:List α) (s:List β),xs=zs++ys->s.length=zs.length->aZ f ys s=some (.inl (s++ys.map g)):=by
  intro ys
  induction ys with
  | nil=>intro zs s _ _;simp
  | cons y ys ih=>
   intro zs s e hs
   rw[dQ,h y (by rw[e];simp) s (by rw[e,hs];simp)]
   rw[cD,ih (zs++[y]) (s++[g y]) (by rw[e];simp) (by simp[hs])]
   simp
 have:=key xs [] [] rfl rfl
 simpa using this
theorem vo {t:Ty} {xs:List t.D} {i:Int} (h0:0<=i) (h1:i<(xs.length:Int)):nth xs i=xs[i.toNat]'(by omega):=by
 unfold nth
 rw[List.getD_eq_getElem?_getD,List.getElem?_eq_getElem (by omega)]
 rfl
theorem Cb {t:Ty} (x:t.D) (xs:List t.D):nth (t:=t) (x::xs) 0=x:=rfl
theorem BX {t:Ty} (x:t.D) (xs:List t.D) {i:Int} (h:0<=i):nth (t:=t) (x::xs) (i+1)=nth (t:=t) xs i:=by
 have e:(i+1).toNat=i.toNat+1:=by omega
 unfold nth
 rw[e,List.getD_cons_succ]
theorem Cz (n:Nat):aP 0 ((n:Int)+1)=0::(aP 0 n).map (fun i=>i+1):=by
 rw[iR (by omega)]
 congr 1
 unfold aP
 have e1:((n:Int)+1-(0+1)).toNat=n:=by omega
 have e2:((n:Int)-0).toNat=n:=by omega
 rw[e1,e2,List.map_map]
 apply List.map_congr_left
 intro k _
 simp
 omega
theorem fh {t:Ty}:∀(xs:List t.D),(aP 0 (xs.length:Int)).map (fun i=>nth xs i)=xs
 | []=>by rw[jI (by simp)];rfl
 | x::xs=>by
  have e:((x::xs).length:Int)=(xs.length:Int)+1:=by simp
  rw[e,Cz,List.map_cons,List.map_map,Cb]
  congr 1
  refine(List.map_congr_left (g:=fun i=>nth xs i) ?_).trans (fh xs)
  intro i hi
  exact BX x xs (cj.1 hi).1
theorem Io {t:Ty} {p:t.D->Bool} {xs:List t.D}:M.idx (t:=t) p xs<(xs.length:Int)\/xs=[]:=by
 unfold M.idx
 split
 ·rename_i k h
  left
  have:=(List.findIdx?_eq_some_iff_getElem.1 h).1
  omega
 ·cases xs
  ·exact .inr rfl
  ·left;simp;omega
theorem yf {t:Ty} {p:t.D->Bool} {xs:List t.D}:decide ((0:Int)<=M.idx (t:=t) p xs)=xs.any p:=by
 unfold M.idx
 split
 ·rename_i k h
  obtain⟨h1,h2,_⟩:=List.findIdx?_eq_some_iff_getElem.1 h
  rw[decide_eq_true (by omega)]
  exact(List.any_eq_true.2 ⟨_,List.getElem_mem h1,h2⟩).symm
 ·rename_i h
  rw[decide_eq_false (by omega)]
  rw[List.findIdx?_eq_none_iff] at h
  symm
  rw[List.any_eq_false]
  intro x hx
  simp[h x hx]
theorem yd {t:Ty} (p:t.D->Bool):∀(xs:List t.D) (a:Int) (f:Int->Unit->Option (Sum Unit Int)) (_:∀i,0<=i->i<(xs.length:Int)->f (a+i) ()=some (cond (p (nth xs i)) (.inr (a+i)) (.inl ()))),
  aZ f (aP a (a+(xs.length:Int))) ()=some (match xs.findIdx? p with | some k=>.inr (a+(k:Int)) | none=>.inl ())
 | [],a,f,_=>by rw[jI (by simp)];rfl
 | x::xs,a,f,h=>by
  have e:((x::xs).length:Int)=(xs.length:Int)+1:=by simp
  have h0:=h 0 (Int.le_refl _) (by rw[e];omega)
  rw[Int.add_zero,Cb] at h0
  rw[iR (by rw[e];omega),dQ,h0,List.findIdx?_cons]
  cases hp:p x with
  | true=>simp
  | false=>
   simp only[cond_false,cD]
   have ih:=yd p xs (a+1) f (fun i i0 i1=>by
    have:=h (i+1) (by omega) (by rw[e];omega)
    rw[BX x xs i0] at this
    rw[show a+1+i=a+(i+1) by omega]
    exact this)
   rw[show a+((x::xs).length:Int)=a+1+(xs.length:Int) by rw[e];omega,ih]
   cases List.findIdx? p xs with
   | none=>rfl
   | some k=>simp;omega
theorem cW {t:Ty} {p:t.D->Bool} {xs:List t.D} {f:Int->Unit->Option (Sum Unit Int)} (h:∀i,0<=i->i<(xs.length:Int)->f i ()=some (cond (p (nth xs i)) (.inr i) (.inl ()))) :
  bF (aZ f (aP 0 (xs.length:Int)) ()) (fun _:Unit=>some (-1:Int)) (fun q:Int=>some q)=some (M.idx p xs):=by
 have:=yd p xs 0 f (fun i h0 h1=>by rw[Int.zero_add];exact h i h0 h1)
 rw[Int.zero_add] at this
 rw[this]
 unfold M.idx
 cases List.findIdx? p xs with
 | none=>rfl
 | some k=>simp
theorem cA {t:Ty} {p:t.D->Bool} {xs:List t.D}:some (decide ((0:Int)<=M.idx (t:=t) p xs))=some (xs.any p):=by rw[yf]
theorem Cm {t:Ty} [DecidableEq t.D] {xs ys:List t.D} {f:Int->Unit->Option (Sum Unit Unit)} (h:∀i,0<=i->i<(xs.length:Int)->i<(ys.length:Int)->f i ()=some (cond (decide (nth xs i=nth ys i)) (.inl ()) (.inr ()))) :
  cond (!decide ((xs.length:Int)=(ys.length:Int))) (some false) (bF (aZ f (aP 0 (xs.length:Int)) ()) (fun _:Unit=>some true) (fun _:Unit=>some false))=some (decide (xs=ys)):=by
 by_cases hl:xs.length=ys.length
 ·rw[decide_eq_true (by omega:(xs.length:Int)=(ys.length:Int))]
  simp only[Bool.not_true,cond_false]
  rw[CK (fun i=>decide (nth xs i=nth ys i)) () (fun i hi=>by
   obtain⟨h0,h1⟩:=cj.1 hi
   exact h i h0 h1 (by omega))]
  have e:(aP 0 (xs.length:Int)).all (fun i=>decide (nth xs i=nth ys i))=decide (xs=ys):=by
   by_cases he:xs=ys
   ·rw[decide_eq_true he,List.all_eq_true]
    intro i _
    rw[he]
    simp
   ·rw[decide_eq_false he,List.all_eq_false]
    refine Classical.byContradiction fun hn=>he ?_
    rw[<-fh xs,<-fh ys,hl]
    apply List.map_congr_left
    intro i hi
    refine Classical.byContradiction fun hne=>hn ⟨i,by rw[hl];exact hi,?_⟩
    simpa using hne
  rw[e]
  cases decide (xs=ys)<;>rfl
 ·rw[decide_eq_false (by omega:¬(xs.length:Int)=(ys.length:Int)),decide_eq_false (fun e=>hl (by rw[e]))]
  rfl
theorem bn {α:Type} {b:Bool} {x y:α}:cond b (some x) (some y)=some (cond b x y):=by cases b<;>rfl
theorem gT {α:Type} {b:Bool} {x y:α}:cond (!b) x y=cond b y x:=by cases b<;>rfl
theorem beq_iff:∀{t:Ty} (_:t.flat=true) (x y:t.D),Ty.beq t x y=true ↔ x=y
 | .int _,_,x,y=>by simp only[Ty.beq,decide_eq_true_eq]
 | .bool,_,x,y=>by simp only[Ty.beq,beq_iff_eq]
 | .str,_,x,y=>by simp only[Ty.beq,decide_eq_true_eq]
 | .unit,_,x,y=>by simp only[Ty.beq]
 | .sl _,h,_,_=>by cases h
 | .pair a b,h,x,y=>by
  simp only[Ty.flat,Bool.and_eq_true] at h
  simp only[Ty.beq,Bool.and_eq_true,beq_iff h.1,beq_iff h.2]
  constructor
  ·rintro ⟨h1,h2⟩
   exact Prod.ext h1 h2
  ·rintro rfl
   exact⟨rfl,rfl⟩
theorem ED {t:Ty} (h:t.flat=true) [DecidableEq t.D] (x y:t.D):Ty.beq t x y=decide (x=y):=by
 cases hb:Ty.beq t x y with
 | true=>exact(decide_eq_true ((beq_iff h x y).1 hb)).symm
 | false=>exact(decide_eq_false (fun e=>by rw[(beq_iff h x y).2 e] at hb;cases hb)).symm
theorem lY (n:Nat) (h:n<=1048576):wrap64 ((n:Int)-1)=(n:Int)-1:=aQ (by omega) (by omega)
theorem Gy {α ρ τ:Type} {f:α->Unit->Option (Sum Unit ρ)} (p:α->Bool) (r:ρ) {xs:List α} (h:∀x∈xs,f x ()=some (cond (p x) (.inr r) (.inl ()))) {A:Unit->Option τ} {B:ρ->Option τ} :
  bF (aZ f xs ()) A B=cond (xs.any p) (B r) (A ()):=by
 rw[zq p r h]
 cases xs.any p<;>rfl
theorem fO {α ρ τ:Type} {f:α->Unit->Option (Sum Unit ρ)} (p:α->Bool) (r:ρ) {xs:List α} (h:∀x∈xs,f x ()=some (cond (p x) (.inl ()) (.inr r))) {A:Unit->Option τ} {B:ρ->Option τ} :
  bF (aZ f xs ()) A B=cond (xs.all p) (A ()) (B r):=by
 rw[CK p r h]
 cases xs.all p<;>rfl
theorem Ar {τ:Type} {f:Int->Unit->Option (Sum Unit Int)} (p:Int->Bool) {xs:List Int} (h:∀x∈xs,f x ()=some (cond (p x) (.inr x) (.inl ()))) {A:Unit->Option τ} {B:Int->Option τ} :
  bF (aZ f xs ()) A B=match xs.find? p with | some r=>B r | none=>A ():=by
 induction xs with
 | nil=>rfl
 | cons x xs ih=>
  rw[dQ,h x (List.mem_cons_self ..),List.find?_cons]
  cases p x with
  | true=>rfl
  | false=>exact ih (fun y hy=>h y (List.mem_cons_of_mem _ hy))
theorem fu {a b:Bool}:cond (a==true) (some b) (some false)=some (a&&b):=by cases a<;>rfl
theorem CH {a b:Bool}:cond a (some b) (some false)=some (a&&b):=by cases a<;>rfl
theorem BA {s:ByteArray} {i:Int} (h0:0<=i) (h1:i<(s.size:Int)):((s.get! i.toNat).toNat:Int)=nth (t:=.int .u8) (bL s) i:=by
 have hl:=kW s
 have hlt:i.toNat<(bL s).length:=by omega
 have hd:i.toNat<s.data.size:=by
  have:i.toNat<s.size:=by omega
  exact this
 unfold nth
 rw[List.getD_eq_getElem?_getD,List.getElem?_eq_getElem hlt]
 simp only[bL,List.getElem_map,Option.getD_some]
 have:s.get! i.toNat=s.data[i.toNat]:=by
  cases s with
  | mk d=>exact getElem!_pos d i.toNat hd
 rw[this]
 simp
theorem EV {t:Ty} (xs:List t.D) (p:t.D->Bool):(aP 0 (xs.length:Int)).all (fun i=>p (nth xs i))=xs.all p:=by
 conv=>rhs;rw[<-fh xs]
 rw[List.all_map]
 rfl
theorem AD {t:Ty} (xs:List t.D) (p:t.D->Bool):(aP 0 (xs.length:Int)).any (fun i=>p (nth xs i))=xs.any p:=by
 conv=>rhs;rw[<-fh xs]
 rw[List.any_map]
 rfl
theorem FM {s:ByteArray} {n:Int} (h:n∈bL s):0<=n/\n<=255:=by
 simp only[bL,List.mem_map] at h
 obtain⟨b,_,rfl⟩:=h
 have:=b.toNat_lt
 omega
namespace M
theorem take_set {α:Type} {xs ys:List α} {n:Nat} (h:n<xs.length) (hl:ys.length=xs.length) (ht:List.take n ys=List.take n xs):List.take (n+1) (ys.set n xs[n])=List.take (n+1) xs:=by
 have h2:n<ys.length:=by omega
 rw[List.take_add_one,List.take_add_one]
 rw[List.take_set_of_le (Nat.le_refl n),ht,List.getElem?_set_self h2,List.getElem?_eq_getElem h]
theorem eq_eq {α:Type} {x:List α} {f:Int->Unit->Option (Sum Unit Unit)} (hf:∀i,0<=i->i<(x.length:Int)->f i ()=some (.inl ())) :
  cond (!decide ((x.length:Int)=(x.length:Int))) (some false) (bF (aZ f (aP (0:Int) (x.length:Int)) ()) (fun _:Unit=>some true) (fun _:Unit=>some false))=some true:=by
 rw[decide_eq_true rfl,fO (fun _=>true) () (fun i hi=>by
  obtain⟨h0,h1⟩:=cj.1 hi
  exact hf i h0 h1)]
 have:(aP (0:Int) (x.length:Int)).all (fun _=>true)=true:=by simp
 rw[this]
 rfl
theorem wk {α:Type} {x:Option α}:af True x=x:=aq trivial
end M
end Go.AE
end
section
namespace Go.AE
open Go Go.RowKit
set_option linter.unusedVariables false
namespace M
theorem Hi {t:Ty} {a:List t.D} {i:Int} {z:t.D} (h0:0<=i) (h1:i<(a.length:Int)):nth (t:=t) (a.set i.toNat z) i=z:=by
 have:i.toNat<a.length:=by omega
 unfold nth
 rw[List.getD_eq_getElem?_getD,List.getElem?_set_self this]
 rfl
end M
end Go.AE
end
