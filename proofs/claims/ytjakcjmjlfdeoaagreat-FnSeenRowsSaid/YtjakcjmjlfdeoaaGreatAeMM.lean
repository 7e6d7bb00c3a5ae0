/- What the functions compute, in plain Lean. -/
import Derived.Test.YtjakcjmjlfdeoaaGreatAeX
section
namespace Go.AE
open Go Go.RowKit
abbrev aE:Ty:=.int .i64
abbrev aa:Ty:=.pair (.int .i64) (.pair (.int .i64) (.pair .str .unit))
abbrev ag:Ty:=.pair (.int .i64) (.pair .bool .unit)
abbrev aq:Ty:=.pair (.sl ag) (.pair (.sl (.sl aa)) .unit)
abbrev aC:Ty:=.pair (.int .i64) (.pair (.int .i64) (.pair aa .unit))
abbrev JS:Ty:=.pair (.int .i64) (.pair (.int .i64) (.pair (.sl (.int .i64)) (.pair (.int .i64) (.pair (.sl (.int .i64)) (.pair .bool (.pair (.sl aC) .unit))))))
abbrev ah:Ty:=.pair (.int .i64) (.pair (.int .i64) (.pair (.int .i64) (.pair (.int .i64) (.pair (.sl aC) (.pair (.sl (.int .i64)) .unit)))))
abbrev aB:Ty:=.pair (.int .i64) (.pair (.sl aC) .unit)
abbrev LTb:Type:=List aq.D
abbrev LV:Type:=List aa.D
abbrev LS:Type:=List ah.D
abbrev LPt:Type:=List aC.D
abbrev LC:Type:=List ag.D
abbrev LG:Type:=List aB.D
abbrev LLV:Type:=List (List aa.D)
abbrev LLC:Type:=List (List ag.D)
abbrev TTb:Ty:=.sl aq
abbrev TSS:Ty:=.sl ah
abbrev TCS:Ty:=.sl ag
abbrev TVS:Ty:=.sl aa
abbrev TPS:Ty:=.sl aC
abbrev TGS:Ty:=.sl aB
namespace M
def inR (n a b:Int):Bool:=decide (a<=n)&&decide (n<=b)
theorem eC {n N:Int} (h:inR n 0 N=true):0<=n:=by unfold inR at h;simp at h;exact h.1
theorem ng {n N:Int} (h:inR n 0 N=true):n<=N:=by unfold inR at h;simp at h;exact h.2
def lower (l:List Int):Bool:=l.all fun n=>inR n 97 122
def text (s:ByteArray):Bool:=decide (s.size<=6)&&lower (bY s)
abbrev none_:ByteArray:=⟨#[]⟩
def aM (v:aa.D):Bool:=cond (decide (v.1=(0:Int))) (decide (v.2.1=(0:Int))&&decide (v.2.2.1=none_))
 (cond (decide (v.1=(1:Int))) (inR v.2.1 (-9999) 9999&&decide (v.2.2.1=none_))
 (cond (decide (v.1=(2:Int))) (decide (v.2.1=(0:Int))&&text v.2.2.1)
 (cond (decide (v.1=(3:Int))) (inR v.2.1 0 1&&decide (v.2.2.1=none_)) false)))
def ep (c:ag.D):Bool:=inR c.1 1 3
def bJ (x:List ag.D):Bool:=decide (x.length<=4)&&x.all ep
def taken (row:List aa.D) (l:List Int):List aa.D:=l.map fun i=>nth (t:=aa) row i
def oP (row:List aa.D):Bool:=decide (row.length<=4)&&row.all aM
def idx {t:Ty} (p:t.D->Bool) (xs:List t.D):Int:=match xs.findIdx? p with
 | some k=>(k:Int)
 | none=>-1
def sY (row:List aa.D) (l:List Int):Prop:=∀i∈l,0<=i/\i<(row.length:Int)
theorem HB {B:Nat} {row:List aa.D} {l:List Int} (h:SmB B (.sl aa) row) (hl:SmB B (.sl (.int .i64)) l):SmB B (.sl aa) (taken row l):=by
 refine⟨by unfold taken;rw[List.length_map];exact hl.1,fun x hx=>?_⟩
 unfold taken at hx
 obtain⟨i,_,rfl⟩:=List.mem_map.1 hx
 exact aH h i
def sure (n:Int):Int:=cond (decide (n=0)) 0 (cond (decide (n=1)) 2 1)
def fold (a b alone:Int):Int:=cond (inR a 0 2&&inR b 0 2) (cond (decide (a=alone)||decide (b=alone)) alone (cond (decide (a=2)||decide (b=2)) 2 (1-alone))) (-1)
def rQ (a b:Int):Int:=fold a b 0
def zV (a b:Int):Int:=fold a b 1
def qU (a:Int):Int:=cond (decide (a=0)) 1 (cond (decide (a=1)) 0 (cond (decide (a=2)) 2 (-1)))
def bool (b:Bool):Int:=cond b 1 0
abbrev zeroV:aa.D:=((0:Int),(0:Int),none_,())
def valueOf (n:Int):aa.D:=cond (inR n 0 1) ((3:Int),n,none_,()) zeroV
def cv (v:aa.D):Int:=cond (aM v) (cond (decide (v.1=(0:Int))) 2 (cond (decide (v.1=(3:Int))) v.2.1 (-1))) (-1)
def less (a b:Int):Int:=cond (decide (a<b)) 1 0
def uJ (a b:Int):Int:=cond (decide (a<b)) (-1) (cond (decide (b<a)) 1 0)
def uB (a b:ByteArray):Int:=cond (Op.bytesLess a.toList b.toList) (-1) (cond (!(Op.bytesLess a.toList b.toList||decide (a=b))) 1 0)
def orI:List Int->Int
 | []=>0
 | x::l=>cond (decide (x=0)) (orI l) x
def order (v w:aa.D):Int:=orI [uJ v.1 w.1,uJ v.2.1 w.2.1,uB v.2.2.1 w.2.2.1]
def dZ (a b:aa.D):Int:=cond (aM a&&aM b) (order a b) 0
def zz (kind c:Int):Bool:=cond (decide (kind=1)) (decide (c=0)) (cond (decide (kind=2)) (!decide (c=0)) (cond (decide (kind=3)) (decide (c<0)) (decide (c<=0))))
def compare (kind:Int) (a b:aa.D):Int:=cond (inR kind 1 4&&(aM a&&aM b)) (cond (decide (a.1=(0:Int))||decide (b.1=(0:Int))) 2 (cond (decide (a.1=b.1)) (bool (zz kind (order a b))) (-1))) (-1)
def tw (columns:List ag.D) (row:List aa.D) (k:Int):Bool:=decide ((nth (t:=aa) row k).1=(nth (t:=ag) columns k).1)||(decide ((nth (t:=aa) row k).1=(0:Int))&&(nth (t:=ag) columns k).2.1)
def cF (columns:List ag.D) (row:List aa.D):Bool:=bJ columns&&(oP row&&(decide (row.length=columns.length)&&(aV 0 (row.length:Int)).all (tw columns row)))
def gA (columns:List ag.D) (rows:List (List aa.D)):Bool:=bJ columns&&rows.all (cF columns)
def cZ (t:aq.D):Bool:=decide (t.2.1.length<=6)&&gA t.1 t.2.1
def bT (ts:List aq.D):Bool:=decide (ts.length<=3)&&ts.all cZ
def takes (p:aC.D):Int:=cond (decide (p.1=(3:Int))||decide (p.1=(4:Int))||decide (p.1=(5:Int))||decide (p.1=(6:Int))) 2 (cond (decide (p.1=(7:Int))||decide (p.1=(8:Int))) 1 0)
def noV (p:aC.D):Bool:=Ty.beq aa p.2.2.1 zeroV
def lQ (p:aC.D) (columns:List ag.D):Bool:=
 cond (decide (p.1=(1:Int))) (decide (p.2.1=(0:Int))&&(aM p.2.2.1&&!decide (p.2.2.1.1=(0:Int))))
 (cond (decide (p.1=(2:Int))) (inR p.2.1 0 ((columns.length:Int)-1)&&noV p)
 (cond (decide (p.1=(4:Int))) (inR p.2.1 1 4&&noV p)
 (cond (inR p.1 3 8) (decide (p.2.1=(0:Int))&&noV p) false)))
def cP (p:aC.D) (columns:List ag.D) (l:List Int):Int×Bool:=
 cond (decide (p.1=(1:Int))) (p.2.2.1.1,true)
 (cond (decide (p.1=(2:Int))) ((nth (t:=ag) columns p.2.1).1,true)
 (cond (decide (p.1=(3:Int))) (1,l.all fun k=>decide (k=1))
 (cond (decide (p.1=(4:Int))) (3,decide (nth (t:=.int .i64) l 0=nth (t:=.int .i64) l 1))
 (cond (decide (p.1=(8:Int))) (3,true) (3,l.all fun k=>decide (k=3))))))
def fL (columns:List ag.D) (st:List Int) (p:aC.D):Option (List Int):=
 cond (lQ p columns&&(decide (takes p<=(st.length:Int))&&(cP p columns (st.drop (st.length-(takes p).toNat))).2)) (some (st.take (st.length-(takes p).toNat)++[(cP p columns (st.drop (st.length-(takes p).toNat))).1])) none
def jM (columns:List ag.D):List aC.D->List Int->Option (List Int)
 | [],st=>some st
 | p::e,st=>match fL columns st p with
  | some st'=>jM columns e st'
  | none=>none
def oneOf:Option (List Int)->Int
 | some [k]=>k
 | _=>-1
def bZ (columns:List ag.D) (e:List aC.D):Int:=cond (bJ columns&&decide (e.length<=12)) (oneOf (jM columns e [])) (-1)
def sum (a b:aa.D):aa.D:=cond (decide (a.1=(0:Int))||decide (b.1=(0:Int))||!inR (wrap64 (a.2.1+b.2.1)) (-9999) 9999) zeroV ((1:Int),wrap64 (a.2.1+b.2.1),none_,())
def iB (p:aC.D) (row:List aa.D) (l:List aa.D):aa.D:=
 cond (decide (p.1=(1:Int))) p.2.2.1
 (cond (decide (p.1=(2:Int))) (nth (t:=aa) row p.2.1)
 (cond (decide (p.1=(3:Int))) (sum (nth (t:=aa) l 0) (nth (t:=aa) l 1))
 (cond (decide (p.1=(4:Int))) (valueOf (compare p.2.1 (nth (t:=aa) l 0) (nth (t:=aa) l 1)))
 (cond (decide (p.1=(5:Int))) (valueOf (rQ (cv (nth (t:=aa) l 0)) (cv (nth (t:=aa) l 1))))
 (cond (decide (p.1=(6:Int))) (valueOf (zV (cv (nth (t:=aa) l 0)) (cv (nth (t:=aa) l 1))))
 (cond (decide (p.1=(7:Int))) (valueOf (qU (cv (nth (t:=aa) l 0))))
 (valueOf (bool (decide ((nth (t:=aa) l 0).1=(0:Int)))))))))))
def fm (row:List aa.D) (st:List aa.D) (p:aC.D):List aa.D:=st.take (st.length-(takes p).toNat)++[iB p row (st.drop (st.length-(takes p).toNat))]
def fF (row:List aa.D) (e:List aC.D):aa.D:=nth (t:=aa) (e.foldl (fm row) []) 0
def nr (p:aC.D) (w:Nat):Prop:=p.1=(2:Int)->0<=p.2.1/\p.2.1<(w:Int)
def za (w:Nat):List aC.D->Nat->Prop
 | [],d=>0<d
 | p::e,d=>takes p<=(d:Int)/\(1<=p.1/\p.1<=8)/\nr p w/\za w e (d-(takes p).toNat+1)
def bX (w:Nat) (e:List aC.D):Prop:=e.length<=12/\za w e 0
end M
theorem eC {n N:Int} (h:M.inR n 0 N=true):0<=n:=M.eC h
theorem jT {n:Int} {N:Nat} (h:M.inR n 0 (wrap64 ((N:Int)-1))=true):n<(N:Int):=by
 have h1:=M.eC h
 have h2:=M.ng h
 have:wrap64 ((N:Int)-1)<=(N:Int)-1:=by unfold wrap64;omega
 omega
end Go.AE
end
section
namespace Go.AE
open Go Go.RowKit
@[simp] theorem aW {α β:Type} (x:α) (f:α->β):aK x f=f x:=rfl
@[simp] theorem Jy {σ ε:Type} (s:σ) (g:σ->ε):IZ (some (.inl s)) g=some (g s):=rfl
@[simp] theorem Jx {σ ε:Type} (e:ε) (g:σ->ε):IZ (some (.inr e)) g=some e:=rfl
@[simp] theorem Jw {σ ε ρ:Type} (s:σ) (g:σ->ε):Jc (ρ:=ρ) (some (.inl s)) g=some (.inl (g s)):=rfl
@[simp] theorem JA {σ ε ρ:Type} (r:Sum ε ρ) (g:σ->ε):Jc (some (.inr r)) g=some r:=rfl
@[simp] theorem Jz {α σ ρ:Type} (f:α->σ->Option (Sum σ ρ)) (s:σ):aP f [] s=some (.inl s):=rfl
theorem bQ {α σ ρ:Type} (f:α->σ->Option (Sum σ ρ)) (x:α) (xs:List α) (s:σ):aP f (x::xs) s=bz (f x s) (fun s'=>aP f xs s') (fun r=>some (.inr r)):=rfl
theorem fz {a n i:Int}:i∈aV a n ↔ a<=i/\i<n:=by
 unfold aV
 simp only[List.mem_map,List.mem_range]
 constructor
 ·rintro ⟨k,hk,rfl⟩
  omega
 ·rintro ⟨h1,h2⟩
  exact⟨(i-a).toNat,by omega,by omega⟩
theorem Ej {α ρ:Type} {f:α->Unit->Option (Sum Unit ρ)} (p:α->Bool) (r:ρ):∀{xs:List α} (_:∀x∈xs,f x ()=some (cond (p x) (.inr r) (.inl ()))),
  aP f xs ()=some (cond (xs.any p) (.inr r) (.inl ()))
 | [],_=>rfl
 | x::xs,h=>by
  rw[bQ,h x (List.mem_cons_self ..),List.any_cons]
  cases hp:p x with
  | true=>rfl
  | false=>exact Ej p r (fun y hy=>h y (List.mem_cons_of_mem _ hy))
theorem Er {α ρ:Type} {f:α->Unit->Option (Sum Unit ρ)} (p:α->Bool) (r:ρ) {xs:List α} (h:∀x∈xs,f x ()=some (cond (p x) (.inl ()) (.inr r))) :
  aP f xs ()=some (cond (xs.all p) (.inl ()) (.inr r)):=by
 rw[Ej (fun x=>!p x) r (fun x hx=>by rw[h x hx];cases p x<;>rfl)]
 rw[List.all_eq_not_any_not]
 cases xs.any fun x=>!p x<;>rfl
theorem wG {α σ ρ:Type} {f:α->σ->Option (Sum σ ρ)} (g:σ->α->σ) (I:σ->Prop):∀{xs:List α} {s:σ} (_:I s) (_:∀x∈xs,∀s,I s->f x s=some (.inl (g s x))/\I (g s x)),
  aP f xs s=some (.inl (xs.foldl g s))/\I (xs.foldl g s)
 | [],s,h0,_=>⟨rfl,h0⟩
 | x::xs,s,h0,h=>by
  obtain⟨h1,h2⟩:=h x (List.mem_cons_self ..) s h0
  rw[bQ,h1]
  exact wG g I h2 (fun y hy=>h y (List.mem_cons_of_mem _ hy))
theorem foldl_append {α β:Type} (g:α->β):∀(xs:List α) (s:List β),xs.foldl (fun s x=>s++[g x]) s=s++xs.map g
 | [],s=>by simp
 | x::xs,s=>by rw[List.foldl_cons,foldl_append g xs];simp
theorem oM {α β ρ:Type} {f:α->List β->Option (Sum (List β) ρ)} (g:α->β) {xs:List α} (h:∀x∈xs,∀s:List β,s.length<xs.length->f x s=some (.inl (s++[g x]))) :
  aP f xs []=some (.inl (xs.map g)):=by
 have key:∀(ys zs:List α) (s:List β),xs=zs++ys->s.length=zs.length->aP f ys s=some (.inl (s++ys.map g)):=by
  intro ys
  induction ys with
  | nil=>intro zs s _ _;simp
  | cons y ys ih=>
   intro zs s e hs
   rw[bQ,h y (by rw[e];simp) s (by rw[e,hs];simp)]
   rw[bp,ih (zs++[y]) (s++[g y]) (by rw[e];simp) (by simp[hs])]
   simp
 have:=key xs [] [] rfl rfl
 simpa using this
theorem oI {t:Ty} {xs:List t.D} {i:Int} (h0:0<=i) (h1:i<(xs.length:Int)):nth xs i=xs[i.toNat]'(by omega):=by
 unfold nth
 rw[List.getD_eq_getElem?_getD,List.getElem?_eq_getElem (by omega)]
 rfl
theorem An {t:Ty} (x:t.D) (xs:List t.D):nth (t:=t) (x::xs) 0=x:=rfl
theorem AL {t:Ty} (x:t.D) (xs:List t.D) {i:Int} (h:0<=i):nth (t:=t) (x::xs) (i+1)=nth (t:=t) xs i:=by
 have e:(i+1).toNat=i.toNat+1:=by omega
 unfold nth
 rw[e,List.getD_cons_succ]
theorem Ek (n:Nat):aV 0 ((n:Int)+1)=0::(aV 0 n).map (fun i=>i+1):=by
 rw[gZ (by omega)]
 congr 1
 unfold aV
 have e1:((n:Int)+1-(0+1)).toNat=n:=by omega
 have e2:((n:Int)-0).toNat=n:=by omega
 rw[e1,e2,List.map_map]
 apply List.map_congr_left
 intro k _
 simp
 omega
theorem kJ {t:Ty}:∀(xs:List t.D),(aV 0 (xs.length:Int)).map (fun i=>nth xs i)=xs
 | []=>by rw[ga (by simp)];rfl
 | x::xs=>by
  have e:((x::xs).length:Int)=(xs.length:Int)+1:=by simp
  rw[e,Ek,List.map_cons,List.map_map,An]
  congr 1
  refine(List.map_congr_left (g:=fun i=>nth xs i) ?_).trans (kJ xs)
  intro i hi
  exact AL x xs (fz.1 hi).1
theorem EO {t:Ty} {p:t.D->Bool} {xs:List t.D}:decide ((0:Int)<=M.idx (t:=t) p xs)=xs.any p:=by
 unfold M.idx
 split
 ·rename_i k h
  obtain⟨h1,h2,_⟩:=List.findIdx?_eq_some_iff_getElem.1 h
  rw[decide_eq_true (by omega)]
  exact(List.any_eq_true.2 ⟨_,List.getElem_mem h1,h2⟩).symm
 ·rename_i h
  rw[decide_eq_false (by omega)]
  rw[List.findIdx?_eq_none_iff] at h
  symm
  rw[List.any_eq_false]
  intro x hx
  simp[h x hx]
theorem qO {t:Ty} (p:t.D->Bool):∀(xs:List t.D) (a:Int) (f:Int->Unit->Option (Sum Unit Int)) (_:∀i,0<=i->i<(xs.length:Int)->f (a+i) ()=some (cond (p (nth xs i)) (.inr (a+i)) (.inl ()))),
  aP f (aV a (a+(xs.length:Int))) ()=some (match xs.findIdx? p with | some k=>.inr (a+(k:Int)) | none=>.inl ())
 | [],a,f,_=>by rw[ga (by simp)];rfl
 | x::xs,a,f,h=>by
  have e:((x::xs).length:Int)=(xs.length:Int)+1:=by simp
  have h0:=h 0 (Int.le_refl _) (by rw[e];omega)
  rw[Int.add_zero,An] at h0
  rw[gZ (by rw[e];omega),bQ,h0,List.findIdx?_cons]
  cases hp:p x with
  | true=>simp
  | false=>
   simp only[cond_false,bp]
   have ih:=qO p xs (a+1) f (fun i i0 i1=>by
    have:=h (i+1) (by omega) (by rw[e];omega)
    rw[AL x xs i0] at this
    rw[show a+1+i=a+(i+1) by omega]
    exact this)
   rw[show a+((x::xs).length:Int)=a+1+(xs.length:Int) by rw[e];omega,ih]
   cases List.findIdx? p xs with
   | none=>rfl
   | some k=>simp;omega
theorem iF {t:Ty} {p:t.D->Bool} {xs:List t.D} {f:Int->Unit->Option (Sum Unit Int)} (h:∀i,0<=i->i<(xs.length:Int)->f i ()=some (cond (p (nth xs i)) (.inr i) (.inl ()))) :
  bz (aP f (aV 0 (xs.length:Int)) ()) (fun _:Unit=>some (-1:Int)) (fun q:Int=>some q)=some (M.idx p xs):=by
 have:=qO p xs 0 f (fun i h0 h1=>by rw[Int.zero_add];exact h i h0 h1)
 rw[Int.zero_add] at this
 rw[this]
 unfold M.idx
 cases List.findIdx? p xs with
 | none=>rfl
 | some k=>simp
theorem gp {t:Ty} {p:t.D->Bool} {xs:List t.D}:some (decide ((0:Int)<=M.idx (t:=t) p xs))=some (xs.any p):=by rw[EO]
theorem Dk {t:Ty} [DecidableEq t.D] {xs ys:List t.D} {f:Int->Unit->Option (Sum Unit Unit)} (h:∀i,0<=i->i<(xs.length:Int)->i<(ys.length:Int)->f i ()=some (cond (decide (nth xs i=nth ys i)) (.inl ()) (.inr ()))) :
  cond (!decide ((xs.length:Int)=(ys.length:Int))) (some false) (bz (aP f (aV 0 (xs.length:Int)) ()) (fun _:Unit=>some true) (fun _:Unit=>some false))=some (decide (xs=ys)):=by
 by_cases hl:xs.length=ys.length
 ·rw[decide_eq_true (by omega:(xs.length:Int)=(ys.length:Int))]
  simp only[Bool.not_true,cond_false]
  rw[Er (fun i=>decide (nth xs i=nth ys i)) () (fun i hi=>by
   obtain⟨h0,h1⟩:=fz.1 hi
   exact h i h0 h1 (by omega))]
  have e:(aV 0 (xs.length:Int)).all (fun i=>decide (nth xs i=nth ys i))=decide (xs=ys):=by
   by_cases he:xs=ys
   ·rw[decide_eq_true he,List.all_eq_true]
    intro i _
    rw[he]
    simp
   ·rw[decide_eq_false he,List.all_eq_false]
    refine Classical.byContradiction fun hn=>he ?_
    rw[<-kJ xs,<-kJ ys,hl]
    apply List.map_congr_left
    intro i hi
    refine Classical.byContradiction fun hne=>hn ⟨i,by rw[hl];exact hi,?_⟩
    simpa using hne
  rw[e]
  cases decide (xs=ys)<;>rfl
 ·rw[decide_eq_false (by omega:¬(xs.length:Int)=(ys.length:Int)),decide_eq_false (fun e=>hl (by rw[e]))]
  rfl
theorem cr {α:Type} {b:Bool} {x y:α}:cond b (some x) (some y)=some (cond b x y):=by cases b<;>rfl
theorem mm {α:Type} {b:Bool} {x y:α}:cond (!b) x y=cond b y x:=by cases b<;>rfl
theorem beq_iff:∀{t:Ty} (_:t.flat=true) (x y:t.D),Ty.beq t x y=true ↔ x=y
 | .int _,_,x,y=>by simp only[Ty.beq,decide_eq_true_eq]
 | .bool,_,x,y=>by simp only[Ty.beq,beq_iff_eq]
 | .str,_,x,y=>by simp only[Ty.beq,decide_eq_true_eq]
 | .unit,_,x,y=>by simp only[Ty.beq]
 | .sl _,h,_,_=>by cases h
 | .pair a b,h,x,y=>by
  simp only[Ty.flat,Bool.and_eq_true] at h
  simp only[Ty.beq,Bool.and_eq_true,beq_iff h.1,beq_iff h.2]
  constructor
  ·rintro ⟨h1,h2⟩
   exact Prod.ext h1 h2
  ·rintro rfl
   exact⟨rfl,rfl⟩
theorem FY {t:Ty} (h:t.flat=true) [DecidableEq t.D] (x y:t.D):Ty.beq t x y=decide (x=y):=by
 cases hb:Ty.beq t x y with
 | true=>exact(decide_eq_true ((beq_iff h x y).1 hb)).symm
 | false=>exact(decide_eq_false (fun e=>by rw[(beq_iff h x y).2 e] at hb;cases hb)).symm
theorem fc (n:Nat) (h:n<=1048576):wrap64 ((n:Int)-1)=(n:Int)-1:=aJ (by omega) (by omega)
theorem hY {α ρ τ:Type} {f:α->Unit->Option (Sum Unit ρ)} (p:α->Bool) (r:ρ) {xs:List α} (h:∀x∈xs,f x ()=some (cond (p x) (.inl ()) (.inr r))) {A:Unit->Option τ} {B:ρ->Option τ} :
  bz (aP f xs ()) A B=cond (xs.all p) (A ()) (B r):=by
 rw[Er p r h]
 cases xs.all p<;>rfl
theorem kg {a b:Bool}:cond (a==true) (some b) (some false)=some (a&&b):=by cases a<;>rfl
theorem CP {s:ByteArray} {i:Int} (h0:0<=i) (h1:i<(s.size:Int)):((s.get! i.toNat).toNat:Int)=nth (t:=.int .u8) (bY s) i:=by
 have hl:=lG s
 have hlt:i.toNat<(bY s).length:=by omega
 have hd:i.toNat<s.data.size:=by
  have:i.toNat<s.size:=by omega
  exact this
 unfold nth
 rw[List.getD_eq_getElem?_getD,List.getElem?_eq_getElem hlt]
 simp only[bY,List.getElem_map,Option.getD_some]
 have:s.get! i.toNat=s.data[i.toNat]:=by
  cases s with
  | mk d=>exact getElem!_pos d i.toNat hd
 rw[this]
 simp
theorem Gs {t:Ty} (xs:List t.D) (p:t.D->Bool):(aV 0 (xs.length:Int)).all (fun i=>p (nth xs i))=xs.all p:=by
 conv=>rhs;rw[<-kJ xs]
 rw[List.all_map]
 rfl
theorem HP {s:ByteArray} {n:Int} (h:n∈bY s):0<=n/\n<=255:=by
 simp only[bY,List.mem_map] at h
 obtain⟨b,_,rfl⟩:=h
 have:=b.toNat_lt
 omega
namespace M
theorem eq_eq {α:Type} {x:List α} {f:Int->Unit->Option (Sum Unit Unit)} (hf:∀i,0<=i->i<(x.length:Int)->f i ()=some (.inl ())) :
  cond (!decide ((x.length:Int)=(x.length:Int))) (some false) (bz (aP f (aV (0:Int) (x.length:Int)) ()) (fun _:Unit=>some true) (fun _:Unit=>some false))=some true:=by
 rw[decide_eq_true rfl,hY (fun _=>true) () (fun i hi=>by
  obtain⟨h0,h1⟩:=fz.1 hi
  exact hf i h0 h1)]
 have:(aV (0:Int) (x.length:Int)).all (fun _=>true)=true:=by simp
 rw[this]
 rfl
theorem qY {α:Type} {x:Option α}:af True x=x:=ai trivial
end M
end Go.AE
end
section
namespace Go.AE
open Go Go.RowKit
set_option linter.unusedVariables false
namespace M
theorem Ch {t:Ty} {a:List t.D} {i:Int} {z:t.D} (h0:0<=i) (h1:i<(a.length:Int)):nth (t:=t) (a.set i.toNat z) i=z:=by
 have:i.toNat<a.length:=by omega
 unfold nth
 rw[List.getD_eq_getElem?_getD,List.getElem?_set_self this]
 rfl
end M
end Go.AE
end
