/- What the functions compute, in plain Lean. -/
import Derived.Test.YtiplhefglgpdoaaGreatAeX
section
namespace Go.AE
open Go Go.RowKit
@[reducible] def aD:Ty:=.int .i64
@[reducible] def aa:Ty:=.pair (.int .i64) (.pair (.int .i64) (.pair .str .unit))
@[reducible] def ag:Ty:=.pair (.int .i64) (.pair .bool .unit)
@[reducible] def az:Ty:=.pair (.sl ag) (.pair (.sl (.sl aa)) .unit)
@[reducible] def ax:Ty:=.pair (.int .i64) (.pair (.int .i64) (.pair aa .unit))
@[reducible] def JV:Ty:=.pair (.int .i64) (.pair (.int .i64) (.pair (.sl (.int .i64)) (.pair (.int .i64) (.pair (.sl (.int .i64)) (.pair .bool (.pair (.sl ax) .unit))))))
@[reducible] def ah:Ty:=.pair (.int .i64) (.pair (.int .i64) (.pair (.int .i64) (.pair (.int .i64) (.pair (.sl ax) (.pair (.sl (.int .i64)) .unit)))))
@[reducible] def lF:Ty:=.pair (.int .i64) (.pair (.sl ax) .unit)
abbrev LTb:Type:=List az.D
abbrev LV:Type:=List aa.D
abbrev LS:Type:=List ah.D
abbrev LPt:Type:=List ax.D
abbrev LC:Type:=List ag.D
abbrev LLV:Type:=List (List aa.D)
abbrev LLC:Type:=List (List ag.D)
@[reducible] def TTb:Ty:=.sl az
@[reducible] def TSS:Ty:=.sl ah
@[reducible] def TCS:Ty:=.sl ag
@[reducible] def TVS:Ty:=.sl aa
@[reducible] def TPS:Ty:=.sl ax
@[reducible] def TGS:Ty:=.sl lF
namespace M
def inR (n a b:Int):Bool:=decide (a<=n)&&decide (n<=b)
theorem dP {n N:Int} (h:inR n 0 N=true):0<=n:=by unfold inR at h;simp at h;exact h.1
theorem nc {n N:Int} (h:inR n 0 N=true):n<=N:=by unfold inR at h;simp at h;exact h.2
def lower (l:List Int):Bool:=l.all fun n=>inR n 97 122
def text (s:ByteArray):Bool:=decide (s.size<=6)&&lower (bU s)
@[reducible] def none_:ByteArray:=⟨#[]⟩
def aS (v:aa.D):Bool:=cond (decide (v.1=(0:Int))) (decide (v.2.1=(0:Int))&&decide (v.2.2.1=none_))
 (cond (decide (v.1=(1:Int))) (inR v.2.1 (-9999) 9999&&decide (v.2.2.1=none_))
 (cond (decide (v.1=(2:Int))) (decide (v.2.1=(0:Int))&&text v.2.2.1)
 (cond (decide (v.1=(3:Int))) (inR v.2.1 0 1&&decide (v.2.2.1=none_)) false)))
def eg (c:ag.D):Bool:=inR c.1 1 3
def bA (x:List ag.D):Bool:=decide (x.length<=4)&&x.all eg
def taken (row:List aa.D) (l:List Int):List aa.D:=l.map fun i=>nth (t:=aa) row i
def ow (row:List aa.D):Bool:=decide (row.length<=4)&&row.all aS
def idx {t:Ty} (p:t.D->Bool) (xs:List t.D):Int:=match xs.findIdx? p with
 | some k=>(k:Int)
 | none=>-1
def Bn (row:List aa.D) (l:List Int):Prop:=∀i∈l,0<=i/\i<(row.length:Int)
theorem Hf {B:Nat} {row:List aa.D} {l:List Int} (h:SmB B (.sl aa) row) (hl:SmB B (.sl (.int .i64)) l):SmB B (.sl aa) (taken row l):=by
 refine⟨by unfold taken;rw[List.length_map];exact hl.1,fun x hx=>?_⟩
 unfold taken at hx
 obtain⟨i,_,rfl⟩:=List.mem_map.1 hx
 exact aL h i
def fold (a b alone:Int):Int:=cond (inR a 0 2&&inR b 0 2) (cond (decide (a=alone)||decide (b=alone)) alone (cond (decide (a=2)||decide (b=2)) 2 (1-alone))) (-1)
def sv (a b:Int):Int:=fold a b 0
def Ge (a b:Int):Int:=fold a b 1
def AX (a:Int):Int:=cond (decide (a=0)) 1 (cond (decide (a=1)) 0 (cond (decide (a=2)) 2 (-1)))
def bool (b:Bool):Int:=cond b 1 0
@[reducible] def zeroV:aa.D:=((0:Int),(0:Int),none_,())
def valueOf (n:Int):aa.D:=cond (inR n 0 1) ((3:Int),n,none_,()) zeroV
def de (v:aa.D):Int:=cond (aS v) (cond (decide (v.1=(0:Int))) 2 (cond (decide (v.1=(3:Int))) v.2.1 (-1))) (-1)
def less (a b:Int):Int:=cond (decide (a<b)) 1 0
def wC (a b:Int):Int:=cond (decide (a<b)) (-1) (cond (decide (b<a)) 1 0)
def Dl (a b:ByteArray):Int:=cond (Op.bytesLess a.toList b.toList) (-1) (cond (!(Op.bytesLess a.toList b.toList||decide (a=b))) 1 0)
def orI:List Int->Int
 | []=>0
 | x::l=>cond (decide (x=0)) (orI l) x
def order (v w:aa.D):Int:=orI [wC v.1 w.1,wC v.2.1 w.2.1,Dl v.2.2.1 w.2.2.1]
def CH (kind c:Int):Bool:=cond (decide (kind=1)) (decide (c=0)) (cond (decide (kind=2)) (!decide (c=0)) (cond (decide (kind=3)) (decide (c<0)) (decide (c<=0))))
def compare (kind:Int) (a b:aa.D):Int:=cond (inR kind 1 4&&(aS a&&aS b)) (cond (decide (a.1=(0:Int))||decide (b.1=(0:Int))) 2 (cond (decide (a.1=b.1)) (bool (CH kind (order a b))) (-1))) (-1)
def sZ (columns:List ag.D) (row:List aa.D) (k:Int):Bool:=decide ((nth (t:=aa) row k).1=(nth (t:=ag) columns k).1)||(decide ((nth (t:=aa) row k).1=(0:Int))&&(nth (t:=ag) columns k).2.1)
def cG (columns:List ag.D) (row:List aa.D):Bool:=bA columns&&(ow row&&(decide (row.length=columns.length)&&(aY 0 (row.length:Int)).all (sZ columns row)))
def fO (columns:List ag.D) (rows:List (List aa.D)):Bool:=bA columns&&rows.all (cG columns)
def cQ (t:az.D):Bool:=decide (t.2.1.length<=6)&&fO t.1 t.2.1
def bX (ts:List az.D):Bool:=decide (ts.length<=3)&&ts.all cQ
def takes (p:ax.D):Int:=cond (decide (p.1=(3:Int))||decide (p.1=(4:Int))||decide (p.1=(5:Int))||decide (p.1=(6:Int))) 2 (cond (decide (p.1=(7:Int))||decide (p.1=(8:Int))) 1 0)
def noV (p:ax.D):Bool:=Ty.beq aa p.2.2.1 zeroV
def lH (p:ax.D) (columns:List ag.D):Bool:=
 cond (decide (p.1=(1:Int))) (decide (p.2.1=(0:Int))&&(aS p.2.2.1&&!decide (p.2.2.1.1=(0:Int))))
 (cond (decide (p.1=(2:Int))) (inR p.2.1 0 ((columns.length:Int)-1)&&noV p)
 (cond (decide (p.1=(4:Int))) (inR p.2.1 1 4&&noV p)
 (cond (inR p.1 3 8) (decide (p.2.1=(0:Int))&&noV p) false)))
def cT (p:ax.D) (columns:List ag.D) (l:List Int):Int×Bool:=
 cond (decide (p.1=(1:Int))) (p.2.2.1.1,true)
 (cond (decide (p.1=(2:Int))) ((nth (t:=ag) columns p.2.1).1,true)
 (cond (decide (p.1=(3:Int))) (1,l.all fun k=>decide (k=1))
 (cond (decide (p.1=(4:Int))) (3,decide (nth (t:=.int .i64) l 0=nth (t:=.int .i64) l 1))
 (cond (decide (p.1=(8:Int))) (3,true) (3,l.all fun k=>decide (k=3))))))
def eR (columns:List ag.D) (st:List Int) (p:ax.D):Option (List Int):=
 cond (lH p columns&&(decide (takes p<=(st.length:Int))&&(cT p columns (st.drop (st.length-(takes p).toNat))).2)) (some (st.take (st.length-(takes p).toNat)++[(cT p columns (st.drop (st.length-(takes p).toNat))).1])) none
def ig (columns:List ag.D):List ax.D->List Int->Option (List Int)
 | [],st=>some st
 | p::e,st=>match eR columns st p with
  | some st'=>ig columns e st'
  | none=>none
def oneOf:Option (List Int)->Int
 | some [k]=>k
 | _=>-1
def bu (columns:List ag.D) (e:List ax.D):Int:=cond (bA columns&&decide (e.length<=12)) (oneOf (ig columns e [])) (-1)
def sum (a b:aa.D):aa.D:=cond (decide (a.1=(0:Int))||decide (b.1=(0:Int))||!inR (wrap64 (a.2.1+b.2.1)) (-9999) 9999) zeroV ((1:Int),wrap64 (a.2.1+b.2.1),none_,())
def eN (p:ax.D) (row:List aa.D) (l:List aa.D):aa.D:=
 cond (decide (p.1=(1:Int))) p.2.2.1
 (cond (decide (p.1=(2:Int))) (nth (t:=aa) row p.2.1)
 (cond (decide (p.1=(3:Int))) (sum (nth (t:=aa) l 0) (nth (t:=aa) l 1))
 (cond (decide (p.1=(4:Int))) (valueOf (compare p.2.1 (nth (t:=aa) l 0) (nth (t:=aa) l 1)))
 (cond (decide (p.1=(5:Int))) (valueOf (sv (de (nth (t:=aa) l 0)) (de (nth (t:=aa) l 1))))
 (cond (decide (p.1=(6:Int))) (valueOf (Ge (de (nth (t:=aa) l 0)) (de (nth (t:=aa) l 1))))
 (cond (decide (p.1=(7:Int))) (valueOf (AX (de (nth (t:=aa) l 0))))
 (valueOf (bool (decide ((nth (t:=aa) l 0).1=(0:Int)))))))))))
def cD (row:List aa.D) (st:List aa.D) (p:ax.D):List aa.D:=st.take (st.length-(takes p).toNat)++[eN p row (st.drop (st.length-(takes p).toNat))]
def dD (row:List aa.D) (e:List ax.D):aa.D:=nth (t:=aa) (e.foldl (cD row) []) 0
def xj (p:ax.D) (w:Nat):Prop:=p.1=(2:Int)->0<=p.2.1/\p.2.1<(w:Int)
def rK (w:Nat):List ax.D->Nat->Prop
 | [],d=>0<d
 | p::e,d=>takes p<=(d:Int)/\(1<=p.1/\p.1<=8)/\xj p w/\rK w e (d-(takes p).toNat+1)
def fR (w:Nat) (e:List ax.D):Prop:=e.length<=12/\rK w e 0
end M
theorem dP {n N:Int} (h:M.inR n 0 N=true):0<=n:=M.dP h
theorem iz {n:Int} {N:Nat} (h:M.inR n 0 (wrap64 ((N:Int)-1))=true):n<(N:Int):=by
 have h1:=M.dP h
 have h2:=M.nc h
 have:wrap64 ((N:Int)-1)<=(N:Int)-1:=by unfold wrap64;omega
 omega
end Go.AE
end
section
namespace Go.AE
open Go Go.RowKit
@[simp] theorem bz {α β:Type} (x:α) (f:α->β):aJ x f=f x:=rfl
@[simp] theorem JD {σ ε:Type} (s:σ) (g:σ->ε):Jb (some (.inl s)) g=some (g s):=rfl
@[simp] theorem JC {σ ε:Type} (e:ε) (g:σ->ε):Jb (some (.inr e)) g=some e:=rfl
@[simp] theorem JA {σ ε ρ:Type} (s:σ) (g:σ->ε):Je (ρ:=ρ) (some (.inl s)) g=some (.inl (g s)):=rfl
@[simp] theorem JE {σ ε ρ:Type} (r:Sum ε ρ) (g:σ->ε):Je (some (.inr r)) g=some r:=rfl
@[simp] theorem JB {α σ ρ:Type} (f:α->σ->Option (Sum σ ρ)) (s:σ):aO f [] s=some (.inl s):=rfl
theorem bO {α σ ρ:Type} (f:α->σ->Option (Sum σ ρ)) (x:α) (xs:List α) (s:σ):aO f (x::xs) s=bq (f x s) (fun s'=>aO f xs s') (fun r=>some (.inr r)):=rfl
theorem jQ {a n i:Int}:i∈aY a n ↔ a<=i/\i<n:=by
 unfold aY
 simp only[List.mem_map,List.mem_range]
 constructor
 ·rintro ⟨k,hk,rfl⟩
  omega
 ·rintro ⟨h1,h2⟩
  exact⟨(i-a).toNat,by omega,by omega⟩
theorem yS {α ρ:Type} {f:α->Unit->Option (Sum Unit ρ)} (p:α->Bool) (r:ρ):∀{xs:List α} (_:∀x∈xs,f x ()=some (cond (p x) (.inr r) (.inl ()))),
  aO f xs ()=some (cond (xs.any p) (.inr r) (.inl ()))
 | [],_=>rfl
 | x::xs,h=>by
  rw[bO,h x (List.mem_cons_self ..),List.any_cons]
  cases hp:p x with
  | true=>rfl
  | false=>exact yS p r (fun y hy=>h y (List.mem_cons_of_mem _ hy))
theorem CV {α ρ:Type} {f:α->Unit->Option (Sum Unit ρ)} (p:α->Bool) (r:ρ) {xs:List α} (h:∀x∈xs,f x ()=some (cond (p x) (.inl ()) (.inr r))) :
  aO f xs ()=some (cond (xs.all p) (.inl ()) (.inr r)):=by
 rw[yS (fun x=>!p x) r (fun x hx=>by rw[h x hx];cases p x<;>rfl)]
 rw[List.all_eq_not_any_not]
 cases xs.any fun x=>!p x<;>rfl
theorem AO {α σ ρ:Type} {f:α->σ->Option (Sum σ ρ)} (g:σ->α->σ) (I:σ->Prop):∀{xs:List α} {s:σ} (_:I s) (_:∀x∈xs,∀s,I s->f x s=some (.inl (g s x))/\I (g s x)),
  aO f xs s=some (.inl (xs.foldl g s))/\I (xs.foldl g s)
 | [],s,h0,_=>⟨rfl,h0⟩
 | x::xs,s,h0,h=>by
  obtain⟨h1,h2⟩:=h x (List.mem_cons_self ..) s h0
  rw[bO,h1]
  exact AO g I h2 (fun y hy=>h y (List.mem_cons_of_mem _ hy))
theorem foldl_append {α β:Type} (g:α->β):∀(xs:List α) (s:List β),xs.foldl (fun s x=>s++[g x]) s=s++xs.map g
 | [],s=>by simp
 | x::xs,s=>by rw[List.foldl_cons,foldl_append g xs];simp
theorem uZ {α β ρ:Type} {f:α->List β->Option (Sum (List β) ρ)} (g:α->β) {xs:List α} (h:∀x∈xs,∀s:List β,s.length<xs.length->f x s=some (.inl (s++[g x]))) :
  aO f xs []=some (.inl (xs.map g)):=by
 have key:∀(ys zs:List α) (s:List β),xs=zs++ys->s.length=zs.length->aO f ys s=some (.inl (s++ys.map g)):=by
  intro ys
  induction ys with
  | nil=>intro zs s _ _;simp
  | cons y ys ih=>
   intro zs s e hs
   rw[bO,h y (by rw[e];simp) s (by rw[e,hs];simp)]
   rw[aX,ih (zs++[y]) (s++[g y]) (by rw[e];simp) (by simp[hs])]
   simp
 have:=key xs [] [] rfl rfl
 simpa using this
theorem lq {t:Ty} {xs:List t.D} {i:Int} (h0:0<=i) (h1:i<(xs.length:Int)):nth xs i=xs[i.toNat]'(by omega):=by
 unfold nth
 rw[List.getD_eq_getElem?_getD,List.getElem?_eq_getElem (by omega)]
 rfl
theorem uy {t:Ty} (x:t.D) (xs:List t.D):nth (t:=t) (x::xs) 0=x:=rfl
theorem uW {t:Ty} (x:t.D) (xs:List t.D) {i:Int} (h:0<=i):nth (t:=t) (x::xs) (i+1)=nth (t:=t) xs i:=by
 have e:(i+1).toNat=i.toNat+1:=by omega
 unfold nth
 rw[e,List.getD_cons_succ]
theorem DB (n:Nat):aY 0 ((n:Int)+1)=0::(aY 0 n).map (fun i=>i+1):=by
 rw[eU (by omega)]
 congr 1
 unfold aY
 have e1:((n:Int)+1-(0+1)).toNat=n:=by omega
 have e2:((n:Int)-0).toNat=n:=by omega
 rw[e1,e2,List.map_map]
 apply List.map_congr_left
 intro k _
 simp
 omega
theorem kg {t:Ty}:∀(xs:List t.D),(aY 0 (xs.length:Int)).map (fun i=>nth xs i)=xs
 | []=>by rw[fM (by simp)];rfl
 | x::xs=>by
  have e:((x::xs).length:Int)=(xs.length:Int)+1:=by simp
  rw[e,DB,List.map_cons,List.map_map,uy]
  congr 1
  refine(List.map_congr_left (g:=fun i=>nth xs i) ?_).trans (kg xs)
  intro i hi
  exact uW x xs (jQ.1 hi).1
theorem Eu {t:Ty} {p:t.D->Bool} {xs:List t.D}:decide ((0:Int)<=M.idx (t:=t) p xs)=xs.any p:=by
 unfold M.idx
 split
 ·rename_i k h
  obtain⟨h1,h2,_⟩:=List.findIdx?_eq_some_iff_getElem.1 h
  rw[decide_eq_true (by omega)]
  exact(List.any_eq_true.2 ⟨_,List.getElem_mem h1,h2⟩).symm
 ·rename_i h
  rw[decide_eq_false (by omega)]
  rw[List.findIdx?_eq_none_iff] at h
  symm
  rw[List.any_eq_false]
  intro x hx
  simp[h x hx]
theorem zp {t:Ty} (p:t.D->Bool):∀(xs:List t.D) (a:Int) (f:Int->Unit->Option (Sum Unit Int)) (_:∀i,0<=i->i<(xs.length:Int)->f (a+i) ()=some (cond (p (nth xs i)) (.inr (a+i)) (.inl ()))),
  aO f (aY a (a+(xs.length:Int))) ()=some (match xs.findIdx? p with | some k=>.inr (a+(k:Int)) | none=>.inl ())
 | [],a,f,_=>by rw[fM (by simp)];rfl
 | x::xs,a,f,h=>by
  have e:((x::xs).length:Int)=(xs.length:Int)+1:=by simp
  have h0:=h 0 (Int.le_refl _) (by rw[e];omega)
  rw[Int.add_zero,uy] at h0
  rw[eU (by rw[e];omega),bO,h0,List.findIdx?_cons]
  cases hp:p x with
  | true=>simp
  | false=>
   simp only[cond_false,aX]
   have ih:=zp p xs (a+1) f (fun i i0 i1=>by
    have:=h (i+1) (by omega) (by rw[e];omega)
    rw[uW x xs i0] at this
    rw[show a+1+i=a+(i+1) by omega]
    exact this)
   rw[show a+((x::xs).length:Int)=a+1+(xs.length:Int) by rw[e];omega,ih]
   cases List.findIdx? p xs with
   | none=>rfl
   | some k=>simp;omega
theorem jx {t:Ty} {p:t.D->Bool} {xs:List t.D} {f:Int->Unit->Option (Sum Unit Int)} (h:∀i,0<=i->i<(xs.length:Int)->f i ()=some (cond (p (nth xs i)) (.inr i) (.inl ()))) :
  bq (aO f (aY 0 (xs.length:Int)) ()) (fun _:Unit=>some (-1:Int)) (fun q:Int=>some q)=some (M.idx p xs):=by
 have:=zp p xs 0 f (fun i h0 h1=>by rw[Int.zero_add];exact h i h0 h1)
 rw[Int.zero_add] at this
 rw[this]
 unfold M.idx
 cases List.findIdx? p xs with
 | none=>rfl
 | some k=>simp
theorem fU {t:Ty} {p:t.D->Bool} {xs:List t.D}:some (decide ((0:Int)<=M.idx (t:=t) p xs))=some (xs.any p):=by rw[Eu]
theorem Gp {t:Ty} [DecidableEq t.D] {xs ys:List t.D} {f:Int->Unit->Option (Sum Unit Unit)} (h:∀i,0<=i->i<(xs.length:Int)->i<(ys.length:Int)->f i ()=some (cond (decide (nth xs i=nth ys i)) (.inl ()) (.inr ()))) :
  cond (!decide ((xs.length:Int)=(ys.length:Int))) (some false) (bq (aO f (aY 0 (xs.length:Int)) ()) (fun _:Unit=>some true) (fun _:Unit=>some false))=some (decide (xs=ys)):=by
 by_cases hl:xs.length=ys.length
 ·rw[decide_eq_true (by omega:(xs.length:Int)=(ys.length:Int))]
  simp only[Bool.not_true,cond_false]
  rw[CV (fun i=>decide (nth xs i=nth ys i)) () (fun i hi=>by
   obtain⟨h0,h1⟩:=jQ.1 hi
   exact h i h0 h1 (by omega))]
  have e:(aY 0 (xs.length:Int)).all (fun i=>decide (nth xs i=nth ys i))=decide (xs=ys):=by
   by_cases he:xs=ys
   ·rw[decide_eq_true he,List.all_eq_true]
    intro i _
    rw[he]
    simp
   ·rw[decide_eq_false he,List.all_eq_false]
    refine Classical.byContradiction fun hn=>he ?_
    rw[<-kg xs,<-kg ys,hl]
    apply List.map_congr_left
    intro i hi
    refine Classical.byContradiction fun hne=>hn ⟨i,by rw[hl];exact hi,?_⟩
    simpa using hne
  rw[e]
  cases decide (xs=ys)<;>rfl
 ·rw[decide_eq_false (by omega:¬(xs.length:Int)=(ys.length:Int)),decide_eq_false (fun e=>hl (by rw[e]))]
  rfl
theorem cF {α:Type} {b:Bool} {x y:α}:cond b (some x) (some y)=some (cond b x y):=by cases b<;>rfl
theorem jJ {α:Type} {b:Bool} {x y:α}:cond (!b) x y=cond b y x:=by cases b<;>rfl
theorem beq_iff:∀{t:Ty} (_:t.flat=true) (x y:t.D),Ty.beq t x y=true ↔ x=y
 | .int _,_,x,y=>by simp only[Ty.beq,decide_eq_true_eq]
 | .bool,_,x,y=>by simp only[Ty.beq,beq_iff_eq]
 | .str,_,x,y=>by simp only[Ty.beq,decide_eq_true_eq]
 | .unit,_,x,y=>by simp only[Ty.beq]
 | .sl _,h,_,_=>by cases h
 | .pair a b,h,x,y=>by
  simp only[Ty.flat,Bool.and_eq_true] at h
  simp only[Ty.beq,Bool.and_eq_true,beq_iff h.1,beq_iff h.2]
  constructor
  ·rintro ⟨h1,h2⟩
   exact Prod.ext h1 h2
  ·rintro rfl
   exact⟨rfl,rfl⟩
theorem IM {t:Ty} (h:t.flat=true) [DecidableEq t.D] (x y:t.D):Ty.beq t x y=decide (x=y):=by
 cases hb:Ty.beq t x y with
 | true=>exact(decide_eq_true ((beq_iff h x y).1 hb)).symm
 | false=>exact(decide_eq_false (fun e=>by rw[(beq_iff h x y).2 e] at hb;cases hb)).symm
theorem gX (n:Nat) (h:n<=1048576):wrap64 ((n:Int)-1)=(n:Int)-1:=aI (by omega) (by omega)
theorem He {α ρ τ:Type} {f:α->Unit->Option (Sum Unit ρ)} (p:α->Bool) (r:ρ) {xs:List α} (h:∀x∈xs,f x ()=some (cond (p x) (.inr r) (.inl ()))) {A:Unit->Option τ} {B:ρ->Option τ} :
  bq (aO f xs ()) A B=cond (xs.any p) (B r) (A ()):=by
 rw[yS p r h]
 cases xs.any p<;>rfl
theorem jh {α ρ τ:Type} {f:α->Unit->Option (Sum Unit ρ)} (p:α->Bool) (r:ρ) {xs:List α} (h:∀x∈xs,f x ()=some (cond (p x) (.inl ()) (.inr r))) {A:Unit->Option τ} {B:ρ->Option τ} :
  bq (aO f xs ()) A B=cond (xs.all p) (A ()) (B r):=by
 rw[CV p r h]
 cases xs.all p<;>rfl
theorem jT {a b:Bool}:cond (a==true) (some b) (some false)=some (a&&b):=by cases a<;>rfl
theorem BO {s:ByteArray} {i:Int} (h0:0<=i) (h1:i<(s.size:Int)):((s.get! i.toNat).toNat:Int)=nth (t:=.int .u8) (bU s) i:=by
 have hl:=kT s
 have hlt:i.toNat<(bU s).length:=by omega
 have hd:i.toNat<s.data.size:=by
  have:i.toNat<s.size:=by omega
  exact this
 unfold nth
 rw[List.getD_eq_getElem?_getD,List.getElem?_eq_getElem hlt]
 simp only[bU,List.getElem_map,Option.getD_some]
 have:s.get! i.toNat=s.data[i.toNat]:=by
  cases s with
  | mk d=>exact getElem!_pos d i.toNat hd
 rw[this]
 simp
theorem FL {t:Ty} (xs:List t.D) (p:t.D->Bool):(aY 0 (xs.length:Int)).all (fun i=>p (nth xs i))=xs.all p:=by
 conv=>rhs;rw[<-kg xs]
 rw[List.all_map]
 rfl
theorem Ht {s:ByteArray} {n:Int} (h:n∈bU s):0<=n/\n<=255:=by
 simp only[bU,List.mem_map] at h
 obtain⟨b,_,rfl⟩:=h
 have:=b.toNat_lt
 omega
namespace M
theorem eq_eq {α:Type} {x:List α} {f:Int->Unit->Option (Sum Unit Unit)} (hf:∀i,0<=i->i<(x.length:Int)->f i ()=some (.inl ())) :
  cond (!decide ((x.length:Int)=(x.length:Int))) (some false) (bq (aO f (aY (0:Int) (x.length:Int)) ()) (fun _:Unit=>some true) (fun _:Unit=>some false))=some true:=by
 rw[decide_eq_true rfl,jh (fun _=>true) () (fun i hi=>by
  obtain⟨h0,h1⟩:=jQ.1 hi
  exact hf i h0 h1)]
 have:(aY (0:Int) (x.length:Int)).all (fun _=>true)=true:=by simp
 rw[this]
 rfl
theorem jb {α:Type} {x:Option α}:af True x=x:=ai trivial
end M
end Go.AE
end
section
namespace Go.AE
open Go Go.RowKit
set_option linter.unusedVariables false
namespace M
theorem Il {t:Ty} {a:List t.D} {i:Int} {z:t.D} (h0:0<=i) (h1:i<(a.length:Int)):nth (t:=t) (a.set i.toNat z) i=z:=by
 have:i.toNat<a.length:=by omega
 unfold nth
 rw[List.getD_eq_getElem?_getD,List.getElem?_set_self this]
 rfl
end M
end Go.AE
end
section
namespace Go.AE
open Go Go.RowKit
set_option linter.unusedVariables false
def M.holds (row:List aa.D) (e:List ax.D):Bool:=Ty.beq aa (M.dD row e) (M.valueOf 1)
def M.tQ (v:List az.D) (g:lF.D):List az.D:=
 v.set g.1.toNat ((nth (t:=az) v g.1).1,List.filter (fun r=>M.holds r g.2.1) (nth (t:=az) v g.1).2.1,())
namespace M
theorem jZ {α:Type} (xs:List α):aj xs (some ((0:Int),(xs.length:Int)))=xs:=by
 unfold aj
 simp
theorem ju {α:Type} (xs:List α):xs.take ((xs.length:Int)).toNat=xs:=by simp
theorem AO {α σ ρ:Type} {f:α->σ->Option (Sum σ ρ)} (g:σ->α->σ) (I:σ->Prop) {xs:List α} {s:σ} (h0:I s)
  (h:∀x∈xs,∀s,I s->f x s=some (.inl (g s x))/\I (g s x)):aO f xs s=some (.inl (xs.foldl g s))/\I (xs.foldl g s):=by
 induction xs generalizing s with
 | nil=>exact⟨rfl,h0⟩
 | cons x xs ih=>
  obtain⟨h1,h2⟩:=h x (by simp) s h0
  rw[bO,h1,aX]
  exact ih h2 (fun y hy=>h y (by simp[hy]))
theorem rP {t:Ty} {xs:List t.D}:cond (decide ((xs.length:Int)=(0:Int))) (some ([]:List t.D)) (some (xs.take (xs.length:Int).toNat))=some xs:=by
 rw[ju]
 cases xs with
 | nil=>rfl
 | cons x xs=>rw[decide_eq_false (by simp;omega)];rfl
theorem FA {B:Nat} {t:Ty} {xs:List t.D} (p:t.D->Bool) (h:SmB B (.sl t) xs):SmB B (.sl t) (xs.filter p):=⟨Nat.le_trans (List.length_filter_le _ _) h.1,fun x hx=>h.2 x (List.mem_filter.1 hx).1⟩
theorem yo {α:Type} (xs:List α):xs.map (fun x=>x)=xs:=by simp
def eL (tables v:List az.D):Prop:=v.length=tables.length/\∀i:Int,0<=i->i<(tables.length:Int)->(nth (t:=az) v i).1=(nth (t:=az) tables i).1 ∧
 (nth (t:=az) v i).2.1.length<=(nth (t:=az) tables i).2.1.length/\∀r∈(nth (t:=az) v i).2.1,r∈(nth (t:=az) tables i).2.1
theorem eL.refl (tables:List az.D):eL tables tables:=⟨rfl,fun _ _ _=>⟨rfl,Nat.le_refl _,fun _ h=>h⟩⟩
theorem DN {t:Ty} {a:List t.D} {i j:Int} {z:t.D} (h0:0<=i) (h1:0<=j) (hne:i≠j):nth (t:=t) (a.set i.toNat z) j=nth a j:=by
 have:i.toNat≠j.toNat:=by omega
 unfold nth
 rw[List.getD_eq_getElem?_getD,List.getD_eq_getElem?_getD,List.getElem?_set_ne this]
theorem eL.step {tables v:List az.D} (h:eL tables v) {g:lF.D} (h0:0<=g.1) (h1:g.1<(tables.length:Int)):eL tables (tQ v g):=by
 refine⟨by unfold tQ;simp[h.1],fun i i0 i1=>?_⟩
 have hl:g.1<(v.length:Int):=by rw[h.1];exact h1
 by_cases e:g.1=i
 ·subst e
  obtain⟨q1,q2,q3⟩:=h.2 _ i0 i1
  unfold tQ
  rw[Il i0 hl]
  exact⟨q1,Nat.le_trans (List.length_filter_le _ _) q2,fun r hr=>q3 r (List.mem_filter.1 hr).1⟩
 ·unfold tQ
  rw[DN h0 i0 e]
  exact h.2 i i0 i1
theorem Fj {tables:List az.D} (h:bX tables=true) {i:Int} (h0:0<=i) (h1:i<(tables.length:Int)) {r:List aa.D} (hr:r∈(nth (t:=az) tables i).2.1):r.length=(nth (t:=az) tables i).1.length:=by
 have hm:=qz (t:=az) h0 h1
 unfold bX at h
 obtain⟨_,h2⟩:=Bool.and_eq_true_iff.1 h
 have h3:=List.all_eq_true.1 h2 _ hm
 unfold cQ at h3
 obtain⟨_,h4⟩:=Bool.and_eq_true_iff.1 h3
 unfold fO at h4
 obtain⟨_,h5⟩:=Bool.and_eq_true_iff.1 h4
 have h6:=List.all_eq_true.1 h5 r hr
 unfold cG at h6
 simp only[Bool.and_eq_true,decide_eq_true_eq] at h6
 omega
end M
end Go.AE
end
