/- What the functions compute, in plain Lean. -/
import Derived.Test.YtiplhefglgpdoaaGreatAeX
section
namespace Go.AE
open Go Go.RowKit
abbrev aE:Ty:=.int .i64
abbrev af:Ty:=.pair (.int .i64) (.pair (.int .i64) (.pair .str .unit))
abbrev ah:Ty:=.pair (.int .i64) (.pair .bool .unit)
abbrev az:Ty:=.pair (.sl ah) (.pair (.sl (.sl af)) .unit)
abbrev ax:Ty:=.pair (.int .i64) (.pair (.int .i64) (.pair af .unit))
abbrev LQ:Ty:=.pair (.int .i64) (.pair (.int .i64) (.pair (.sl (.int .i64)) (.pair (.int .i64) (.pair (.sl (.int .i64)) (.pair .bool (.pair (.sl ax) .unit))))))
abbrev aa:Ty:=.pair (.int .i64) (.pair (.int .i64) (.pair (.int .i64) (.pair (.int .i64) (.pair (.sl ax) (.pair (.sl (.int .i64)) .unit)))))
abbrev mh:Ty:=.pair (.int .i64) (.pair (.sl ax) .unit)
abbrev LTb:Type:=List az.D
abbrev LV:Type:=List af.D
abbrev LS:Type:=List aa.D
abbrev LPt:Type:=List ax.D
abbrev LC:Type:=List ah.D
abbrev LLV:Type:=List (List af.D)
abbrev LLC:Type:=List (List ah.D)
abbrev TTb:Ty:=.sl az
abbrev TSS:Ty:=.sl aa
abbrev TCS:Ty:=.sl ah
abbrev TVS:Ty:=.sl af
abbrev TPS:Ty:=.sl ax
abbrev TGS:Ty:=.sl mh
namespace M
def inR (n a b:Int):Bool:=decide (a<=n)&&decide (n<=b)
theorem fk {n N:Int} (h:inR n 0 N=true):0<=n:=by unfold inR at h;simp at h;exact h.1
theorem og {n N:Int} (h:inR n 0 N=true):n<=N:=by unfold inR at h;simp at h;exact h.2
def lower (l:List Int):Bool:=l.all fun n=>inR n 97 122
def text (s:ByteArray):Bool:=decide (s.size<=6)&&lower (cq s)
abbrev none_:ByteArray:=⟨#[]⟩
def aZ (v:af.D):Bool:=cond (decide (v.1=(0:Int))) (decide (v.2.1=(0:Int))&&decide (v.2.2.1=none_))
 (cond (decide (v.1=(1:Int))) (inR v.2.1 (-9999) 9999&&decide (v.2.2.1=none_))
 (cond (decide (v.1=(2:Int))) (decide (v.2.1=(0:Int))&&text v.2.2.1)
 (cond (decide (v.1=(3:Int))) (inR v.2.1 0 1&&decide (v.2.2.1=none_)) false)))
def eL (c:ah.D):Bool:=inR c.1 1 3
def bI (x:List ah.D):Bool:=decide (x.length<=4)&&x.all eL
def taken (row:List af.D) (l:List Int):List af.D:=l.map fun i=>nth (t:=af) row i
def qc (row:List af.D):Bool:=decide (row.length<=4)&&row.all aZ
def idx {t:Ty} (p:t.D->Bool) (xs:List t.D):Int:=match xs.findIdx? p with
 | some k=>(k:Int)
 | none=>-1
def CH (row:List af.D) (l:List Int):Prop:=∀i∈l,0<=i/\i<(row.length:Int)
theorem IU {B:Nat} {row:List af.D} {l:List Int} (h:SmB B (.sl af) row) (hl:SmB B (.sl (.int .i64)) l):SmB B (.sl af) (taken row l):=by
 refine⟨by unfold taken;rw[List.length_map];exact hl.1,fun x hx=>?_⟩
 unfold taken at hx
 obtain⟨i,_,rfl⟩:=List.mem_map.1 hx
 exact aL h i
def fold (a b alone:Int):Int:=cond (inR a 0 2&&inR b 0 2) (cond (decide (a=alone)||decide (b=alone)) alone (cond (decide (a=2)||decide (b=2)) 2 (1-alone))) (-1)
def tK (a b:Int):Int:=fold a b 0
def Ij (a b:Int):Int:=fold a b 1
def CK (a:Int):Int:=cond (decide (a=0)) 1 (cond (decide (a=1)) 0 (cond (decide (a=2)) 2 (-1)))
def bool (b:Bool):Int:=cond b 1 0
abbrev zeroV:af.D:=((0:Int),(0:Int),none_,())
def valueOf (n:Int):af.D:=cond (inR n 0 1) ((3:Int),n,none_,()) zeroV
def dw (v:af.D):Int:=cond (aZ v) (cond (decide (v.1=(0:Int))) 2 (cond (decide (v.1=(3:Int))) v.2.1 (-1))) (-1)
def less (a b:Int):Int:=cond (decide (a<b)) 1 0
def wV (a b:Int):Int:=cond (decide (a<b)) (-1) (cond (decide (b<a)) 1 0)
def EL (a b:ByteArray):Int:=cond (Op.bytesLess a.toList b.toList) (-1) (cond (!(Op.bytesLess a.toList b.toList||decide (a=b))) 1 0)
def orI:List Int->Int
 | []=>0
 | x::l=>cond (decide (x=0)) (orI l) x
def order (v w:af.D):Int:=orI [wV v.1 w.1,wV v.2.1 w.2.1,EL v.2.2.1 w.2.2.1]
def Eo (kind c:Int):Bool:=cond (decide (kind=1)) (decide (c=0)) (cond (decide (kind=2)) (!decide (c=0)) (cond (decide (kind=3)) (decide (c<0)) (decide (c<=0))))
def compare (kind:Int) (a b:af.D):Int:=cond (inR kind 1 4&&(aZ a&&aZ b)) (cond (decide (a.1=(0:Int))||decide (b.1=(0:Int))) 2 (cond (decide (a.1=b.1)) (bool (Eo kind (order a b))) (-1))) (-1)
def uR (columns:List ah.D) (row:List af.D) (k:Int):Bool:=decide ((nth (t:=af) row k).1=(nth (t:=ah) columns k).1)||(decide ((nth (t:=af) row k).1=(0:Int))&&(nth (t:=ah) columns k).2.1)
def cM (columns:List ah.D) (row:List af.D):Bool:=bI columns&&(qc row&&(decide (row.length=columns.length)&&(aP 0 (row.length:Int)).all (uR columns row)))
def gI (columns:List ah.D) (rows:List (List af.D)):Bool:=bI columns&&rows.all (cM columns)
def dy (t:az.D):Bool:=decide (t.2.1.length<=6)&&gI t.1 t.2.1
def cC (ts:List az.D):Bool:=decide (ts.length<=3)&&ts.all dy
def takes (p:ax.D):Int:=cond (decide (p.1=(3:Int))||decide (p.1=(4:Int))||decide (p.1=(5:Int))||decide (p.1=(6:Int))) 2 (cond (decide (p.1=(7:Int))||decide (p.1=(8:Int))) 1 0)
def noV (p:ax.D):Bool:=Ty.beq af p.2.2.1 zeroV
def mI (p:ax.D) (columns:List ah.D):Bool:=
 cond (decide (p.1=(1:Int))) (decide (p.2.1=(0:Int))&&(aZ p.2.2.1&&!decide (p.2.2.1.1=(0:Int))))
 (cond (decide (p.1=(2:Int))) (inR p.2.1 0 ((columns.length:Int)-1)&&noV p)
 (cond (decide (p.1=(4:Int))) (inR p.2.1 1 4&&noV p)
 (cond (inR p.1 3 8) (decide (p.2.1=(0:Int))&&noV p) false)))
def cT (p:ax.D) (columns:List ah.D) (l:List Int):Int×Bool:=
 cond (decide (p.1=(1:Int))) (p.2.2.1.1,true)
 (cond (decide (p.1=(2:Int))) ((nth (t:=ah) columns p.2.1).1,true)
 (cond (decide (p.1=(3:Int))) (1,l.all fun k=>decide (k=1))
 (cond (decide (p.1=(4:Int))) (3,decide (nth (t:=.int .i64) l 0=nth (t:=.int .i64) l 1))
 (cond (decide (p.1=(8:Int))) (3,true) (3,l.all fun k=>decide (k=3))))))
def fz (columns:List ah.D) (st:List Int) (p:ax.D):Option (List Int):=
 cond (mI p columns&&(decide (takes p<=(st.length:Int))&&(cT p columns (st.drop (st.length-(takes p).toNat))).2)) (some (st.take (st.length-(takes p).toNat)++[(cT p columns (st.drop (st.length-(takes p).toNat))).1])) none
def iE (columns:List ah.D):List ax.D->List Int->Option (List Int)
 | [],st=>some st
 | p::e,st=>match fz columns st p with
  | some st'=>iE columns e st'
  | none=>none
def oneOf:Option (List Int)->Int
 | some [k]=>k
 | _=>-1
def bE (columns:List ah.D) (e:List ax.D):Int:=cond (bI columns&&decide (e.length<=12)) (oneOf (iE columns e [])) (-1)
def sum (a b:af.D):af.D:=cond (decide (a.1=(0:Int))||decide (b.1=(0:Int))||!inR (wrap64 (a.2.1+b.2.1)) (-9999) 9999) zeroV ((1:Int),wrap64 (a.2.1+b.2.1),none_,())
def fo (p:ax.D) (row:List af.D) (l:List af.D):af.D:=
 cond (decide (p.1=(1:Int))) p.2.2.1
 (cond (decide (p.1=(2:Int))) (nth (t:=af) row p.2.1)
 (cond (decide (p.1=(3:Int))) (sum (nth (t:=af) l 0) (nth (t:=af) l 1))
 (cond (decide (p.1=(4:Int))) (valueOf (compare p.2.1 (nth (t:=af) l 0) (nth (t:=af) l 1)))
 (cond (decide (p.1=(5:Int))) (valueOf (tK (dw (nth (t:=af) l 0)) (dw (nth (t:=af) l 1))))
 (cond (decide (p.1=(6:Int))) (valueOf (Ij (dw (nth (t:=af) l 0)) (dw (nth (t:=af) l 1))))
 (cond (decide (p.1=(7:Int))) (valueOf (CK (dw (nth (t:=af) l 0))))
 (valueOf (bool (decide ((nth (t:=af) l 0).1=(0:Int)))))))))))
def cJ (row:List af.D) (st:List af.D) (p:ax.D):List af.D:=st.take (st.length-(takes p).toNat)++[fo p row (st.drop (st.length-(takes p).toNat))]
def dQ (row:List af.D) (e:List ax.D):af.D:=nth (t:=af) (e.foldl (cJ row) []) 0
def yC (p:ax.D) (w:Nat):Prop:=p.1=(2:Int)->0<=p.2.1/\p.2.1<(w:Int)
def tg (w:Nat):List ax.D->Nat->Prop
 | [],d=>0<d
 | p::e,d=>takes p<=(d:Int)/\(1<=p.1/\p.1<=8)/\yC p w/\tg w e (d-(takes p).toNat+1)
def gz (w:Nat) (e:List ax.D):Prop:=e.length<=12/\tg w e 0
end M
theorem fk {n N:Int} (h:M.inR n 0 N=true):0<=n:=M.fk h
theorem lZ {n:Int} {N:Nat} (h:M.inR n 0 (wrap64 ((N:Int)-1))=true):n<(N:Int):=by
 have h1:=M.fk h
 have h2:=M.og h
 have:wrap64 ((N:Int)-1)<=(N:Int)-1:=by unfold wrap64;omega
 omega
end Go.AE
end
section
namespace Go.AE
open Go Go.RowKit
@[simp] theorem aV {α β:Type} (x:α) (f:α->β):aJ x f=f x:=rfl
@[simp] theorem Lv {σ ε:Type} (s:σ) (g:σ->ε):Cr (some (.inl s)) g=some (g s):=rfl
@[simp] theorem Lu {σ ε:Type} (e:ε) (g:σ->ε):Cr (some (.inr e)) g=some e:=rfl
@[simp] theorem Lr {σ ε ρ:Type} (s:σ) (g:σ->ε):KQ (ρ:=ρ) (some (.inl s)) g=some (.inl (g s)):=rfl
@[simp] theorem Lt {σ ε ρ:Type} (r:Sum ε ρ) (g:σ->ε):KQ (some (.inr r)) g=some r:=rfl
@[simp] theorem Ls {α σ ρ:Type} (f:α->σ->Option (Sum σ ρ)) (s:σ):aO f [] s=some (.inl s):=rfl
theorem bM {α σ ρ:Type} (f:α->σ->Option (Sum σ ρ)) (x:α) (xs:List α) (s:σ):aO f (x::xs) s=bu (f x s) (fun s'=>aO f xs s') (fun r=>some (.inr r)):=rfl
theorem fH {a n i:Int}:i∈aP a n ↔ a<=i/\i<n:=by
 unfold aP
 simp only[List.mem_map,List.mem_range]
 constructor
 ·rintro ⟨k,hk,rfl⟩
  omega
 ·rintro ⟨h1,h2⟩
  exact⟨(i-a).toNat,by omega,by omega⟩
def gr {α β:Type} (p:α->Option β):List α->Option β
 | []=>none
 | x::xs=>match p x with
  | some y=>some y
  | none=>gr p xs
theorem AT {α ρ:Type} {f:α->Unit->Option (Sum Unit ρ)} (p:α->Option ρ):∀{xs:List α} (_:∀x∈xs,f x ()=some (match p x with | some r=>.inr r | none=>.inl ())),
  aO f xs ()=some (match gr p xs with | some r=>.inr r | none=>.inl ())
 | [],_=>rfl
 | x::xs,h=>by
  rw[bM,h x (List.mem_cons_self ..),gr]
  cases hp:p x with
  | some r=>rfl
  | none=>exact AT p (fun y hy=>h y (List.mem_cons_of_mem _ hy))
theorem zU {α ρ:Type} {f:α->Unit->Option (Sum Unit ρ)} (p:α->Bool) (r:ρ):∀{xs:List α} (_:∀x∈xs,f x ()=some (cond (p x) (.inr r) (.inl ()))),
  aO f xs ()=some (cond (xs.any p) (.inr r) (.inl ()))
 | [],_=>rfl
 | x::xs,h=>by
  rw[bM,h x (List.mem_cons_self ..),List.any_cons]
  cases hp:p x with
  | true=>rfl
  | false=>exact zU p r (fun y hy=>h y (List.mem_cons_of_mem _ hy))
theorem FA {α ρ:Type} {f:α->Unit->Option (Sum Unit ρ)} (p:α->Bool) (r:ρ) {xs:List α} (h:∀x∈xs,f x ()=some (cond (p x) (.inl ()) (.inr r))) :
  aO f xs ()=some (cond (xs.all p) (.inl ()) (.inr r)):=by
 rw[zU (fun x=>!p x) r (fun x hx=>by rw[h x hx];cases p x<;>rfl)]
 rw[List.all_eq_not_any_not]
 cases xs.any fun x=>!p x<;>rfl
theorem CJ {α σ ρ:Type} {f:α->σ->Option (Sum σ ρ)} (g:σ->α->σ) (I:σ->Prop):∀{xs:List α} {s:σ} (_:I s) (_:∀x∈xs,∀s,I s->f x s=some (.inl (g s x))/\I (g s x)),
  aO f xs s=some (.inl (xs.foldl g s))/\I (xs.foldl g s)
 | [],s,h0,_=>⟨rfl,h0⟩
 | x::xs,s,h0,h=>by
  obtain⟨h1,h2⟩:=h x (List.mem_cons_self ..) s h0
  rw[bM,h1]
  exact CJ g I h2 (fun y hy=>h y (List.mem_cons_of_mem _ hy))
theorem foldl_append {α β:Type} (g:α->β):∀(xs:List α) (s:List β),xs.foldl (fun s x=>s++[g x]) s=s++xs.map g
 | [],s=>by simp
 | x::xs,s=>by rw[List.foldl_cons,foldl_append g xs];simp
theorem vq {α β ρ:Type} {f:α->List β->Option (Sum (List β) ρ)} (g:α->β) {xs:List α} (h:∀x∈xs,∀s:List β,s.length<xs.length->f x s=some (.inl (s++[g x]))) :
  aO f xs []=some (.inl (xs.map g)):=by
 have key:∀(ys zs:List α) (s:List β),xs=zs++ys->s.length=zs.length->aO f ys s=some (.inl (s++ys.map g)):=by
  intro ys
  induction ys with
  | nil=>intro zs s _ _;simp
  | cons y ys ih=>
   intro zs s e hs
   rw[bM,h y (by rw[e];simp) s (by rw[e,hs];simp)]
   rw[bp,ih (zs++[y]) (s++[g y]) (by rw[e];simp) (by simp[hs])]
   simp
 have:=key xs [] [] rfl rfl
 simpa using this
theorem iq {t:Ty} {xs:List t.D} {i:Int} (h0:0<=i) (h1:i<(xs.length:Int)):nth xs i=xs[i.toNat]'(by omega):=by
 unfold nth
 rw[List.getD_eq_getElem?_getD,List.getElem?_eq_getElem (by omega)]
 rfl
theorem vJ {t:Ty} (x:t.D) (xs:List t.D):nth (t:=t) (x::xs) 0=x:=rfl
theorem vW {t:Ty} (x:t.D) (xs:List t.D) {i:Int} (h:0<=i):nth (t:=t) (x::xs) (i+1)=nth (t:=t) xs i:=by
 have e:(i+1).toNat=i.toNat+1:=by omega
 unfold nth
 rw[e,List.getD_cons_succ]
theorem EI (n:Nat):aP 0 ((n:Int)+1)=0::(aP 0 n).map (fun i=>i+1):=by
 rw[dr (by omega)]
 congr 1
 unfold aP
 have e1:((n:Int)+1-(0+1)).toNat=n:=by omega
 have e2:((n:Int)-0).toNat=n:=by omega
 rw[e1,e2,List.map_map]
 apply List.map_congr_left
 intro k _
 simp
 omega
theorem lE {t:Ty}:∀(xs:List t.D),(aP 0 (xs.length:Int)).map (fun i=>nth xs i)=xs
 | []=>by rw[cH (by simp)];rfl
 | x::xs=>by
  have e:((x::xs).length:Int)=(xs.length:Int)+1:=by simp
  rw[e,EI,List.map_cons,List.map_map,vJ]
  congr 1
  refine(List.map_congr_left (g:=fun i=>nth xs i) ?_).trans (lE xs)
  intro i hi
  exact vW x xs (fH.1 hi).1
theorem FI {t:Ty} {p:t.D->Bool} {xs:List t.D}:decide ((0:Int)<=M.idx (t:=t) p xs)=xs.any p:=by
 unfold M.idx
 split
 ·rename_i k h
  obtain⟨h1,h2,_⟩:=List.findIdx?_eq_some_iff_getElem.1 h
  rw[decide_eq_true (by omega)]
  exact(List.any_eq_true.2 ⟨_,List.getElem_mem h1,h2⟩).symm
 ·rename_i h
  rw[decide_eq_false (by omega)]
  rw[List.findIdx?_eq_none_iff] at h
  symm
  rw[List.any_eq_false]
  intro x hx
  simp[h x hx]
theorem rU {t:Ty} (p:t.D->Bool):∀(xs:List t.D) (a:Int) (f:Int->Unit->Option (Sum Unit Int)) (_:∀i,0<=i->i<(xs.length:Int)->f (a+i) ()=some (cond (p (nth xs i)) (.inr (a+i)) (.inl ()))),
  aO f (aP a (a+(xs.length:Int))) ()=some (match xs.findIdx? p with | some k=>.inr (a+(k:Int)) | none=>.inl ())
 | [],a,f,_=>by rw[cH (by simp)];rfl
 | x::xs,a,f,h=>by
  have e:((x::xs).length:Int)=(xs.length:Int)+1:=by simp
  have h0:=h 0 (Int.le_refl _) (by rw[e];omega)
  rw[Int.add_zero,vJ] at h0
  rw[dr (by rw[e];omega),bM,h0,List.findIdx?_cons]
  cases hp:p x with
  | true=>simp
  | false=>
   simp only[cond_false,bp]
   have ih:=rU p xs (a+1) f (fun i i0 i1=>by
    have:=h (i+1) (by omega) (by rw[e];omega)
    rw[vW x xs i0] at this
    rw[show a+1+i=a+(i+1) by omega]
    exact this)
   rw[show a+((x::xs).length:Int)=a+1+(xs.length:Int) by rw[e];omega,ih]
   cases List.findIdx? p xs with
   | none=>rfl
   | some k=>simp;omega
theorem jV {t:Ty} {p:t.D->Bool} {xs:List t.D} {f:Int->Unit->Option (Sum Unit Int)} (h:∀i,0<=i->i<(xs.length:Int)->f i ()=some (cond (p (nth xs i)) (.inr i) (.inl ()))) :
  bu (aO f (aP 0 (xs.length:Int)) ()) (fun _:Unit=>some (-1:Int)) (fun q:Int=>some q)=some (M.idx p xs):=by
 have:=rU p xs 0 f (fun i h0 h1=>by rw[Int.zero_add];exact h i h0 h1)
 rw[Int.zero_add] at this
 rw[this]
 unfold M.idx
 cases List.findIdx? p xs with
 | none=>rfl
 | some k=>simp
theorem gA {t:Ty} {p:t.D->Bool} {xs:List t.D}:some (decide ((0:Int)<=M.idx (t:=t) p xs))=some (xs.any p):=by rw[FI]
theorem JB {t:Ty} [DecidableEq t.D] {xs ys:List t.D} {f:Int->Unit->Option (Sum Unit Unit)} (h:∀i,0<=i->i<(xs.length:Int)->i<(ys.length:Int)->f i ()=some (cond (decide (nth xs i=nth ys i)) (.inl ()) (.inr ()))) :
  cond (!decide ((xs.length:Int)=(ys.length:Int))) (some false) (bu (aO f (aP 0 (xs.length:Int)) ()) (fun _:Unit=>some true) (fun _:Unit=>some false))=some (decide (xs=ys)):=by
 by_cases hl:xs.length=ys.length
 ·rw[decide_eq_true (by omega:(xs.length:Int)=(ys.length:Int))]
  simp only[Bool.not_true,cond_false]
  rw[FA (fun i=>decide (nth xs i=nth ys i)) () (fun i hi=>by
   obtain⟨h0,h1⟩:=fH.1 hi
   exact h i h0 h1 (by omega))]
  have e:(aP 0 (xs.length:Int)).all (fun i=>decide (nth xs i=nth ys i))=decide (xs=ys):=by
   by_cases he:xs=ys
   ·rw[decide_eq_true he,List.all_eq_true]
    intro i _
    rw[he]
    simp
   ·rw[decide_eq_false he,List.all_eq_false]
    refine Classical.byContradiction fun hn=>he ?_
    rw[<-lE xs,<-lE ys,hl]
    apply List.map_congr_left
    intro i hi
    refine Classical.byContradiction fun hne=>hn ⟨i,by rw[hl];exact hi,?_⟩
    simpa using hne
  rw[e]
  cases decide (xs=ys)<;>rfl
 ·rw[decide_eq_false (by omega:¬(xs.length:Int)=(ys.length:Int)),decide_eq_false (fun e=>hl (by rw[e]))]
  rfl
theorem cK {α:Type} {b:Bool} {x y:α}:cond b (some x) (some y)=some (cond b x y):=by cases b<;>rfl
theorem kW {α:Type} {b:Bool} {x y:α}:cond (!b) x y=cond b y x:=by cases b<;>rfl
theorem beq_iff:∀{t:Ty} (_:t.flat=true) (x y:t.D),Ty.beq t x y=true ↔ x=y
 | .int _,_,x,y=>by simp only[Ty.beq,decide_eq_true_eq]
 | .bool,_,x,y=>by simp only[Ty.beq,beq_iff_eq]
 | .str,_,x,y=>by simp only[Ty.beq,decide_eq_true_eq]
 | .unit,_,x,y=>by simp only[Ty.beq]
 | .sl _,h,_,_=>by cases h
 | .pair a b,h,x,y=>by
  simp only[Ty.flat,Bool.and_eq_true] at h
  simp only[Ty.beq,Bool.and_eq_true,beq_iff h.1,beq_iff h.2]
  constructor
  ·rintro ⟨h1,h2⟩
   exact Prod.ext h1 h2
  ·rintro rfl
   exact⟨rfl,rfl⟩
theorem Kk {t:Ty} (h:t.flat=true) [DecidableEq t.D] (x y:t.D):Ty.beq t x y=decide (x=y):=by
 cases hb:Ty.beq t x y with
 | true=>exact(decide_eq_true ((beq_iff h x y).1 hb)).symm
 | false=>exact(decide_eq_false (fun e=>by rw[(beq_iff h x y).2 e] at hb;cases hb)).symm
theorem gf (n:Nat) (h:n<=1048576):wrap64 ((n:Int)-1)=(n:Int)-1:=aH (by omega) (by omega)
theorem IJ {α ρ τ:Type} {f:α->Unit->Option (Sum Unit ρ)} (p:α->Bool) (r:ρ) {xs:List α} (h:∀x∈xs,f x ()=some (cond (p x) (.inr r) (.inl ()))) {A:Unit->Option τ} {B:ρ->Option τ} :
  bu (aO f xs ()) A B=cond (xs.any p) (B r) (A ()):=by
 rw[zU p r h]
 cases xs.any p<;>rfl
theorem ki {α ρ τ:Type} {f:α->Unit->Option (Sum Unit ρ)} (p:α->Bool) (r:ρ) {xs:List α} (h:∀x∈xs,f x ()=some (cond (p x) (.inl ()) (.inr r))) {A:Unit->Option τ} {B:ρ->Option τ} :
  bu (aO f xs ()) A B=cond (xs.all p) (A ()) (B r):=by
 rw[FA p r h]
 cases xs.all p<;>rfl
theorem FG {α ρ τ:Type} {f:α->Unit->Option (Sum Unit ρ)} (p:α->Option ρ) {xs:List α} (h:∀x∈xs,f x ()=some (match p x with | some r=>.inr r | none=>.inl ())) {A:Unit->Option τ} {B:ρ->Option τ} :
  bu (aO f xs ()) A B=match gr p xs with | some r=>B r | none=>A ():=by
 rw[AT p h]
 cases gr p xs<;>rfl
theorem kV {a b:Bool}:cond (a==true) (some b) (some false)=some (a&&b):=by cases a<;>rfl
theorem Dt {s:ByteArray} {i:Int} (h0:0<=i) (h1:i<(s.size:Int)):((s.get! i.toNat).toNat:Int)=nth (t:=.int .u8) (cq s) i:=by
 have hl:=mA s
 have hlt:i.toNat<(cq s).length:=by omega
 have hd:i.toNat<s.data.size:=by
  have:i.toNat<s.size:=by omega
  exact this
 unfold nth
 rw[List.getD_eq_getElem?_getD,List.getElem?_eq_getElem hlt]
 simp only[cq,List.getElem_map,Option.getD_some]
 have:s.get! i.toNat=s.data[i.toNat]:=by
  cases s with
  | mk d=>exact getElem!_pos d i.toNat hd
 rw[this]
 simp
theorem HJ {t:Ty} (xs:List t.D) (p:t.D->Bool):(aP 0 (xs.length:Int)).all (fun i=>p (nth xs i))=xs.all p:=by
 conv=>rhs;rw[<-lE xs]
 rw[List.all_map]
 rfl
theorem Ja {s:ByteArray} {n:Int} (h:n∈cq s):0<=n/\n<=255:=by
 simp only[cq,List.mem_map] at h
 obtain⟨b,_,rfl⟩:=h
 have:=b.toNat_lt
 omega
namespace M
theorem eq_eq {α:Type} {x:List α} {f:Int->Unit->Option (Sum Unit Unit)} (hf:∀i,0<=i->i<(x.length:Int)->f i ()=some (.inl ())) :
  cond (!decide ((x.length:Int)=(x.length:Int))) (some false) (bu (aO f (aP (0:Int) (x.length:Int)) ()) (fun _:Unit=>some true) (fun _:Unit=>some false))=some true:=by
 rw[decide_eq_true rfl,ki (fun _=>true) () (fun i hi=>by
  obtain⟨h0,h1⟩:=fH.1 hi
  exact hf i h0 h1)]
 have:(aP (0:Int) (x.length:Int)).all (fun _=>true)=true:=by simp
 rw[this]
 rfl
theorem lO {α:Type} {x:Option α}:ag True x=x:=ai trivial
end M
end Go.AE
end
section
namespace Go.AE
open Go Go.RowKit
set_option linter.unusedVariables false
namespace M
theorem Kc {t:Ty} {a:List t.D} {i:Int} {z:t.D} (h0:0<=i) (h1:i<(a.length:Int)):nth (t:=t) (a.set i.toNat z) i=z:=by
 have:i.toNat<a.length:=by omega
 unfold nth
 rw[List.getD_eq_getElem?_getD,List.getElem?_set_self this]
 rfl
end M
end Go.AE
end
