/- What the functions compute, in plain Lean. -/
import Derived.Test.YtjakcjmjlfdeoaaGreatAeX
section
namespace Go.AE
open Go Go.RowKit
abbrev aE:Ty:=.int .i64
abbrev aa:Ty:=.pair (.int .i64) (.pair (.int .i64) (.pair .str .unit))
abbrev ai:Ty:=.pair (.int .i64) (.pair .bool .unit)
abbrev aq:Ty:=.pair (.sl ai) (.pair (.sl (.sl aa)) .unit)
abbrev az:Ty:=.pair (.int .i64) (.pair (.int .i64) (.pair aa .unit))
abbrev Li:Ty:=.pair (.int .i64) (.pair (.int .i64) (.pair (.sl (.int .i64)) (.pair (.int .i64) (.pair (.sl (.int .i64)) (.pair .bool (.pair (.sl az) .unit))))))
abbrev ag:Ty:=.pair (.int .i64) (.pair (.int .i64) (.pair (.int .i64) (.pair (.int .i64) (.pair (.sl az) (.pair (.sl (.int .i64)) .unit)))))
abbrev aL:Ty:=.pair (.int .i64) (.pair (.sl az) .unit)
abbrev ck:Ty:=.pair (.int .i64) (.pair (.sl aa) (.pair .bool .unit))
abbrev LTb:Type:=List aq.D
abbrev LV:Type:=List aa.D
abbrev LS:Type:=List ag.D
abbrev LPt:Type:=List az.D
abbrev LC:Type:=List ai.D
abbrev LG:Type:=List aL.D
abbrev LLV:Type:=List (List aa.D)
abbrev LLC:Type:=List (List ai.D)
abbrev TTb:Ty:=.sl aq
abbrev TSS:Ty:=.sl ag
abbrev TCS:Ty:=.sl ai
abbrev TVS:Ty:=.sl aa
abbrev TPS:Ty:=.sl az
abbrev TGS:Ty:=.sl aL
namespace M
def inR (n a b:Int):Bool:=decide (a<=n)&&decide (n<=b)
theorem eU {n N:Int} (h:inR n 0 N=true):0<=n:=by unfold inR at h;simp at h;exact h.1
theorem kW {n N:Int} (h:inR n 0 N=true):n<=N:=by unfold inR at h;simp at h;exact h.2
def lower (l:List Int):Bool:=l.all fun n=>inR n 97 122
def text (s:ByteArray):Bool:=decide (s.size<=6)&&lower (bU s)
abbrev none_:ByteArray:=⟨#[]⟩
def aX (v:aa.D):Bool:=cond (decide (v.1=(0:Int))) (decide (v.2.1=(0:Int))&&decide (v.2.2.1=none_))
 (cond (decide (v.1=(1:Int))) (inR v.2.1 (-9999) 9999&&decide (v.2.2.1=none_))
 (cond (decide (v.1=(2:Int))) (decide (v.2.1=(0:Int))&&text v.2.2.1)
 (cond (decide (v.1=(3:Int))) (inR v.2.1 0 1&&decide (v.2.2.1=none_)) false)))
def eP (c:ai.D):Bool:=inR c.1 1 3
def bN (x:List ai.D):Bool:=decide (x.length<=4)&&x.all eP
def taken (row:List aa.D) (l:List Int):List aa.D:=l.map fun i=>nth (t:=aa) row i
def zE (row:List aa.D):Bool:=decide (row.length<=4)&&row.all aX
def idx {t:Ty} (p:t.D->Bool) (xs:List t.D):Int:=match xs.findIdx? p with
 | some k=>(k:Int)
 | none=>-1
def BD (row:List aa.D) (l:List Int):Prop:=∀i∈l,0<=i/\i<(row.length:Int)
theorem HW {B:Nat} {row:List aa.D} {l:List Int} (h:SmB B (.sl aa) row) (hl:SmB B (.sl (.int .i64)) l):SmB B (.sl aa) (taken row l):=by
 refine⟨by unfold taken;rw[List.length_map];exact hl.1,fun x hx=>?_⟩
 unfold taken at hx
 obtain⟨i,_,rfl⟩:=List.mem_map.1 hx
 exact aO h i
def fold (a b alone:Int):Int:=cond (inR a 0 2&&inR b 0 2) (cond (decide (a=alone)||decide (b=alone)) alone (cond (decide (a=2)||decide (b=2)) 2 (1-alone))) (-1)
def tr (a b:Int):Int:=fold a b 0
def GY (a b:Int):Int:=fold a b 1
def BI (a:Int):Int:=cond (decide (a=0)) 1 (cond (decide (a=1)) 0 (cond (decide (a=2)) 2 (-1)))
def bool (b:Bool):Int:=cond b 1 0
abbrev zeroV:aa.D:=((0:Int),(0:Int),none_,())
def valueOf (n:Int):aa.D:=cond (inR n 0 1) ((3:Int),n,none_,()) zeroV
def dj (v:aa.D):Int:=cond (aX v) (cond (decide (v.1=(0:Int))) 2 (cond (decide (v.1=(3:Int))) v.2.1 (-1))) (-1)
def less (a b:Int):Int:=cond (decide (a<b)) 1 0
def wA (a b:Int):Int:=cond (decide (a<b)) (-1) (cond (decide (b<a)) 1 0)
def Di (a b:ByteArray):Int:=cond (Op.bytesLess a.toList b.toList) (-1) (cond (!(Op.bytesLess a.toList b.toList||decide (a=b))) 1 0)
def orI:List Int->Int
 | []=>0
 | x::l=>cond (decide (x=0)) (orI l) x
def order (v w:aa.D):Int:=orI [wA v.1 w.1,wA v.2.1 w.2.1,Di v.2.2.1 w.2.2.1]
def El (kind c:Int):Bool:=cond (decide (kind=1)) (decide (c=0)) (cond (decide (kind=2)) (!decide (c=0)) (cond (decide (kind=3)) (decide (c<0)) (decide (c<=0))))
def compare (kind:Int) (a b:aa.D):Int:=cond (inR kind 1 4&&(aX a&&aX b)) (cond (decide (a.1=(0:Int))||decide (b.1=(0:Int))) 2 (cond (decide (a.1=b.1)) (bool (El kind (order a b))) (-1))) (-1)
def Dc (columns:List ai.D) (row:List aa.D) (k:Int):Bool:=decide ((nth (t:=aa) row k).1=(nth (t:=ai) columns k).1)||(decide ((nth (t:=aa) row k).1=(0:Int))&&(nth (t:=ai) columns k).2.1)
def dS (columns:List ai.D) (row:List aa.D):Bool:=bN columns&&(zE row&&(decide (row.length=columns.length)&&(aN 0 (row.length:Int)).all (Dc columns row)))
def kR (columns:List ai.D) (rows:List (List aa.D)):Bool:=bN columns&&rows.all (dS columns)
def dU (t:aq.D):Bool:=decide (t.2.1.length<=6)&&kR t.1 t.2.1
def cm (ts:List aq.D):Bool:=decide (ts.length<=3)&&ts.all dU
def takes (p:az.D):Int:=cond (decide (p.1=(3:Int))||decide (p.1=(4:Int))||decide (p.1=(5:Int))||decide (p.1=(6:Int))) 2 (cond (decide (p.1=(7:Int))||decide (p.1=(8:Int))) 1 0)
def noV (p:az.D):Bool:=Ty.beq aa p.2.2.1 zeroV
def mb (p:az.D) (columns:List ai.D):Bool:=
 cond (decide (p.1=(1:Int))) (decide (p.2.1=(0:Int))&&(aX p.2.2.1&&!decide (p.2.2.1.1=(0:Int))))
 (cond (decide (p.1=(2:Int))) (inR p.2.1 0 ((columns.length:Int)-1)&&noV p)
 (cond (decide (p.1=(4:Int))) (inR p.2.1 1 4&&noV p)
 (cond (inR p.1 3 8) (decide (p.2.1=(0:Int))&&noV p) false)))
def cZ (p:az.D) (columns:List ai.D) (l:List Int):Int×Bool:=
 cond (decide (p.1=(1:Int))) (p.2.2.1.1,true)
 (cond (decide (p.1=(2:Int))) ((nth (t:=ai) columns p.2.1).1,true)
 (cond (decide (p.1=(3:Int))) (1,l.all fun k=>decide (k=1))
 (cond (decide (p.1=(4:Int))) (3,decide (nth (t:=.int .i64) l 0=nth (t:=.int .i64) l 1))
 (cond (decide (p.1=(8:Int))) (3,true) (3,l.all fun k=>decide (k=3))))))
def fF (columns:List ai.D) (st:List Int) (p:az.D):Option (List Int):=
 cond (mb p columns&&(decide (takes p<=(st.length:Int))&&(cZ p columns (st.drop (st.length-(takes p).toNat))).2)) (some (st.take (st.length-(takes p).toNat)++[(cZ p columns (st.drop (st.length-(takes p).toNat))).1])) none
def iJ (columns:List ai.D):List az.D->List Int->Option (List Int)
 | [],st=>some st
 | p::e,st=>match fF columns st p with
  | some st'=>iJ columns e st'
  | none=>none
def oneOf:Option (List Int)->Int
 | some [k]=>k
 | _=>-1
def bp (columns:List ai.D) (e:List az.D):Int:=cond (bN columns&&decide (e.length<=12)) (oneOf (iJ columns e [])) (-1)
def sum (a b:aa.D):aa.D:=cond (decide (a.1=(0:Int))||decide (b.1=(0:Int))||!inR (wrap64 (a.2.1+b.2.1)) (-9999) 9999) zeroV ((1:Int),wrap64 (a.2.1+b.2.1),none_,())
def fu (p:az.D) (row:List aa.D) (l:List aa.D):aa.D:=
 cond (decide (p.1=(1:Int))) p.2.2.1
 (cond (decide (p.1=(2:Int))) (nth (t:=aa) row p.2.1)
 (cond (decide (p.1=(3:Int))) (sum (nth (t:=aa) l 0) (nth (t:=aa) l 1))
 (cond (decide (p.1=(4:Int))) (valueOf (compare p.2.1 (nth (t:=aa) l 0) (nth (t:=aa) l 1)))
 (cond (decide (p.1=(5:Int))) (valueOf (tr (dj (nth (t:=aa) l 0)) (dj (nth (t:=aa) l 1))))
 (cond (decide (p.1=(6:Int))) (valueOf (GY (dj (nth (t:=aa) l 0)) (dj (nth (t:=aa) l 1))))
 (cond (decide (p.1=(7:Int))) (valueOf (BI (dj (nth (t:=aa) l 0))))
 (valueOf (bool (decide ((nth (t:=aa) l 0).1=(0:Int)))))))))))
def cG (row:List aa.D) (st:List aa.D) (p:az.D):List aa.D:=st.take (st.length-(takes p).toNat)++[fu p row (st.drop (st.length-(takes p).toNat))]
def dM (row:List aa.D) (e:List az.D):aa.D:=nth (t:=aa) (e.foldl (cG row) []) 0
def xl (p:az.D) (w:Nat):Prop:=p.1=(2:Int)->0<=p.2.1/\p.2.1<(w:Int)
def sC (w:Nat):List az.D->Nat->Prop
 | [],d=>0<d
 | p::e,d=>takes p<=(d:Int)/\(1<=p.1/\p.1<=8)/\xl p w/\sC w e (d-(takes p).toNat+1)
def gy (w:Nat) (e:List az.D):Prop:=e.length<=12/\sC w e 0
end M
theorem eU {n N:Int} (h:M.inR n 0 N=true):0<=n:=M.eU h
theorem lH {n:Int} {N:Nat} (h:M.inR n 0 (wrap64 ((N:Int)-1))=true):n<(N:Int):=by
 have h1:=M.eU h
 have h2:=M.kW h
 have:wrap64 ((N:Int)-1)<=(N:Int)-1:=by unfold wrap64;omega
 omega
end Go.AE
end
section
namespace Go.AE
open Go Go.RowKit
@[simp] theorem bz {α β:Type} (x:α) (f:α->β):aH x f=f x:=rfl
@[simp] theorem KO {σ ε:Type} (s:σ) (g:σ->ε):Cg (some (.inl s)) g=some (g s):=rfl
@[simp] theorem KL {σ ε:Type} (e:ε) (g:σ->ε):Cg (some (.inr e)) g=some e:=rfl
@[simp] theorem KM {σ ε ρ:Type} (s:σ) (g:σ->ε):Kl (ρ:=ρ) (some (.inl s)) g=some (.inl (g s)):=rfl
@[simp] theorem KK {σ ε ρ:Type} (r:Sum ε ρ) (g:σ->ε):Kl (some (.inr r)) g=some r:=rfl
@[simp] theorem KN {α σ ρ:Type} (f:α->σ->Option (Sum σ ρ)) (s:σ):aQ f [] s=some (.inl s):=rfl
theorem bH {α σ ρ:Type} (f:α->σ->Option (Sum σ ρ)) (x:α) (xs:List α) (s:σ):aQ f (x::xs) s=bD (f x s) (fun s'=>aQ f xs s') (fun r=>some (.inr r)):=rfl
theorem eZ {a n i:Int}:i∈aN a n ↔ a<=i/\i<n:=by
 unfold aN
 simp only[List.mem_map,List.mem_range]
 constructor
 ·rintro ⟨k,hk,rfl⟩
  omega
 ·rintro ⟨h1,h2⟩
  exact⟨(i-a).toNat,by omega,by omega⟩
def jo {α β:Type} (p:α->Option β):List α->Option β
 | []=>none
 | x::xs=>match p x with
  | some y=>some y
  | none=>jo p xs
theorem zp {α ρ:Type} {f:α->Unit->Option (Sum Unit ρ)} (p:α->Option ρ):∀{xs:List α} (_:∀x∈xs,f x ()=some (match p x with | some r=>.inr r | none=>.inl ())),
  aQ f xs ()=some (match jo p xs with | some r=>.inr r | none=>.inl ())
 | [],_=>rfl
 | x::xs,h=>by
  rw[bH,h x (List.mem_cons_self ..),jo]
  cases hp:p x with
  | some r=>rfl
  | none=>exact zp p (fun y hy=>h y (List.mem_cons_of_mem _ hy))
theorem Ea {α ρ:Type} {f:α->Unit->Option (Sum Unit ρ)} (p:α->Bool) (r:ρ):∀{xs:List α} (_:∀x∈xs,f x ()=some (cond (p x) (.inr r) (.inl ()))),
  aQ f xs ()=some (cond (xs.any p) (.inr r) (.inl ()))
 | [],_=>rfl
 | x::xs,h=>by
  rw[bH,h x (List.mem_cons_self ..),List.any_cons]
  cases hp:p x with
  | true=>rfl
  | false=>exact Ea p r (fun y hy=>h y (List.mem_cons_of_mem _ hy))
theorem DK {α ρ:Type} {f:α->Unit->Option (Sum Unit ρ)} (p:α->Bool) (r:ρ) {xs:List α} (h:∀x∈xs,f x ()=some (cond (p x) (.inl ()) (.inr r))) :
  aQ f xs ()=some (cond (xs.all p) (.inl ()) (.inr r)):=by
 rw[Ea (fun x=>!p x) r (fun x hx=>by rw[h x hx];cases p x<;>rfl)]
 rw[List.all_eq_not_any_not]
 cases xs.any fun x=>!p x<;>rfl
theorem By {α σ ρ:Type} {f:α->σ->Option (Sum σ ρ)} (g:σ->α->σ) (I:σ->Prop):∀{xs:List α} {s:σ} (_:I s) (_:∀x∈xs,∀s,I s->f x s=some (.inl (g s x))/\I (g s x)),
  aQ f xs s=some (.inl (xs.foldl g s))/\I (xs.foldl g s)
 | [],s,h0,_=>⟨rfl,h0⟩
 | x::xs,s,h0,h=>by
  obtain⟨h1,h2⟩:=h x (List.mem_cons_self ..) s h0
  rw[bH,h1]
  exact By g I h2 (fun y hy=>h y (List.mem_cons_of_mem _ hy))
theorem foldl_append {α β:Type} (g:α->β):∀(xs:List α) (s:List β),xs.foldl (fun s x=>s++[g x]) s=s++xs.map g
 | [],s=>by simp
 | x::xs,s=>by rw[List.foldl_cons,foldl_append g xs];simp
theorem Ag {α β ρ:Type} {f:α->List β->Option (Sum (List β) ρ)} (g:α->β) {xs:List α} (h:∀x∈xs,∀s:List β,s.length<xs.length->f x s=some (.inl (s++[g x]))) :
  aQ f xs []=some (.inl (xs.map g)):=by
 have key:∀(ys zs:List α) (s:List β),xs=zs++ys->s.length=zs.length->aQ f ys s=some (.inl (s++ys.map g)):=by
  intro ys
  induction ys with
  | nil=>intro zs s _ _;simp
  | cons y ys ih=>
   intro zs s e hs
   rw[bH,h y (by rw[e];simp) s (by rw[e,hs];simp)]
   rw[bq,ih (zs++[y]) (s++[g y]) (by rw[e];simp) (by simp[hs])]
   simp
 have:=key xs [] [] rfl rfl
 simpa using this
theorem jH {t:Ty} {xs:List t.D} {i:Int} (h0:0<=i) (h1:i<(xs.length:Int)):nth xs i=xs[i.toNat]'(by omega):=by
 unfold nth
 rw[List.getD_eq_getElem?_getD,List.getElem?_eq_getElem (by omega)]
 rfl
theorem vM {t:Ty} (x:t.D) (xs:List t.D):nth (t:=t) (x::xs) 0=x:=rfl
theorem uW {t:Ty} (x:t.D) (xs:List t.D) {i:Int} (h:0<=i):nth (t:=t) (x::xs) (i+1)=nth (t:=t) xs i:=by
 have e:(i+1).toNat=i.toNat+1:=by omega
 unfold nth
 rw[e,List.getD_cons_succ]
theorem EM (n:Nat):aN 0 ((n:Int)+1)=0::(aN 0 n).map (fun i=>i+1):=by
 rw[ep (by omega)]
 congr 1
 unfold aN
 have e1:((n:Int)+1-(0+1)).toNat=n:=by omega
 have e2:((n:Int)-0).toNat=n:=by omega
 rw[e1,e2,List.map_map]
 apply List.map_congr_left
 intro k _
 simp
 omega
theorem ld {t:Ty}:∀(xs:List t.D),(aN 0 (xs.length:Int)).map (fun i=>nth xs i)=xs
 | []=>by rw[cD (by simp)];rfl
 | x::xs=>by
  have e:((x::xs).length:Int)=(xs.length:Int)+1:=by simp
  rw[e,EM,List.map_cons,List.map_map,vM]
  congr 1
  refine(List.map_congr_left (g:=fun i=>nth xs i) ?_).trans (ld xs)
  intro i hi
  exact uW x xs (eZ.1 hi).1
theorem EU {t:Ty} {p:t.D->Bool} {xs:List t.D}:decide ((0:Int)<=M.idx (t:=t) p xs)=xs.any p:=by
 unfold M.idx
 split
 ·rename_i k h
  obtain⟨h1,h2,_⟩:=List.findIdx?_eq_some_iff_getElem.1 h
  rw[decide_eq_true (by omega)]
  exact(List.any_eq_true.2 ⟨_,List.getElem_mem h1,h2⟩).symm
 ·rename_i h
  rw[decide_eq_false (by omega)]
  rw[List.findIdx?_eq_none_iff] at h
  symm
  rw[List.any_eq_false]
  intro x hx
  simp[h x hx]
theorem sk {t:Ty} (p:t.D->Bool):∀(xs:List t.D) (a:Int) (f:Int->Unit->Option (Sum Unit Int)) (_:∀i,0<=i->i<(xs.length:Int)->f (a+i) ()=some (cond (p (nth xs i)) (.inr (a+i)) (.inl ()))),
  aQ f (aN a (a+(xs.length:Int))) ()=some (match xs.findIdx? p with | some k=>.inr (a+(k:Int)) | none=>.inl ())
 | [],a,f,_=>by rw[cD (by simp)];rfl
 | x::xs,a,f,h=>by
  have e:((x::xs).length:Int)=(xs.length:Int)+1:=by simp
  have h0:=h 0 (Int.le_refl _) (by rw[e];omega)
  rw[Int.add_zero,vM] at h0
  rw[ep (by rw[e];omega),bH,h0,List.findIdx?_cons]
  cases hp:p x with
  | true=>simp
  | false=>
   simp only[cond_false,bq]
   have ih:=sk p xs (a+1) f (fun i i0 i1=>by
    have:=h (i+1) (by omega) (by rw[e];omega)
    rw[uW x xs i0] at this
    rw[show a+1+i=a+(i+1) by omega]
    exact this)
   rw[show a+((x::xs).length:Int)=a+1+(xs.length:Int) by rw[e];omega,ih]
   cases List.findIdx? p xs with
   | none=>rfl
   | some k=>simp;omega
theorem kf {t:Ty} {p:t.D->Bool} {xs:List t.D} {f:Int->Unit->Option (Sum Unit Int)} (h:∀i,0<=i->i<(xs.length:Int)->f i ()=some (cond (p (nth xs i)) (.inr i) (.inl ()))) :
  bD (aQ f (aN 0 (xs.length:Int)) ()) (fun _:Unit=>some (-1:Int)) (fun q:Int=>some q)=some (M.idx p xs):=by
 have:=sk p xs 0 f (fun i h0 h1=>by rw[Int.zero_add];exact h i h0 h1)
 rw[Int.zero_add] at this
 rw[this]
 unfold M.idx
 cases List.findIdx? p xs with
 | none=>rfl
 | some k=>simp
theorem gv {t:Ty} {p:t.D->Bool} {xs:List t.D}:some (decide ((0:Int)<=M.idx (t:=t) p xs))=some (xs.any p):=by rw[EU]
theorem Je {t:Ty} [DecidableEq t.D] {xs ys:List t.D} {f:Int->Unit->Option (Sum Unit Unit)} (h:∀i,0<=i->i<(xs.length:Int)->i<(ys.length:Int)->f i ()=some (cond (decide (nth xs i=nth ys i)) (.inl ()) (.inr ()))) :
  cond (!decide ((xs.length:Int)=(ys.length:Int))) (some false) (bD (aQ f (aN 0 (xs.length:Int)) ()) (fun _:Unit=>some true) (fun _:Unit=>some false))=some (decide (xs=ys)):=by
 by_cases hl:xs.length=ys.length
 ·rw[decide_eq_true (by omega:(xs.length:Int)=(ys.length:Int))]
  simp only[Bool.not_true,cond_false]
  rw[DK (fun i=>decide (nth xs i=nth ys i)) () (fun i hi=>by
   obtain⟨h0,h1⟩:=eZ.1 hi
   exact h i h0 h1 (by omega))]
  have e:(aN 0 (xs.length:Int)).all (fun i=>decide (nth xs i=nth ys i))=decide (xs=ys):=by
   by_cases he:xs=ys
   ·rw[decide_eq_true he,List.all_eq_true]
    intro i _
    rw[he]
    simp
   ·rw[decide_eq_false he,List.all_eq_false]
    refine Classical.byContradiction fun hn=>he ?_
    rw[<-ld xs,<-ld ys,hl]
    apply List.map_congr_left
    intro i hi
    refine Classical.byContradiction fun hne=>hn ⟨i,by rw[hl];exact hi,?_⟩
    simpa using hne
  rw[e]
  cases decide (xs=ys)<;>rfl
 ·rw[decide_eq_false (by omega:¬(xs.length:Int)=(ys.length:Int)),decide_eq_false (fun e=>hl (by rw[e]))]
  rfl
theorem dx {α:Type} {b:Bool} {x y:α}:cond b (some x) (some y)=some (cond b x y):=by cases b<;>rfl
theorem sw {α:Type} {b:Bool} {x y:α}:cond (!b) x y=cond b y x:=by cases b<;>rfl
theorem beq_iff:∀{t:Ty} (_:t.flat=true) (x y:t.D),Ty.beq t x y=true ↔ x=y
 | .int _,_,x,y=>by simp only[Ty.beq,decide_eq_true_eq]
 | .bool,_,x,y=>by simp only[Ty.beq,beq_iff_eq]
 | .str,_,x,y=>by simp only[Ty.beq,decide_eq_true_eq]
 | .unit,_,x,y=>by simp only[Ty.beq]
 | .sl _,h,_,_=>by cases h
 | .pair a b,h,x,y=>by
  simp only[Ty.flat,Bool.and_eq_true] at h
  simp only[Ty.beq,Bool.and_eq_true,beq_iff h.1,beq_iff h.2]
  constructor
  ·rintro ⟨h1,h2⟩
   exact Prod.ext h1 h2
  ·rintro rfl
   exact⟨rfl,rfl⟩
theorem JP {t:Ty} (h:t.flat=true) [DecidableEq t.D] (x y:t.D):Ty.beq t x y=decide (x=y):=by
 cases hb:Ty.beq t x y with
 | true=>exact(decide_eq_true ((beq_iff h x y).1 hb)).symm
 | false=>exact(decide_eq_false (fun e=>by rw[(beq_iff h x y).2 e] at hb;cases hb)).symm
theorem fQ (n:Nat) (h:n<=1048576):wrap64 ((n:Int)-1)=(n:Int)-1:=aI (by omega) (by omega)
theorem pz {α ρ τ:Type} {f:α->Unit->Option (Sum Unit ρ)} (p:α->Bool) (r:ρ) {xs:List α} (h:∀x∈xs,f x ()=some (cond (p x) (.inl ()) (.inr r))) {A:Unit->Option τ} {B:ρ->Option τ} :
  bD (aQ f xs ()) A B=cond (xs.all p) (A ()) (B r):=by
 rw[DK p r h]
 cases xs.all p<;>rfl
theorem EZ {α ρ τ:Type} {f:α->Unit->Option (Sum Unit ρ)} (p:α->Option ρ) {xs:List α} (h:∀x∈xs,f x ()=some (match p x with | some r=>.inr r | none=>.inl ())) {A:Unit->Option τ} {B:ρ->Option τ} :
  bD (aQ f xs ()) A B=match jo p xs with | some r=>B r | none=>A ():=by
 rw[zp p h]
 cases jo p xs<;>rfl
theorem kM {a b:Bool}:cond (a==true) (some b) (some false)=some (a&&b):=by cases a<;>rfl
theorem Cr {s:ByteArray} {i:Int} (h0:0<=i) (h1:i<(s.size:Int)):((s.get! i.toNat).toNat:Int)=nth (t:=.int .u8) (bU s) i:=by
 have hl:=lX s
 have hlt:i.toNat<(bU s).length:=by omega
 have hd:i.toNat<s.data.size:=by
  have:i.toNat<s.size:=by omega
  exact this
 unfold nth
 rw[List.getD_eq_getElem?_getD,List.getElem?_eq_getElem hlt]
 simp only[bU,List.getElem_map,Option.getD_some]
 have:s.get! i.toNat=s.data[i.toNat]:=by
  cases s with
  | mk d=>exact getElem!_pos d i.toNat hd
 rw[this]
 simp
theorem Ht {t:Ty} (xs:List t.D) (p:t.D->Bool):(aN 0 (xs.length:Int)).all (fun i=>p (nth xs i))=xs.all p:=by
 conv=>rhs;rw[<-ld xs]
 rw[List.all_map]
 rfl
theorem Jo {s:ByteArray} {n:Int} (h:n∈bU s):0<=n/\n<=255:=by
 simp only[bU,List.mem_map] at h
 obtain⟨b,_,rfl⟩:=h
 have:=b.toNat_lt
 omega
namespace M
theorem eq_eq {α:Type} {x:List α} {f:Int->Unit->Option (Sum Unit Unit)} (hf:∀i,0<=i->i<(x.length:Int)->f i ()=some (.inl ())) :
  cond (!decide ((x.length:Int)=(x.length:Int))) (some false) (bD (aQ f (aN (0:Int) (x.length:Int)) ()) (fun _:Unit=>some true) (fun _:Unit=>some false))=some true:=by
 rw[decide_eq_true rfl,pz (fun _=>true) () (fun i hi=>by
  obtain⟨h0,h1⟩:=eZ.1 hi
  exact hf i h0 h1)]
 have:(aN (0:Int) (x.length:Int)).all (fun _=>true)=true:=by simp
 rw[this]
 rfl
theorem xy {α:Type} {x:Option α}:af True x=x:=aj trivial
end M
end Go.AE
end
section
namespace Go.AE
open Go Go.RowKit
set_option linter.unusedVariables false
namespace M
theorem CB {t:Ty} {a:List t.D} {i:Int} {z:t.D} (h0:0<=i) (h1:i<(a.length:Int)):nth (t:=t) (a.set i.toNat z) i=z:=by
 have:i.toNat<a.length:=by omega
 unfold nth
 rw[List.getD_eq_getElem?_getD,List.getElem?_set_self this]
 rfl
end M
end Go.AE
end
