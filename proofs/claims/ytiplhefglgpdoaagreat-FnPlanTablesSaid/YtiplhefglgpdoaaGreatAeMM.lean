/- What the functions compute, in plain Lean. -/
import Derived.Test.YtiplhefglgpdoaaGreatAeX
section
namespace Go.AE
open Go Go.RowKit
abbrev ay:Ty:=.int .i64
abbrev aa:Ty:=.pair (.int .i64) (.pair (.int .i64) (.pair .str .unit))
abbrev ag:Ty:=.pair (.int .i64) (.pair .bool .unit)
abbrev aq:Ty:=.pair (.sl ag) (.pair (.sl (.sl aa)) .unit)
abbrev aE:Ty:=.pair (.int .i64) (.pair (.int .i64) (.pair aa .unit))
abbrev Jp:Ty:=.pair (.int .i64) (.pair (.int .i64) (.pair (.sl (.int .i64)) (.pair (.int .i64) (.pair (.sl (.int .i64)) (.pair .bool (.pair (.sl aE) .unit))))))
abbrev aj:Ty:=.pair (.int .i64) (.pair (.int .i64) (.pair (.int .i64) (.pair (.int .i64) (.pair (.sl aE) (.pair (.sl (.int .i64)) .unit)))))
abbrev kM:Ty:=.pair (.int .i64) (.pair (.sl aE) .unit)
abbrev Ji:Ty:=.pair (.int .i64) (.pair (.sl aa) (.pair .bool .unit))
abbrev LTb:Type:=List aq.D
abbrev LV:Type:=List aa.D
abbrev LS:Type:=List aj.D
abbrev LPt:Type:=List aE.D
abbrev LC:Type:=List ag.D
abbrev LLV:Type:=List (List aa.D)
abbrev LLC:Type:=List (List ag.D)
abbrev TTb:Ty:=.sl aq
abbrev TSS:Ty:=.sl aj
abbrev TCS:Ty:=.sl ag
abbrev TVS:Ty:=.sl aa
abbrev TPS:Ty:=.sl aE
abbrev TGS:Ty:=.sl kM
namespace M
def inR (n a b:Int):Bool:=decide (a<=n)&&decide (n<=b)
theorem fY {n N:Int} (h:inR n 0 N=true):0<=n:=by unfold inR at h;simp at h;exact h.1
theorem rC {n N:Int} (h:inR n 0 N=true):n<=N:=by unfold inR at h;simp at h;exact h.2
def lower (l:List Int):Bool:=l.all fun n=>inR n 97 122
def text (s:ByteArray):Bool:=decide (s.size<=6)&&lower (bM s)
abbrev none_:ByteArray:=⟨#[]⟩
def aP (v:aa.D):Bool:=cond (decide (v.1=(0:Int))) (decide (v.2.1=(0:Int))&&decide (v.2.2.1=none_))
 (cond (decide (v.1=(1:Int))) (inR v.2.1 (-9999) 9999&&decide (v.2.2.1=none_))
 (cond (decide (v.1=(2:Int))) (decide (v.2.1=(0:Int))&&text v.2.2.1)
 (cond (decide (v.1=(3:Int))) (inR v.2.1 0 1&&decide (v.2.2.1=none_)) false)))
def dW (c:ag.D):Bool:=inR c.1 1 3
def bA (x:List ag.D):Bool:=decide (x.length<=4)&&x.all dW
def taken (row:List aa.D) (l:List Int):List aa.D:=l.map fun i=>nth (t:=aa) row i
def nY (row:List aa.D):Bool:=decide (row.length<=4)&&row.all aP
def idx {t:Ty} (p:t.D->Bool) (xs:List t.D):Int:=match xs.findIdx? p with
 | some k=>(k:Int)
 | none=>-1
def Av (row:List aa.D) (l:List Int):Prop:=∀i∈l,0<=i/\i<(row.length:Int)
theorem GN {B:Nat} {row:List aa.D} {l:List Int} (h:SmB B (.sl aa) row) (hl:SmB B (.sl (.int .i64)) l):SmB B (.sl aa) (taken row l):=by
 refine⟨by unfold taken;rw[List.length_map];exact hl.1,fun x hx=>?_⟩
 unfold taken at hx
 obtain⟨i,_,rfl⟩:=List.mem_map.1 hx
 exact aU h i
def fold (a b alone:Int):Int:=cond (inR a 0 2&&inR b 0 2) (cond (decide (a=alone)||decide (b=alone)) alone (cond (decide (a=2)||decide (b=2)) 2 (1-alone))) (-1)
def AO (a b:Int):Int:=fold a b 0
def FO (a b:Int):Int:=fold a b 1
def Aq (a:Int):Int:=cond (decide (a=0)) 1 (cond (decide (a=1)) 0 (cond (decide (a=2)) 2 (-1)))
def bool (b:Bool):Int:=cond b 1 0
abbrev zeroV:aa.D:=((0:Int),(0:Int),none_,())
def valueOf (n:Int):aa.D:=cond (inR n 0 1) ((3:Int),n,none_,()) zeroV
def eG (v:aa.D):Int:=cond (aP v) (cond (decide (v.1=(0:Int))) 2 (cond (decide (v.1=(3:Int))) v.2.1 (-1))) (-1)
def less (a b:Int):Int:=cond (decide (a<b)) 1 0
def uM (a b:Int):Int:=cond (decide (a<b)) (-1) (cond (decide (b<a)) 1 0)
def Cp (a b:ByteArray):Int:=cond (Op.bytesLess a.toList b.toList) (-1) (cond (!(Op.bytesLess a.toList b.toList||decide (a=b))) 1 0)
def orI:List Int->Int
 | []=>0
 | x::l=>cond (decide (x=0)) (orI l) x
def order (v w:aa.D):Int:=orI [uM v.1 w.1,uM v.2.1 w.2.1,Cp v.2.2.1 w.2.2.1]
def Dq (kind c:Int):Bool:=cond (decide (kind=1)) (decide (c=0)) (cond (decide (kind=2)) (!decide (c=0)) (cond (decide (kind=3)) (decide (c<0)) (decide (c<=0))))
def compare (kind:Int) (a b:aa.D):Int:=cond (inR kind 1 4&&(aP a&&aP b)) (cond (decide (a.1=(0:Int))||decide (b.1=(0:Int))) 2 (cond (decide (a.1=b.1)) (bool (Dq kind (order a b))) (-1))) (-1)
def sM (columns:List ag.D) (row:List aa.D) (k:Int):Bool:=decide ((nth (t:=aa) row k).1=(nth (t:=ag) columns k).1)||(decide ((nth (t:=aa) row k).1=(0:Int))&&(nth (t:=ag) columns k).2.1)
def cq (columns:List ag.D) (row:List aa.D):Bool:=bA columns&&(nY row&&(decide (row.length=columns.length)&&(aM 0 (row.length:Int)).all (sM columns row)))
def fX (columns:List ag.D) (rows:List (List aa.D)):Bool:=bA columns&&rows.all (cq columns)
def cW (t:aq.D):Bool:=decide (t.2.1.length<=6)&&fX t.1 t.2.1
def ck (ts:List aq.D):Bool:=decide (ts.length<=3)&&ts.all cW
def takes (p:aE.D):Int:=cond (decide (p.1=(3:Int))||decide (p.1=(4:Int))||decide (p.1=(5:Int))||decide (p.1=(6:Int))) 2 (cond (decide (p.1=(7:Int))||decide (p.1=(8:Int))) 1 0)
def noV (p:aE.D):Bool:=Ty.beq aa p.2.2.1 zeroV
def kZ (p:aE.D) (columns:List ag.D):Bool:=
 cond (decide (p.1=(1:Int))) (decide (p.2.1=(0:Int))&&(aP p.2.2.1&&!decide (p.2.2.1.1=(0:Int))))
 (cond (decide (p.1=(2:Int))) (inR p.2.1 0 ((columns.length:Int)-1)&&noV p)
 (cond (decide (p.1=(4:Int))) (inR p.2.1 1 4&&noV p)
 (cond (inR p.1 3 8) (decide (p.2.1=(0:Int))&&noV p) false)))
def cH (p:aE.D) (columns:List ag.D) (l:List Int):Int×Bool:=
 cond (decide (p.1=(1:Int))) (p.2.2.1.1,true)
 (cond (decide (p.1=(2:Int))) ((nth (t:=ag) columns p.2.1).1,true)
 (cond (decide (p.1=(3:Int))) (1,l.all fun k=>decide (k=1))
 (cond (decide (p.1=(4:Int))) (3,decide (nth (t:=.int .i64) l 0=nth (t:=.int .i64) l 1))
 (cond (decide (p.1=(8:Int))) (3,true) (3,l.all fun k=>decide (k=3))))))
def fk (columns:List ag.D) (st:List Int) (p:aE.D):Option (List Int):=
 cond (kZ p columns&&(decide (takes p<=(st.length:Int))&&(cH p columns (st.drop (st.length-(takes p).toNat))).2)) (some (st.take (st.length-(takes p).toNat)++[(cH p columns (st.drop (st.length-(takes p).toNat))).1])) none
def jq (columns:List ag.D):List aE.D->List Int->Option (List Int)
 | [],st=>some st
 | p::e,st=>match fk columns st p with
  | some st'=>jq columns e st'
  | none=>none
def oneOf:Option (List Int)->Int
 | some [k]=>k
 | _=>-1
def cT (columns:List ag.D) (e:List aE.D):Int:=cond (bA columns&&decide (e.length<=12)) (oneOf (jq columns e [])) (-1)
def sum (a b:aa.D):aa.D:=cond (decide (a.1=(0:Int))||decide (b.1=(0:Int))||!inR (wrap64 (a.2.1+b.2.1)) (-9999) 9999) zeroV ((1:Int),wrap64 (a.2.1+b.2.1),none_,())
def iP (p:aE.D) (row:List aa.D) (l:List aa.D):aa.D:=
 cond (decide (p.1=(1:Int))) p.2.2.1
 (cond (decide (p.1=(2:Int))) (nth (t:=aa) row p.2.1)
 (cond (decide (p.1=(3:Int))) (sum (nth (t:=aa) l 0) (nth (t:=aa) l 1))
 (cond (decide (p.1=(4:Int))) (valueOf (compare p.2.1 (nth (t:=aa) l 0) (nth (t:=aa) l 1)))
 (cond (decide (p.1=(5:Int))) (valueOf (AO (eG (nth (t:=aa) l 0)) (eG (nth (t:=aa) l 1))))
 (cond (decide (p.1=(6:Int))) (valueOf (FO (eG (nth (t:=aa) l 0)) (eG (nth (t:=aa) l 1))))
 (cond (decide (p.1=(7:Int))) (valueOf (Aq (eG (nth (t:=aa) l 0))))
 (valueOf (bool (decide ((nth (t:=aa) l 0).1=(0:Int)))))))))))
def jO (row:List aa.D) (st:List aa.D) (p:aE.D):List aa.D:=st.take (st.length-(takes p).toNat)++[iP p row (st.drop (st.length-(takes p).toNat))]
def lN (row:List aa.D) (e:List aE.D):aa.D:=nth (t:=aa) (e.foldl (jO row) []) 0
def vO (p:aE.D) (w:Nat):Prop:=p.1=(2:Int)->0<=p.2.1/\p.2.1<(w:Int)
def xC (w:Nat):List aE.D->Nat->Prop
 | [],d=>0<d
 | p::e,d=>takes p<=(d:Int)/\(1<=p.1/\p.1<=8)/\vO p w/\xC w e (d-(takes p).toNat+1)
def fS (w:Nat) (e:List aE.D):Prop:=e.length<=12/\xC w e 0
end M
theorem fY {n N:Int} (h:M.inR n 0 N=true):0<=n:=M.fY h
theorem nq {n:Int} {N:Nat} (h:M.inR n 0 (wrap64 ((N:Int)-1))=true):n<(N:Int):=by
 have h1:=M.fY h
 have h2:=M.rC h
 have:wrap64 ((N:Int)-1)<=(N:Int)-1:=by unfold wrap64;omega
 omega
end Go.AE
end
section
namespace Go.AE
open Go Go.RowKit
@[simp] theorem bH {α β:Type} (x:α) (f:α->β):aJ x f=f x:=rfl
@[simp] theorem IT {σ ε:Type} (s:σ) (g:σ->ε):Ip (some (.inl s)) g=some (g s):=rfl
@[simp] theorem IP {σ ε:Type} (e:ε) (g:σ->ε):Ip (some (.inr e)) g=some e:=rfl
@[simp] theorem IQ {σ ε ρ:Type} (s:σ) (g:σ->ε):It (ρ:=ρ) (some (.inl s)) g=some (.inl (g s)):=rfl
@[simp] theorem IS {σ ε ρ:Type} (r:Sum ε ρ) (g:σ->ε):It (some (.inr r)) g=some r:=rfl
@[simp] theorem IU {α σ ρ:Type} (f:α->σ->Option (Sum σ ρ)) (s:σ):aL f [] s=some (.inl s):=rfl
theorem bw {α σ ρ:Type} (f:α->σ->Option (Sum σ ρ)) (x:α) (xs:List α) (s:σ):aL f (x::xs) s=bu (f x s) (fun s'=>aL f xs s') (fun r=>some (.inr r)):=rfl
theorem dV {a n i:Int}:i∈aM a n ↔ a<=i/\i<n:=by
 unfold aM
 simp only[List.mem_map,List.mem_range]
 constructor
 ·rintro ⟨k,hk,rfl⟩
  omega
 ·rintro ⟨h1,h2⟩
  exact⟨(i-a).toNat,by omega,by omega⟩
theorem CY {α ρ:Type} {f:α->Unit->Option (Sum Unit ρ)} (p:α->Bool) (r:ρ):∀{xs:List α} (_:∀x∈xs,f x ()=some (cond (p x) (.inr r) (.inl ()))),
  aL f xs ()=some (cond (xs.any p) (.inr r) (.inl ()))
 | [],_=>rfl
 | x::xs,h=>by
  rw[bw,h x (List.mem_cons_self ..),List.any_cons]
  cases hp:p x with
  | true=>rfl
  | false=>exact CY p r (fun y hy=>h y (List.mem_cons_of_mem _ hy))
theorem CJ {α ρ:Type} {f:α->Unit->Option (Sum Unit ρ)} (p:α->Bool) (r:ρ) {xs:List α} (h:∀x∈xs,f x ()=some (cond (p x) (.inl ()) (.inr r))) :
  aL f xs ()=some (cond (xs.all p) (.inl ()) (.inr r)):=by
 rw[CY (fun x=>!p x) r (fun x hx=>by rw[h x hx];cases p x<;>rfl)]
 rw[List.all_eq_not_any_not]
 cases xs.any fun x=>!p x<;>rfl
theorem Ai {α σ ρ:Type} {f:α->σ->Option (Sum σ ρ)} (g:σ->α->σ) (I:σ->Prop):∀{xs:List α} {s:σ} (_:I s) (_:∀x∈xs,∀s,I s->f x s=some (.inl (g s x))/\I (g s x)),
  aL f xs s=some (.inl (xs.foldl g s))/\I (xs.foldl g s)
 | [],s,h0,_=>⟨rfl,h0⟩
 | x::xs,s,h0,h=>by
  obtain⟨h1,h2⟩:=h x (List.mem_cons_self ..) s h0
  rw[bw,h1]
  exact Ai g I h2 (fun y hy=>h y (List.mem_cons_of_mem _ hy))
theorem foldl_append {α β:Type} (g:α->β):∀(xs:List α) (s:List β),xs.foldl (fun s x=>s++[g x]) s=s++xs.map g
 | [],s=>by simp
 | x::xs,s=>by rw[List.foldl_cons,foldl_append g xs];simp
theorem Ce {α β ρ:Type} {f:α->List β->Option (Sum (List β) ρ)} (g:α->β) {xs:List α} (h:∀x∈xs,∀s:List β,s.length<xs.length->f x s=some (.inl (s++[g x]))) :
  aL f xs []=some (.inl (xs.map g)):=by
 have key:∀(ys zs:List α) (s:List β),xs=zs++ys->s.length=zs.length->aL f ys s=some (.inl (s++ys.map g)):=by
  intro ys
  induction ys with
  | nil=>intro zs s _ _;simp
  | cons y ys ih=>
   intro zs s e hs
   rw[bw,h y (by rw[e];simp) s (by rw[e,hs];simp)]
   rw[aO,ih (zs++[y]) (s++[g y]) (by rw[e];simp) (by simp[hs])]
   simp
 have:=key xs [] [] rfl rfl
 simpa using this
theorem vu {t:Ty} {xs:List t.D} {i:Int} (h0:0<=i) (h1:i<(xs.length:Int)):nth xs i=xs[i.toNat]'(by omega):=by
 unfold nth
 rw[List.getD_eq_getElem?_getD,List.getElem?_eq_getElem (by omega)]
 rfl
theorem zg {t:Ty} (x:t.D) (xs:List t.D):nth (t:=t) (x::xs) 0=x:=rfl
theorem yO {t:Ty} (x:t.D) (xs:List t.D) {i:Int} (h:0<=i):nth (t:=t) (x::xs) (i+1)=nth (t:=t) xs i:=by
 have e:(i+1).toNat=i.toNat+1:=by omega
 unfold nth
 rw[e,List.getD_cons_succ]
theorem CE (n:Nat):aM 0 ((n:Int)+1)=0::(aM 0 n).map (fun i=>i+1):=by
 rw[dG (by omega)]
 congr 1
 unfold aM
 have e1:((n:Int)+1-(0+1)).toNat=n:=by omega
 have e2:((n:Int)-0).toNat=n:=by omega
 rw[e1,e2,List.map_map]
 apply List.map_congr_left
 intro k _
 simp
 omega
theorem jS {t:Ty}:∀(xs:List t.D),(aM 0 (xs.length:Int)).map (fun i=>nth xs i)=xs
 | []=>by rw[ew (by simp)];rfl
 | x::xs=>by
  have e:((x::xs).length:Int)=(xs.length:Int)+1:=by simp
  rw[e,CE,List.map_cons,List.map_map,zg]
  congr 1
  refine(List.map_congr_left (g:=fun i=>nth xs i) ?_).trans (jS xs)
  intro i hi
  exact yO x xs (dV.1 hi).1
theorem Ee {t:Ty} {p:t.D->Bool} {xs:List t.D}:decide ((0:Int)<=M.idx (t:=t) p xs)=xs.any p:=by
 unfold M.idx
 split
 ·rename_i k h
  obtain⟨h1,h2,_⟩:=List.findIdx?_eq_some_iff_getElem.1 h
  rw[decide_eq_true (by omega)]
  exact(List.any_eq_true.2 ⟨_,List.getElem_mem h1,h2⟩).symm
 ·rename_i h
  rw[decide_eq_false (by omega)]
  rw[List.findIdx?_eq_none_iff] at h
  symm
  rw[List.any_eq_false]
  intro x hx
  simp[h x hx]
theorem zk {t:Ty} (p:t.D->Bool):∀(xs:List t.D) (a:Int) (f:Int->Unit->Option (Sum Unit Int)) (_:∀i,0<=i->i<(xs.length:Int)->f (a+i) ()=some (cond (p (nth xs i)) (.inr (a+i)) (.inl ()))),
  aL f (aM a (a+(xs.length:Int))) ()=some (match xs.findIdx? p with | some k=>.inr (a+(k:Int)) | none=>.inl ())
 | [],a,f,_=>by rw[ew (by simp)];rfl
 | x::xs,a,f,h=>by
  have e:((x::xs).length:Int)=(xs.length:Int)+1:=by simp
  have h0:=h 0 (Int.le_refl _) (by rw[e];omega)
  rw[Int.add_zero,zg] at h0
  rw[dG (by rw[e];omega),bw,h0,List.findIdx?_cons]
  cases hp:p x with
  | true=>simp
  | false=>
   simp only[cond_false,aO]
   have ih:=zk p xs (a+1) f (fun i i0 i1=>by
    have:=h (i+1) (by omega) (by rw[e];omega)
    rw[yO x xs i0] at this
    rw[show a+1+i=a+(i+1) by omega]
    exact this)
   rw[show a+((x::xs).length:Int)=a+1+(xs.length:Int) by rw[e];omega,ih]
   cases List.findIdx? p xs with
   | none=>rfl
   | some k=>simp;omega
theorem jk {t:Ty} {p:t.D->Bool} {xs:List t.D} {f:Int->Unit->Option (Sum Unit Int)} (h:∀i,0<=i->i<(xs.length:Int)->f i ()=some (cond (p (nth xs i)) (.inr i) (.inl ()))) :
  bu (aL f (aM 0 (xs.length:Int)) ()) (fun _:Unit=>some (-1:Int)) (fun q:Int=>some q)=some (M.idx p xs):=by
 have:=zk p xs 0 f (fun i h0 h1=>by rw[Int.zero_add];exact h i h0 h1)
 rw[Int.zero_add] at this
 rw[this]
 unfold M.idx
 cases List.findIdx? p xs with
 | none=>rfl
 | some k=>simp
theorem fP {t:Ty} {p:t.D->Bool} {xs:List t.D}:some (decide ((0:Int)<=M.idx (t:=t) p xs))=some (xs.any p):=by rw[Ee]
theorem Gh {t:Ty} [DecidableEq t.D] {xs ys:List t.D} {f:Int->Unit->Option (Sum Unit Unit)} (h:∀i,0<=i->i<(xs.length:Int)->i<(ys.length:Int)->f i ()=some (cond (decide (nth xs i=nth ys i)) (.inl ()) (.inr ()))) :
  cond (!decide ((xs.length:Int)=(ys.length:Int))) (some false) (bu (aL f (aM 0 (xs.length:Int)) ()) (fun _:Unit=>some true) (fun _:Unit=>some false))=some (decide (xs=ys)):=by
 by_cases hl:xs.length=ys.length
 ·rw[decide_eq_true (by omega:(xs.length:Int)=(ys.length:Int))]
  simp only[Bool.not_true,cond_false]
  rw[CJ (fun i=>decide (nth xs i=nth ys i)) () (fun i hi=>by
   obtain⟨h0,h1⟩:=dV.1 hi
   exact h i h0 h1 (by omega))]
  have e:(aM 0 (xs.length:Int)).all (fun i=>decide (nth xs i=nth ys i))=decide (xs=ys):=by
   by_cases he:xs=ys
   ·rw[decide_eq_true he,List.all_eq_true]
    intro i _
    rw[he]
    simp
   ·rw[decide_eq_false he,List.all_eq_false]
    refine Classical.byContradiction fun hn=>he ?_
    rw[<-jS xs,<-jS ys,hl]
    apply List.map_congr_left
    intro i hi
    refine Classical.byContradiction fun hne=>hn ⟨i,by rw[hl];exact hi,?_⟩
    simpa using hne
  rw[e]
  cases decide (xs=ys)<;>rfl
 ·rw[decide_eq_false (by omega:¬(xs.length:Int)=(ys.length:Int)),decide_eq_false (fun e=>hl (by rw[e]))]
  rfl
theorem de {α:Type} {b:Bool} {x y:α}:cond b (some x) (some y)=some (cond b x y):=by cases b<;>rfl
theorem oc {α:Type} {b:Bool} {x y:α}:cond (!b) x y=cond b y x:=by cases b<;>rfl
theorem beq_iff:∀{t:Ty} (_:t.flat=true) (x y:t.D),Ty.beq t x y=true ↔ x=y
 | .int _,_,x,y=>by simp only[Ty.beq,decide_eq_true_eq]
 | .bool,_,x,y=>by simp only[Ty.beq,beq_iff_eq]
 | .str,_,x,y=>by simp only[Ty.beq,decide_eq_true_eq]
 | .unit,_,x,y=>by simp only[Ty.beq]
 | .sl _,h,_,_=>by cases h
 | .pair a b,h,x,y=>by
  simp only[Ty.flat,Bool.and_eq_true] at h
  simp only[Ty.beq,Bool.and_eq_true,beq_iff h.1,beq_iff h.2]
  constructor
  ·rintro ⟨h1,h2⟩
   exact Prod.ext h1 h2
  ·rintro rfl
   exact⟨rfl,rfl⟩
theorem HX {t:Ty} (h:t.flat=true) [DecidableEq t.D] (x y:t.D):Ty.beq t x y=decide (x=y):=by
 cases hb:Ty.beq t x y with
 | true=>exact(decide_eq_true ((beq_iff h x y).1 hb)).symm
 | false=>exact(decide_eq_false (fun e=>by rw[(beq_iff h x y).2 e] at hb;cases hb)).symm
theorem fD (n:Nat) (h:n<=1048576):wrap64 ((n:Int)-1)=(n:Int)-1:=aI (by omega) (by omega)
theorem iX {α ρ τ:Type} {f:α->Unit->Option (Sum Unit ρ)} (p:α->Bool) (r:ρ) {xs:List α} (h:∀x∈xs,f x ()=some (cond (p x) (.inl ()) (.inr r))) {A:Unit->Option τ} {B:ρ->Option τ} :
  bu (aL f xs ()) A B=cond (xs.all p) (A ()) (B r):=by
 rw[CJ p r h]
 cases xs.all p<;>rfl
theorem jL {a b:Bool}:cond (a==true) (some b) (some false)=some (a&&b):=by cases a<;>rfl
theorem BC {s:ByteArray} {i:Int} (h0:0<=i) (h1:i<(s.size:Int)):((s.get! i.toNat).toNat:Int)=nth (t:=.int .u8) (bM s) i:=by
 have hl:=kG s
 have hlt:i.toNat<(bM s).length:=by omega
 have hd:i.toNat<s.data.size:=by
  have:i.toNat<s.size:=by omega
  exact this
 unfold nth
 rw[List.getD_eq_getElem?_getD,List.getElem?_eq_getElem hlt]
 simp only[bM,List.getElem_map,Option.getD_some]
 have:s.get! i.toNat=s.data[i.toNat]:=by
  cases s with
  | mk d=>exact getElem!_pos d i.toNat hd
 rw[this]
 simp
theorem Ft {t:Ty} (xs:List t.D) (p:t.D->Bool):(aM 0 (xs.length:Int)).all (fun i=>p (nth xs i))=xs.all p:=by
 conv=>rhs;rw[<-jS xs]
 rw[List.all_map]
 rfl
theorem GM {s:ByteArray} {n:Int} (h:n∈bM s):0<=n/\n<=255:=by
 simp only[bM,List.mem_map] at h
 obtain⟨b,_,rfl⟩:=h
 have:=b.toNat_lt
 omega
namespace M
theorem take_set {α:Type} {xs ys:List α} {n:Nat} (h:n<xs.length) (hl:ys.length=xs.length) (ht:List.take n ys=List.take n xs):List.take (n+1) (ys.set n xs[n])=List.take (n+1) xs:=by
 have h2:n<ys.length:=by omega
 rw[List.take_add_one,List.take_add_one]
 rw[List.take_set_of_le (Nat.le_refl n),ht,List.getElem?_set_self h2,List.getElem?_eq_getElem h]
theorem eq_eq {α:Type} {x:List α} {f:Int->Unit->Option (Sum Unit Unit)} (hf:∀i,0<=i->i<(x.length:Int)->f i ()=some (.inl ())) :
  cond (!decide ((x.length:Int)=(x.length:Int))) (some false) (bu (aL f (aM (0:Int) (x.length:Int)) ()) (fun _:Unit=>some true) (fun _:Unit=>some false))=some true:=by
 rw[decide_eq_true rfl,iX (fun _=>true) () (fun i hi=>by
  obtain⟨h0,h1⟩:=dV.1 hi
  exact hf i h0 h1)]
 have:(aM (0:Int) (x.length:Int)).all (fun _=>true)=true:=by simp
 rw[this]
 rfl
theorem qJ {α:Type} {x:Option α}:af True x=x:=ah trivial
end M
end Go.AE
end
section
namespace Go.AE
open Go Go.RowKit
set_option linter.unusedVariables false
namespace M
theorem HL {t:Ty} {a:List t.D} {i:Int} {z:t.D} (h0:0<=i) (h1:i<(a.length:Int)):nth (t:=t) (a.set i.toNat z) i=z:=by
 have:i.toNat<a.length:=by omega
 unfold nth
 rw[List.getD_eq_getElem?_getD,List.getElem?_set_self this]
 rfl
end M
end Go.AE
end
section
namespace Go.AE
open Go Go.RowKit
set_option linter.unusedVariables false
def M.holds (row:List aa.D) (e:List aE.D):Bool:=Ty.beq aa (M.lN row e) (M.valueOf 1)
def M.tN (v:List aq.D) (g:kM.D):List aq.D:=
 v.set g.1.toNat ((nth (t:=aq) v g.1).1,List.filter (fun r=>M.holds r g.2.1) (nth (t:=aq) v g.1).2.1,())
namespace M
theorem oA {α:Type} (xs:List α):aD xs (some ((0:Int),(xs.length:Int)))=xs:=by
 unfold aD
 simp
theorem iY {α:Type} (xs:List α):xs.take ((xs.length:Int)).toNat=xs:=by simp
theorem Ai {α σ ρ:Type} {f:α->σ->Option (Sum σ ρ)} (g:σ->α->σ) (I:σ->Prop) {xs:List α} {s:σ} (h0:I s)
  (h:∀x∈xs,∀s,I s->f x s=some (.inl (g s x))/\I (g s x)):aL f xs s=some (.inl (xs.foldl g s))/\I (xs.foldl g s):=by
 induction xs generalizing s with
 | nil=>exact⟨rfl,h0⟩
 | cons x xs ih=>
  obtain⟨h1,h2⟩:=h x (by simp) s h0
  rw[bw,h1,aO]
  exact ih h2 (fun y hy=>h y (by simp[hy]))
theorem vg {t:Ty} {xs:List t.D}:cond (decide ((xs.length:Int)=(0:Int))) (some ([]:List t.D)) (some (xs.take (xs.length:Int).toNat))=some xs:=by
 rw[iY]
 cases xs with
 | nil=>rfl
 | cons x xs=>rw[decide_eq_false (by simp;omega)];rfl
theorem Fw {B:Nat} {t:Ty} {xs:List t.D} (p:t.D->Bool) (h:SmB B (.sl t) xs):SmB B (.sl t) (xs.filter p):=⟨Nat.le_trans (List.length_filter_le _ _) h.1,fun x hx=>h.2 x (List.mem_filter.1 hx).1⟩
theorem CV {α:Type} (xs:List α):xs.map (fun x=>x)=xs:=by simp
def eJ (tables v:List aq.D):Prop:=v.length=tables.length/\∀i:Int,0<=i->i<(tables.length:Int)->(nth (t:=aq) v i).1=(nth (t:=aq) tables i).1 ∧
 (nth (t:=aq) v i).2.1.length<=(nth (t:=aq) tables i).2.1.length/\∀r∈(nth (t:=aq) v i).2.1,r∈(nth (t:=aq) tables i).2.1
theorem eJ.refl (tables:List aq.D):eJ tables tables:=⟨rfl,fun _ _ _=>⟨rfl,Nat.le_refl _,fun _ h=>h⟩⟩
theorem eW {t:Ty} {a:List t.D} {i j:Int} {z:t.D} (h0:0<=i) (h1:0<=j) (hne:i≠j):nth (t:=t) (a.set i.toNat z) j=nth a j:=by
 have:i.toNat≠j.toNat:=by omega
 unfold nth
 rw[List.getD_eq_getElem?_getD,List.getD_eq_getElem?_getD,List.getElem?_set_ne this]
theorem eJ.step {tables v:List aq.D} (h:eJ tables v) {g:kM.D} (h0:0<=g.1) (h1:g.1<(tables.length:Int)):eJ tables (tN v g):=by
 refine⟨by unfold tN;simp[h.1],fun i i0 i1=>?_⟩
 have hl:g.1<(v.length:Int):=by rw[h.1];exact h1
 by_cases e:g.1=i
 ·subst e
  obtain⟨q1,q2,q3⟩:=h.2 _ i0 i1
  unfold tN
  rw[HL i0 hl]
  exact⟨q1,Nat.le_trans (List.length_filter_le _ _) q2,fun r hr=>q3 r (List.mem_filter.1 hr).1⟩
 ·unfold tN
  rw[eW h0 i0 e]
  exact h.2 i i0 i1
theorem EH {tables:List aq.D} (h:ck tables=true) {i:Int} (h0:0<=i) (h1:i<(tables.length:Int)) {r:List aa.D} (hr:r∈(nth (t:=aq) tables i).2.1):r.length=(nth (t:=aq) tables i).1.length:=by
 have hm:=iq (t:=aq) h0 h1
 unfold ck at h
 obtain⟨_,h2⟩:=Bool.and_eq_true_iff.1 h
 have h3:=List.all_eq_true.1 h2 _ hm
 unfold cW at h3
 obtain⟨_,h4⟩:=Bool.and_eq_true_iff.1 h3
 unfold fX at h4
 obtain⟨_,h5⟩:=Bool.and_eq_true_iff.1 h4
 have h6:=List.all_eq_true.1 h5 r hr
 unfold cq at h6
 simp only[Bool.and_eq_true,decide_eq_true_eq] at h6
 omega
end M
end Go.AE
end
