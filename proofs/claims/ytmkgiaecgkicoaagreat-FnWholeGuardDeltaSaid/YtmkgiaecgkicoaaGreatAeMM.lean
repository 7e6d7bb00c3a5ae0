/- What the functions compute, in plain Lean. -/
import Derived.Test.YtmkgiaecgkicoaaGreatAeX
section
namespace Go.AE
open Go Go.RowKit
abbrev aE:Ty:=.int .i64
abbrev af:Ty:=.pair (.int .i64) (.pair (.int .i64) (.pair .str .unit))
abbrev ag:Ty:=.pair (.int .i64) (.pair .bool .unit)
abbrev ai:Ty:=.pair (.sl ag) (.pair (.sl (.sl af)) .unit)
abbrev aD:Ty:=.pair (.int .i64) (.pair (.int .i64) (.pair af .unit))
abbrev jy:Ty:=.pair (.int .i64) (.pair (.int .i64) (.pair (.sl (.int .i64)) (.pair (.int .i64) (.pair (.sl (.int .i64)) (.pair .bool (.pair (.sl aD) .unit))))))
abbrev ah:Ty:=.pair (.int .i64) (.pair (.int .i64) (.pair (.int .i64) (.pair (.int .i64) (.pair (.sl aD) (.pair (.sl (.int .i64)) .unit)))))
abbrev aI:Ty:=.pair (.int .i64) (.pair (.sl aD) .unit)
abbrev aK:Ty:=.pair (.int .i64) (.pair (.sl af) (.pair .bool .unit))
abbrev cO:Ty:=.pair (.sl af) (.pair (.int .i64) .unit)
abbrev JH:Ty:=.pair (.sl ah) (.pair (.sl (.sl af)) (.pair (.sl (.int .i64)) .unit))
abbrev Lt:Ty:=.pair (.sl ai) (.pair (.sl (.int .i64)) (.pair (.sl JH) .unit))
abbrev LTb:Type:=List ai.D
abbrev LV:Type:=List af.D
abbrev LS:Type:=List ah.D
abbrev LPt:Type:=List aD.D
abbrev LC:Type:=List ag.D
abbrev LG:Type:=List aI.D
abbrev LLV:Type:=List (List af.D)
abbrev LLC:Type:=List (List ag.D)
abbrev TTb:Ty:=.sl ai
abbrev TSS:Ty:=.sl ah
abbrev TCS:Ty:=.sl ag
abbrev TVS:Ty:=.sl af
abbrev TPS:Ty:=.sl aD
abbrev TGS:Ty:=.sl aI
namespace M
def inR (n a b:Int):Bool:=decide (a<=n)&&decide (n<=b)
theorem fk {n N:Int} (h:inR n 0 N=true):0<=n:=by unfold inR at h;simp at h;exact h.1
theorem nQ {n N:Int} (h:inR n 0 N=true):n<=N:=by unfold inR at h;simp at h;exact h.2
def lower (l:List Int):Bool:=l.all fun n=>inR n 97 122
def text (s:ByteArray):Bool:=decide (s.size<=6)&&lower (cj s)
abbrev none_:ByteArray:=⟨#[]⟩
def aY (v:af.D):Bool:=cond (decide (v.1=(0:Int))) (decide (v.2.1=(0:Int))&&decide (v.2.2.1=none_))
 (cond (decide (v.1=(1:Int))) (inR v.2.1 (-9999) 9999&&decide (v.2.2.1=none_))
 (cond (decide (v.1=(2:Int))) (decide (v.2.1=(0:Int))&&text v.2.2.1)
 (cond (decide (v.1=(3:Int))) (inR v.2.1 0 1&&decide (v.2.2.1=none_)) false)))
def eZ (c:ag.D):Bool:=inR c.1 1 3
def cm (x:List ag.D):Bool:=decide (x.length<=4)&&x.all eZ
def EX (c:List ag.D) (l:List Int):Bool:=inR l.length 1 4&&l.all fun n=>inR n 0 (c.length-1)
def taken (row:List af.D) (l:List Int):List af.D:=l.map fun i=>@nth af row i
def zU (row:List af.D):Bool:=decide (row.length<=4)&&row.all aY
def idx {t:Ty} (p:t.D->Bool) (xs:List t.D):Int:=match xs.findIdx? p with
 | some k=>(k:Int)
 | none=>-1
def BJ (row:List af.D) (l:List Int):Prop:=∀i∈l,0<=i/\i<(row.length:Int)
theorem IU {B:Nat} {row:List af.D} {l:List Int} (h:SmB B (.sl af) row) (hl:SmB B (.sl (.int .i64)) l):SmB B (.sl af) (taken row l):=by
 refine⟨by unfold taken;rw[List.length_map];exact hl.1,fun x hx=>?_⟩
 unfold taken at hx
 obtain⟨i,_,rfl⟩:=List.mem_map.1 hx
 exact aO h i
def fold (a b alone:Int):Int:=cond (inR a 0 2&&inR b 0 2) (cond (decide (a=alone)||decide (b=alone)) alone (cond (decide (a=2)||decide (b=2)) 2 (1-alone))) (-1)
def BX (a b:Int):Int:=fold a b 0
def GL (a b:Int):Int:=fold a b 1
def Cd (a:Int):Int:=cond (decide (a=0)) 1 (cond (decide (a=1)) 0 (cond (decide (a=2)) 2 (-1)))
def bool (b:Bool):Int:=cond b 1 0
abbrev zeroV:af.D:=((0:Int),(0:Int),none_,())
def valueOf (n:Int):af.D:=cond (inR n 0 1) ((3:Int),n,none_,()) zeroV
def fy (v:af.D):Int:=cond (aY v) (cond (decide (v.1=(0:Int))) 2 (cond (decide (v.1=(3:Int))) v.2.1 (-1))) (-1)
def less (a b:Int):Int:=cond (decide (a<b)) 1 0
def rP (a b:Int):Int:=cond (decide (a<b)) (-1) (cond (decide (b<a)) 1 0)
def En (a b:ByteArray):Int:=cond (Op.bytesLess a.toList b.toList) (-1) (cond (!(Op.bytesLess a.toList b.toList||decide (a=b))) 1 0)
def orI:List Int->Int
 | []=>0
 | x::l=>cond (decide (x=0)) (orI l) x
def order (v w:af.D):Int:=orI [rP v.1 w.1,rP v.2.1 w.2.1,En v.2.2.1 w.2.2.1]
def DW (kind c:Int):Bool:=cond (decide (kind=1)) (decide (c=0)) (cond (decide (kind=2)) (!decide (c=0)) (cond (decide (kind=3)) (decide (c<0)) (decide (c<=0))))
def compare (kind:Int) (a b:af.D):Int:=cond (inR kind 1 4&&(aY a&&aY b)) (cond (decide (a.1=(0:Int))||decide (b.1=(0:Int))) 2 (cond (decide (a.1=b.1)) (bool (DW kind (order a b))) (-1))) (-1)
def Cq (LJ:List ag.D) (row:List af.D) (k:Int):Bool:=decide ((@nth af row k).1=(@nth ag LJ k).1)||(decide ((@nth af row k).1=(0:Int))&&(@nth ag LJ k).2.1)
def cA (LJ:List ag.D) (row:List af.D):Bool:=cm LJ&&(zU row&&(decide (row.length=LJ.length)&&(aT 0 (row.length:Int)).all (Cq LJ row)))
def jV (LJ:List ag.D) (rows:List (List af.D)):Bool:=cm LJ&&rows.all (cA LJ)
def dU (t:ai.D):Bool:=decide (t.2.1.length<=6)&&jV t.1 t.2.1
def bw (ts:List ai.D):Bool:=decide (ts.length<=3)&&ts.all dU
def JX (vs:List af.D):Bool:=vs.any fun v=>decide (v.1=(0:Int))
def takes (p:aD.D):Int:=cond (decide (p.1=(3:Int))||decide (p.1=(4:Int))||decide (p.1=(5:Int))||decide (p.1=(6:Int))) 2 (cond (decide (p.1=(7:Int))||decide (p.1=(8:Int))) 1 0)
def noV (p:aD.D):Bool:=Ty.beq af p.2.2.1 zeroV
def mg (p:aD.D) (LJ:List ag.D):Bool:=
 cond (decide (p.1=(1:Int))) (decide (p.2.1=(0:Int))&&(aY p.2.2.1&&!decide (p.2.2.1.1=(0:Int))))
 (cond (decide (p.1=(2:Int))) (inR p.2.1 0 ((LJ.length:Int)-1)&&noV p)
 (cond (decide (p.1=(4:Int))) (inR p.2.1 1 4&&noV p)
 (cond (inR p.1 3 8) (decide (p.2.1=(0:Int))&&noV p) false)))
def dh (p:aD.D) (LJ:List ag.D) (l:List Int):Int×Bool:=
 cond (decide (p.1=(1:Int))) (p.2.2.1.1,true)
 (cond (decide (p.1=(2:Int))) ((@nth ag LJ p.2.1).1,true)
 (cond (decide (p.1=(3:Int))) (1,l.all fun k=>decide (k=1))
 (cond (decide (p.1=(4:Int))) (3,decide (nth (t:=.int .i64) l 0=nth (t:=.int .i64) l 1))
 (cond (decide (p.1=(8:Int))) (3,true) (3,l.all fun k=>decide (k=3))))))
def fU (LJ:List ag.D) (st:List Int) (p:aD.D):Option (List Int):=
 cond (mg p LJ&&(decide (takes p<=(st.length:Int))&&(dh p LJ (st.drop (st.length-(takes p).toNat))).2)) (some (st.take (st.length-(takes p).toNat)++[(dh p LJ (st.drop (st.length-(takes p).toNat))).1])) none
def jX (LJ:List ag.D):List aD.D->List Int->Option (List Int)
 | [],st=>some st
 | p::e,st=>match fU LJ st p with
  | some st'=>jX LJ e st'
  | none=>none
def oneOf:Option (List Int)->Int
 | some [k]=>k
 | _=>-1
def bR (LJ:List ag.D) (e:List aD.D):Int:=cond (cm LJ&&decide (e.length<=12)) (oneOf (jX LJ e [])) (-1)
def sum (a b:af.D):af.D:=cond (decide (a.1=(0:Int))||decide (b.1=(0:Int))||!inR (wrap64 (a.2.1+b.2.1)) (-9999) 9999) zeroV ((1:Int),wrap64 (a.2.1+b.2.1),none_,())
def jF (p:aD.D) (row:List af.D) (l:List af.D):af.D:=
 cond (decide (p.1=(1:Int))) p.2.2.1
 (cond (decide (p.1=(2:Int))) (@nth af row p.2.1)
 (cond (decide (p.1=(3:Int))) (sum (@nth af l 0) (@nth af l 1))
 (cond (decide (p.1=(4:Int))) (valueOf (compare p.2.1 (@nth af l 0) (@nth af l 1)))
 (cond (decide (p.1=(5:Int))) (valueOf (BX (fy (@nth af l 0)) (fy (@nth af l 1))))
 (cond (decide (p.1=(6:Int))) (valueOf (GL (fy (@nth af l 0)) (fy (@nth af l 1))))
 (cond (decide (p.1=(7:Int))) (valueOf (Cd (fy (@nth af l 0))))
 (valueOf (bool (decide ((@nth af l 0).1=(0:Int)))))))))))
def jo (row:List af.D) (st:List af.D) (p:aD.D):List af.D:=st.take (st.length-(takes p).toNat)++[jF p row (st.drop (st.length-(takes p).toNat))]
def kK (row:List af.D) (e:List aD.D):af.D:=@nth af (e.foldl (jo row) []) 0
def xG (p:aD.D) (w:Nat):Prop:=p.1=(2:Int)->0<=p.2.1/\p.2.1<(w:Int)
def yS (w:Nat):List aD.D->Nat->Prop
 | [],d=>0<d
 | p::e,d=>takes p<=(d:Int)/\(1<=p.1/\p.1<=8)/\xG p w/\yS w e (d-(takes p).toNat+1)
def fG (w:Nat) (e:List aD.D):Prop:=e.length<=12/\yS w e 0
def Kp (LK:List ai.D) (b:jy.D):Bool:=
 inR b.2.1 0 ((LK.length:Int)-1) &&
 cond (decide (b.1=(1:Int))) (EX (@nth ai LK b.2.1).1 b.2.2.1&&(decide (b.2.2.2.1=(0:Int))&&(decide (b.2.2.2.2.1.length=0)&&(!b.2.2.2.2.2.1&&decide (b.2.2.2.2.2.2.1.length=0)))))
 (cond (decide (b.1=(3:Int))) (decide (bR (@nth ai LK b.2.1).1 b.2.2.2.2.2.2.1=3)&&(decide (b.2.2.1.length=0)&&(decide (b.2.2.2.1=(0:Int))&&(decide (b.2.2.2.2.1.length=0)&&!b.2.2.2.2.2.1))))
 (cond (decide (b.1=(2:Int))) (inR b.2.2.2.1 0 ((LK.length:Int)-1)&&(EX (@nth ai LK b.2.1).1 b.2.2.1&&(EX (@nth ai LK b.2.2.2.1).1 b.2.2.2.2.1&&(decide (b.2.2.1.length=b.2.2.2.2.1.length)&&(decide (b.2.2.2.2.2.2.1.length=0) &&
  (aT 0 (b.2.2.1.length:Int)).all fun i=>decide ((@nth ag (@nth ai LK b.2.1).1 (nth (t:=.int .i64) b.2.2.1 i)).1=(@nth ag (@nth ai LK b.2.2.2.1).1 (nth (t:=.int .i64) b.2.2.2.2.1 i)).1)))))) false))
def xo (LK:List ai.D) (b:jy.D):List (List af.D):=(@nth ai LK b.2.1).2.1
def breaks (LK:List ai.D) (b:jy.D) (n:Int):Bool:=
 cond (decide (b.1=(3:Int))) (Ty.beq af (kK (nth (t:=.sl af) (xo LK b) n) b.2.2.2.2.2.2.1) (valueOf 0))
 (cond (JX (taken (nth (t:=.sl af) (xo LK b) n) b.2.2.1)) false
 (cond (decide (b.1=(1:Int))) (((xo LK b).take n.toNat).any fun r=>decide (taken r b.2.2.1=taken (nth (t:=.sl af) (xo LK b) n) b.2.2.1))
 (!((@nth ai LK b.2.2.2.1).2.1.any fun r=>decide (taken r b.2.2.2.2.1=taken (nth (t:=.sl af) (xo LK b) n) b.2.2.1)))))
def broken (LK:List ai.D) (b:jy.D):Int:=match (aT 0 ((xo LK b).length:Int)).find? (breaks LK b) with
 | some n=>n
 | none=>-1
def Fp (LK:List ai.D) (b:jy.D):Int:=cond (bw LK&&Kp LK b) (broken LK b) (-2)
def mL (LK:List ai.D) (bonds:List jy.D):Bool:=decide (bonds.length<=4)&&bonds.all fun b=>decide (Fp LK b=-1)
end M
theorem fk {n N:Int} (h:M.inR n 0 N=true):0<=n:=M.fk h
theorem kB {n:Int} {N:Nat} (h:M.inR n 0 (wrap64 ((N:Int)-1))=true):n<(N:Int):=by
 have h1:=M.fk h
 have h2:=M.nQ h
 have:wrap64 ((N:Int)-1)<=(N:Int)-1:=by unfold wrap64;omega
 omega
end Go.AE
end
section
namespace Go.AE
open Go Go.RowKit
@[simp] theorem bX {α β:Type} (x:α) (f:α->β):aG x f=f x:=rfl
@[simp] theorem KY {σ ε:Type} (s:σ) (g:σ->ε):Ke (some (.inl s)) g=some (g s):=rfl
@[simp] theorem KW {σ ε:Type} (e:ε) (g:σ->ε):Ke (some (.inr e)) g=some e:=rfl
@[simp] theorem KZ {σ ε ρ:Type} (s:σ) (g:σ->ε):Kj (ρ:=ρ) (some (.inl s)) g=some (.inl (g s)):=rfl
@[simp] theorem La {σ ε ρ:Type} (r:Sum ε ρ) (g:σ->ε):Kj (some (.inr r)) g=some r:=rfl
@[simp] theorem Lb {α σ ρ:Type} (f:α->σ->Option (Sum σ ρ)) (s:σ):aU f [] s=some (.inl s):=rfl
theorem ck {α σ ρ:Type} (f:α->σ->Option (Sum σ ρ)) (x:α) (xs:List α) (s:σ):aU f (x::xs) s=bH (f x s) (fun s'=>aU f xs s') (fun r=>some (.inr r)):=rfl
theorem fo {a n i:Int}:i∈aT a n ↔ a<=i/\i<n:=by
 unfold aT
 simp only[List.mem_map,List.mem_range]
 constructor
 ·rintro ⟨k,hk,rfl⟩
  omega
 ·rintro ⟨h1,h2⟩
  exact⟨(i-a).toNat,by omega,by omega⟩
theorem AI {α ρ:Type} {f:α->Unit->Option (Sum Unit ρ)} (p:α->Bool) (r:ρ):∀{xs:List α} (_:∀x∈xs,f x ()=some (cond (p x) (.inr r) (.inl ()))),
  aU f xs ()=some (cond (xs.any p) (.inr r) (.inl ()))
 | [],_=>rfl
 | x::xs,h=>by
  rw[ck,h x (List.mem_cons_self ..),List.any_cons]
  cases hp:p x with
  | true=>rfl
  | false=>exact AI p r (fun y hy=>h y (List.mem_cons_of_mem _ hy))
theorem Dn {α ρ:Type} {f:α->Unit->Option (Sum Unit ρ)} (p:α->Bool) (r:ρ) {xs:List α} (h:∀x∈xs,f x ()=some (cond (p x) (.inl ()) (.inr r))) :
  aU f xs ()=some (cond (xs.all p) (.inl ()) (.inr r)):=by
 rw[AI (fun x=>!p x) r (fun x hx=>by rw[h x hx];cases p x<;>rfl)]
 rw[List.all_eq_not_any_not]
 cases xs.any fun x=>!p x<;>rfl
theorem BV {α σ ρ:Type} {f:α->σ->Option (Sum σ ρ)} (g:σ->α->σ) (I:σ->Prop):∀{xs:List α} {s:σ} (_:I s) (_:∀x∈xs,∀s,I s->f x s=some (.inl (g s x))/\I (g s x)),
  aU f xs s=some (.inl (xs.foldl g s))/\I (xs.foldl g s)
 | [],s,h0,_=>⟨rfl,h0⟩
 | x::xs,s,h0,h=>by
  obtain⟨h1,h2⟩:=h x (List.mem_cons_self ..) s h0
  rw[ck,h1]
  exact BV g I h2 (fun y hy=>h y (List.mem_cons_of_mem _ hy))
theorem foldl_append {α β:Type} (g:α->β):∀(xs:List α) (s:List β),xs.foldl (fun s x=>s++[g x]) s=s++xs.map g
 | [],s=>by simp
 | x::xs,s=>by rw[List.foldl_cons,foldl_append g xs];simp
theorem uN {α β ρ:Type} {f:α->List β->Option (Sum (List β) ρ)} (g:α->β) {xs:List α} (h:∀x∈xs,∀s:List β,s.length<xs.length->f x s=some (.inl (s++[g x]))) :
  aU f xs []=some (.inl (xs.map g)):=by
 have key:∀(ys zs:List α) (s:List β),xs=zs++ys->s.length=zs.length->aU f ys s=some (.inl (s++ys.map g)):=by
  intro ys
  induction ys with
  | nil=>intro zs s _ _;simp
  | cons y ys ih=>
   intro zs s e hs
   rw[ck,h y (by rw[e];simp) s (by rw[e,hs];simp)]
   rw[bE,ih (zs++[y]) (s++[g y]) (by rw[e];simp) (by simp[hs])]
   simp
 have:=key xs [] [] rfl rfl
 simpa using this
theorem qI {t:Ty} {xs:List t.D} {i:Int} (h0:0<=i) (h1:i<(xs.length:Int)):nth xs i=xs[i.toNat]'(by omega):=by
 unfold nth
 rw[List.getD_eq_getElem?_getD,List.getElem?_eq_getElem (by omega)]
 rfl
theorem zB {t:Ty} (x:t.D) (xs:List t.D):@nth t (x::xs) 0=x:=rfl
theorem zJ {t:Ty} (x:t.D) (xs:List t.D) {i:Int} (h:0<=i):@nth t (x::xs) (i+1)=@nth t xs i:=by
 have e:(i+1).toNat=i.toNat+1:=by omega
 unfold nth
 rw[e,List.getD_cons_succ]
theorem Dz (n:Nat):aT 0 ((n:Int)+1)=0::(aT 0 n).map (fun i=>i+1):=by
 rw[hY (by omega)]
 congr 1
 unfold aT
 have e1:((n:Int)+1-(0+1)).toNat=n:=by omega
 have e2:((n:Int)-0).toNat=n:=by omega
 rw[e1,e2,List.map_map]
 apply List.map_congr_left
 intro k _
 simp
 omega
theorem kX {t:Ty}:∀(xs:List t.D),(aT 0 (xs.length:Int)).map (fun i=>nth xs i)=xs
 | []=>by rw[gy (by simp)];rfl
 | x::xs=>by
  have e:((x::xs).length:Int)=(xs.length:Int)+1:=by simp
  rw[e,Dz,List.map_cons,List.map_map,zB]
  congr 1
  refine(List.map_congr_left (g:=fun i=>nth xs i) ?_).trans (kX xs)
  intro i hi
  exact zJ x xs (fo.1 hi).1
theorem Kw {t:Ty} {p:t.D->Bool} {xs:List t.D}:M.idx (t:=t) p xs<(xs.length:Int)\/xs=[]:=by
 unfold M.idx
 split
 ·rename_i k h
  left
  have:=(List.findIdx?_eq_some_iff_getElem.1 h).1
  omega
 ·cases xs
  ·exact .inr rfl
  ·left;simp;omega
theorem Fc {t:Ty} {p:t.D->Bool} {xs:List t.D}:decide ((0:Int)<=M.idx (t:=t) p xs)=xs.any p:=by
 unfold M.idx
 split
 ·rename_i k h
  obtain⟨h1,h2,_⟩:=List.findIdx?_eq_some_iff_getElem.1 h
  rw[decide_eq_true (by omega)]
  exact(List.any_eq_true.2 ⟨_,List.getElem_mem h1,h2⟩).symm
 ·rename_i h
  rw[decide_eq_false (by omega)]
  rw[List.findIdx?_eq_none_iff] at h
  symm
  rw[List.any_eq_false]
  intro x hx
  simp[h x hx]
theorem vG {t:Ty} (p:t.D->Bool):∀(xs:List t.D) (a:Int) (f:Int->Unit->Option (Sum Unit Int)) (_:∀i,0<=i->i<(xs.length:Int)->f (a+i) ()=some (cond (p (nth xs i)) (.inr (a+i)) (.inl ()))),
  aU f (aT a (a+(xs.length:Int))) ()=some (match xs.findIdx? p with | some k=>.inr (a+(k:Int)) | none=>.inl ())
 | [],a,f,_=>by rw[gy (by simp)];rfl
 | x::xs,a,f,h=>by
  have e:((x::xs).length:Int)=(xs.length:Int)+1:=by simp
  have h0:=h 0 (Int.le_refl _) (by rw[e];omega)
  rw[Int.add_zero,zB] at h0
  rw[hY (by rw[e];omega),ck,h0,List.findIdx?_cons]
  cases hp:p x with
  | true=>simp
  | false=>
   simp only[cond_false,bE]
   have ih:=vG p xs (a+1) f (fun i i0 i1=>by
    have:=h (i+1) (by omega) (by rw[e];omega)
    rw[zJ x xs i0] at this
    rw[show a+1+i=a+(i+1) by omega]
    exact this)
   rw[show a+((x::xs).length:Int)=a+1+(xs.length:Int) by rw[e];omega,ih]
   cases List.findIdx? p xs with
   | none=>rfl
   | some k=>simp;omega
theorem iH {t:Ty} {p:t.D->Bool} {xs:List t.D} {f:Int->Unit->Option (Sum Unit Int)} (h:∀i,0<=i->i<(xs.length:Int)->f i ()=some (cond (p (nth xs i)) (.inr i) (.inl ()))) :
  bH (aU f (aT 0 (xs.length:Int)) ()) (fun _:Unit=>some (-1:Int)) (fun q:Int=>some q)=some (M.idx p xs):=by
 have:=vG p xs 0 f (fun i h0 h1=>by rw[Int.zero_add];exact h i h0 h1)
 rw[Int.zero_add] at this
 rw[this]
 unfold M.idx
 cases List.findIdx? p xs with
 | none=>rfl
 | some k=>simp
theorem gB {t:Ty} {p:t.D->Bool} {xs:List t.D}:some (decide ((0:Int)<=M.idx (t:=t) p xs))=some (xs.any p):=by rw[Fc]
theorem IY {t:Ty} [DecidableEq t.D] {xs ys:List t.D} {f:Int->Unit->Option (Sum Unit Unit)} (h:∀i,0<=i->i<(xs.length:Int)->i<(ys.length:Int)->f i ()=some (cond (decide (nth xs i=nth ys i)) (.inl ()) (.inr ()))) :
  cond (!decide ((xs.length:Int)=(ys.length:Int))) (some false) (bH (aU f (aT 0 (xs.length:Int)) ()) (fun _:Unit=>some true) (fun _:Unit=>some false))=some (decide (xs=ys)):=by
 by_cases hl:xs.length=ys.length
 ·rw[decide_eq_true (by omega:(xs.length:Int)=(ys.length:Int))]
  simp only[Bool.not_true,cond_false]
  rw[Dn (fun i=>decide (nth xs i=nth ys i)) () (fun i hi=>by
   obtain⟨h0,h1⟩:=fo.1 hi
   exact h i h0 h1 (by omega))]
  have e:(aT 0 (xs.length:Int)).all (fun i=>decide (nth xs i=nth ys i))=decide (xs=ys):=by
   by_cases he:xs=ys
   ·rw[decide_eq_true he,List.all_eq_true]
    intro i _
    rw[he]
    simp
   ·rw[decide_eq_false he,List.all_eq_false]
    refine Classical.byContradiction fun hn=>he ?_
    rw[<-kX xs,<-kX ys,hl]
    apply List.map_congr_left
    intro i hi
    refine Classical.byContradiction fun hne=>hn ⟨i,by rw[hl];exact hi,?_⟩
    simpa using hne
  rw[e]
  cases decide (xs=ys)<;>rfl
 ·rw[decide_eq_false (by omega:¬(xs.length:Int)=(ys.length:Int)),decide_eq_false (fun e=>hl (by rw[e]))]
  rfl
theorem dQ {α:Type} {b:Bool} {x y:α}:cond b (some x) (some y)=some (cond b x y):=by cases b<;>rfl
theorem vW {α:Type} {b:Bool} {x y:α}:cond (!b) x y=cond b y x:=by cases b<;>rfl
theorem beq_iff:∀{t:Ty} (_:t.flat=true) (x y:t.D),Ty.beq t x y=true ↔ x=y
 | .int _,_,x,y=>by simp only[Ty.beq,decide_eq_true_eq]
 | .bool,_,x,y=>by simp only[Ty.beq,beq_iff_eq]
 | .str,_,x,y=>by simp only[Ty.beq,decide_eq_true_eq]
 | .unit,_,x,y=>by simp only[Ty.beq]
 | .sl _,h,_,_=>by cases h
 | .pair a b,h,x,y=>by
  simp only[Ty.flat,Bool.and_eq_true] at h
  simp only[Ty.beq,Bool.and_eq_true,beq_iff h.1,beq_iff h.2]
  constructor
  ·rintro ⟨h1,h2⟩
   exact Prod.ext h1 h2
  ·rintro rfl
   exact⟨rfl,rfl⟩
theorem JQ {t:Ty} (h:t.flat=true) [DecidableEq t.D] (x y:t.D):Ty.beq t x y=decide (x=y):=by
 cases hb:Ty.beq t x y with
 | true=>exact(decide_eq_true ((beq_iff h x y).1 hb)).symm
 | false=>exact(decide_eq_false (fun e=>by rw[(beq_iff h x y).2 e] at hb;cases hb)).symm
theorem gI (n:Nat) (h:n<=1048576):wrap64 ((n:Int)-1)=(n:Int)-1:=aF (by omega) (by omega)
theorem HD {α ρ τ:Type} {f:α->Unit->Option (Sum Unit ρ)} (p:α->Bool) (r:ρ) {xs:List α} (h:∀x∈xs,f x ()=some (cond (p x) (.inr r) (.inl ()))) {A:Unit->Option τ} {B:ρ->Option τ} :
  bH (aU f xs ()) A B=cond (xs.any p) (B r) (A ()):=by
 rw[AI p r h]
 cases xs.any p<;>rfl
theorem rM {α ρ τ:Type} {f:α->Unit->Option (Sum Unit ρ)} (p:α->Bool) (r:ρ) {xs:List α} (h:∀x∈xs,f x ()=some (cond (p x) (.inl ()) (.inr r))) {A:Unit->Option τ} {B:ρ->Option τ} :
  bH (aU f xs ()) A B=cond (xs.all p) (A ()) (B r):=by
 rw[Dn p r h]
 cases xs.all p<;>rfl
theorem kH {a b:Bool}:cond (a==true) (some b) (some false)=some (a&&b):=by cases a<;>rfl
theorem CZ {s:ByteArray} {i:Int} (h0:0<=i) (h1:i<(s.size:Int)):((s.get! i.toNat).toNat:Int)=nth (t:=.int .u8) (cj s) i:=by
 have hl:=lM s
 have hlt:i.toNat<(cj s).length:=by omega
 have hd:i.toNat<s.data.size:=by
  have:i.toNat<s.size:=by omega
  exact this
 unfold nth
 rw[List.getD_eq_getElem?_getD,List.getElem?_eq_getElem hlt]
 simp only[cj,List.getElem_map,Option.getD_some]
 have:s.get! i.toNat=s.data[i.toNat]:=by
  cases s with
  | mk d=>exact getElem!_pos d i.toNat hd
 rw[this]
 simp
theorem Hj {t:Ty} (xs:List t.D) (p:t.D->Bool):(aT 0 (xs.length:Int)).all (fun i=>p (nth xs i))=xs.all p:=by
 conv=>rhs;rw[<-kX xs]
 rw[List.all_map]
 rfl
theorem HJ {s:ByteArray} {n:Int} (h:n∈cj s):0<=n/\n<=255:=by
 simp only[cj,List.mem_map] at h
 obtain⟨b,_,rfl⟩:=h
 have:=b.toNat_lt
 omega
namespace M
theorem take_set {α:Type} {xs ys:List α} {n:Nat} (h:n<xs.length) (hl:ys.length=xs.length) (ht:List.take n ys=List.take n xs):List.take (n+1) (ys.set n xs[n])=List.take (n+1) xs:=by
 have h2:n<ys.length:=by omega
 rw[List.take_add_one,List.take_add_one]
 rw[List.take_set_of_le (Nat.le_refl n),ht,List.getElem?_set_self h2,List.getElem?_eq_getElem h]
theorem Dx {α:Type} {x:Option α}:aa True x=x:=aq trivial
end M
end Go.AE
end
section
namespace Go.AE
open Go Go.RowKit
set_option linter.unusedVariables false
namespace M
theorem Cp {t:Ty} {a:List t.D} {i:Int} {z:t.D} (h0:0<=i) (h1:i<(a.length:Int)):@nth t (a.set i.toNat z) i=z:=by
 have:i.toNat<a.length:=by omega
 unfold nth
 rw[List.getD_eq_getElem?_getD,List.getElem?_set_self this]
 rfl
end M
end Go.AE
end
section
namespace Go.AE
open Go Go.RowKit
set_option linter.unusedVariables false
def M.holds (row:List af.D) (e:List aD.D):Bool:=Ty.beq af (M.kK row e) (M.valueOf 1)
def M.mC (LK:List ai.D) (LL:List aI.D) (i:Int):Bool:=
 M.inR (@nth aI LL i).1 0 ((LK.length:Int)-1)&&(decide (M.bR (@nth ai LK (@nth aI LL i).1).1 (@nth aI LL i).2.1=3) &&
  (!decide (0<i)||!decide ((@nth aI LL i).1<=(@nth aI LL (i-1)).1)))
def M.bS (LK:List ai.D) (LL:List aI.D):Bool:=M.bw LK&&(aT 0 (LL.length:Int)).all (M.mC LK LL)
def M.gi (v:List ai.D) (g:aI.D):List ai.D:=
 v.set g.1.toNat ((@nth ai v g.1).1,List.filter (fun r=>M.holds r g.2.1) (@nth ai v g.1).2.1,())
def M.bN (LK:List ai.D) (LL:List aI.D):List ai.D:=cond (M.bS LK LL) (LL.foldl M.gi LK) []
namespace M
theorem iS {α:Type} (xs:List α):aj xs (some ((0:Int),(xs.length:Int)))=xs:=by
 unfold aj
 simp
theorem je {α:Type} (xs:List α):xs.take ((xs.length:Int)).toNat=xs:=by simp
theorem BV {α σ ρ:Type} {f:α->σ->Option (Sum σ ρ)} (g:σ->α->σ) (I:σ->Prop) {xs:List α} {s:σ} (h0:I s)
  (h:∀x∈xs,∀s,I s->f x s=some (.inl (g s x))/\I (g s x)):aU f xs s=some (.inl (xs.foldl g s))/\I (xs.foldl g s):=by
 induction xs generalizing s with
 | nil=>exact⟨rfl,h0⟩
 | cons x xs ih=>
  obtain⟨h1,h2⟩:=h x (by simp) s h0
  rw[ck,h1,bE]
  exact ih h2 (fun y hy=>h y (by simp[hy]))
theorem sL {t:Ty} {xs:List t.D}:cond (decide ((xs.length:Int)=(0:Int))) (some ([]:List t.D)) (some (xs.take (xs.length:Int).toNat))=some xs:=by
 rw[je]
 cases xs with
 | nil=>rfl
 | cons x xs=>rw[decide_eq_false (by simp;omega)];rfl
theorem GY {B:Nat} {t:Ty} {xs:List t.D} (p:t.D->Bool) (h:SmB B (.sl t) xs):SmB B (.sl t) (xs.filter p):=⟨Nat.le_trans (List.length_filter_le _ _) h.1,fun x hx=>h.2 x (List.mem_filter.1 hx).1⟩
theorem zi {α:Type} (xs:List α):xs.map (fun x=>x)=xs:=by simp
def fu (LK v:List ai.D):Prop:=v.length=LK.length/\∀i:Int,0<=i->i<(LK.length:Int)->(@nth ai v i).1=(@nth ai LK i).1 ∧
 (@nth ai v i).2.1.length<=(@nth ai LK i).2.1.length/\∀r∈(@nth ai v i).2.1,r∈(@nth ai LK i).2.1
theorem fu.refl (LK:List ai.D):fu LK LK:=⟨rfl,fun _ _ _=>⟨rfl,Nat.le_refl _,fun _ h=>h⟩⟩
theorem qJ {t:Ty} {a:List t.D} {i j:Int} {z:t.D} (h0:0<=i) (h1:0<=j) (hne:i≠j):@nth t (a.set i.toNat z) j=nth a j:=by
 have:i.toNat≠j.toNat:=by omega
 unfold nth
 rw[List.getD_eq_getElem?_getD,List.getD_eq_getElem?_getD,List.getElem?_set_ne this]
theorem fu.step {LK v:List ai.D} (h:fu LK v) {g:aI.D} (h0:0<=g.1) (h1:g.1<(LK.length:Int)):fu LK (gi v g):=by
 refine⟨by unfold gi;simp[h.1],fun i i0 i1=>?_⟩
 have hl:g.1<(v.length:Int):=by rw[h.1];exact h1
 by_cases e:g.1=i
 ·subst e
  obtain⟨q1,q2,q3⟩:=h.2 _ i0 i1
  unfold gi
  rw[Cp i0 hl]
  exact⟨q1,Nat.le_trans (List.length_filter_le _ _) q2,fun r hr=>q3 r (List.mem_filter.1 hr).1⟩
 ·unfold gi
  rw[qJ h0 i0 e]
  exact h.2 i i0 i1
theorem ri {LK:List ai.D} {LL:List aI.D} (h:bS LK LL=true) {g:aI.D} (hg:g∈LL) :
  (0<=g.1/\g.1<(LK.length:Int))/\bR (@nth ai LK g.1).1 g.2.1=3/\bw LK=true:=by
 unfold bS at h
 obtain⟨h1,h2⟩:=Bool.and_eq_true_iff.1 h
 obtain⟨k,hk,e⟩:=List.getElem_of_mem hg
 have:=List.all_eq_true.1 h2 (k:Int) (fo.2 ⟨by omega,by omega⟩)
 have hn:@nth aI LL (k:Int)=g:=by
  unfold nth
  rw[List.getD_eq_getElem?_getD]
  simp[hk,e]
 unfold mC at this
 rw[hn] at this
 obtain⟨q1,q2⟩:=Bool.and_eq_true_iff.1 this
 obtain⟨q2,_⟩:=Bool.and_eq_true_iff.1 q2
 have a0:=fk q1
 have a1:=nQ q1
 exact⟨⟨a0,Int.lt_of_le_sub_one a1⟩,of_decide_eq_true q2,h1⟩
theorem Gm {LK:List ai.D} (h:bw LK=true) {i:Int} (h0:0<=i) (h1:i<(LK.length:Int)) {r:List af.D} (hr:r∈(@nth ai LK i).2.1):r.length=(@nth ai LK i).1.length:=by
 have hm:=hU (t:=ai) h0 h1
 unfold bw at h
 obtain⟨_,h2⟩:=Bool.and_eq_true_iff.1 h
 have h3:=List.all_eq_true.1 h2 _ hm
 unfold dU at h3
 obtain⟨_,h4⟩:=Bool.and_eq_true_iff.1 h3
 unfold jV at h4
 obtain⟨_,h5⟩:=Bool.and_eq_true_iff.1 h4
 have h6:=List.all_eq_true.1 h5 r hr
 unfold cA at h6
 simp only[Bool.and_eq_true,decide_eq_true_eq] at h6
 omega
end M
end Go.AE
end
