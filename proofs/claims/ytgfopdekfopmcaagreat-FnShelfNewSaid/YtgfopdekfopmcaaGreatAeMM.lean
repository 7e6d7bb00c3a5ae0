/- What the functions compute, in plain Lean. -/
import Derived.Test.YtgfopdekfopmcaaGreatAeX
section
namespace Go.AE
open Go Go.RowKit
abbrev bf:Ty:=.int .i64
abbrev ag:Ty:=.pair (.int .i64) (.pair (.int .i64) (.pair .str .unit))
abbrev ai:Ty:=.pair (.int .i64) (.pair .bool .unit)
abbrev aj:Ty:=.pair (.sl ai) (.pair (.sl (.sl ag)) .unit)
abbrev dy:Ty:=.pair (.int .i64) (.pair (.int .i64) (.pair ag .unit))
abbrev Bm:Ty:=.pair (.int .i64) (.pair (.int .i64) (.pair (.sl (.int .i64)) (.pair (.int .i64) (.pair (.sl (.int .i64)) (.pair .bool (.pair (.sl dy) .unit))))))
abbrev de:Ty:=.pair (.int .i64) (.pair (.int .i64) (.pair (.int .i64) (.pair (.int .i64) (.pair (.sl dy) (.pair (.sl (.int .i64)) .unit)))))
abbrev gQ:Ty:=.pair (.int .i64) (.pair (.sl dy) .unit)
abbrev Bb:Ty:=.pair (.int .i64) (.pair (.sl ag) (.pair .bool .unit))
abbrev cn:Ty:=.pair (.sl de) (.pair (.sl (.sl ag)) (.pair (.sl (.int .i64)) .unit))
abbrev aE:Ty:=.pair (.sl aj) (.pair (.sl (.int .i64)) (.pair (.sl cn) .unit))
abbrev LTb:Type:=List aj.D
abbrev LV:Type:=List ag.D
abbrev LS:Type:=List de.D
abbrev LPt:Type:=List dy.D
abbrev LC:Type:=List ai.D
abbrev LLV:Type:=List (List ag.D)
abbrev TTb:Ty:=.sl aj
abbrev TSS:Ty:=.sl de
abbrev TCS:Ty:=.sl ai
abbrev TVS:Ty:=.sl ag
abbrev TPS:Ty:=.sl dy
abbrev TGS:Ty:=.sl gQ
namespace M
def inR (n a b:Int):Bool:=decide (a<=n)&&decide (n<=b)
theorem yA {n N:Int} (h:inR n 0 N=true):0<=n:=by unfold inR at h;simp at h;exact h.1
def lower (l:List Int):Bool:=l.all fun n=>inR n 97 122
def text (s:ByteArray):Bool:=decide (s.size<=6)&&lower (aP s)
abbrev none_:ByteArray:=⟨#[]⟩
def aK (v:ag.D):Bool:=cond (decide (v.1=(0:Int))) (decide (v.2.1=(0:Int))&&decide (v.2.2.1=none_))
 (cond (decide (v.1=(1:Int))) (inR v.2.1 (-9999) 9999&&decide (v.2.2.1=none_))
 (cond (decide (v.1=(2:Int))) (decide (v.2.1=(0:Int))&&text v.2.2.1)
 (cond (decide (v.1=(3:Int))) (inR v.2.1 0 1&&decide (v.2.2.1=none_)) false)))
def cE (c:ai.D):Bool:=inR c.1 1 3
def aW (x:List ai.D):Bool:=decide (x.length<=4)&&x.all cE
def taken (row:List ag.D) (l:List Int):List ag.D:=l.map fun i=>nth (t:=ag) row i
def jL (row:List ag.D):Bool:=decide (row.length<=4)&&row.all aK
def idx {t:Ty} (p:t.D->Bool) (xs:List t.D):Int:=match xs.findIdx? p with
 | some k=>(k:Int)
 | none=>-1
def fold (a b alone:Int):Int:=cond (inR a 0 2&&inR b 0 2) (cond (decide (a=alone)||decide (b=alone)) alone (cond (decide (a=2)||decide (b=2)) 2 (1-alone))) (-1)
def AT (a b:Int):Int:=fold a b 0
def Be (a b:Int):Int:=fold a b 1
def AU (a:Int):Int:=cond (decide (a=0)) 1 (cond (decide (a=1)) 0 (cond (decide (a=2)) 2 (-1)))
def bool (b:Bool):Int:=cond b 1 0
abbrev zeroV:ag.D:=((0:Int),(0:Int),none_,())
def valueOf (n:Int):ag.D:=cond (inR n 0 1) ((3:Int),n,none_,()) zeroV
def oa (v:ag.D):Int:=cond (aK v) (cond (decide (v.1=(0:Int))) 2 (cond (decide (v.1=(3:Int))) v.2.1 (-1))) (-1)
def less (a b:Int):Int:=cond (decide (a<b)) 1 0
def AR (a b:Int):Int:=cond (decide (a<b)) (-1) (cond (decide (b<a)) 1 0)
def Bd (a b:ByteArray):Int:=cond (Op.bytesLess a.toList b.toList) (-1) (cond (!(Op.bytesLess a.toList b.toList||decide (a=b))) 1 0)
def orI:List Int->Int
 | []=>0
 | x::l=>cond (decide (x=0)) (orI l) x
def order (v w:ag.D):Int:=orI [AR v.1 w.1,AR v.2.1 w.2.1,Bd v.2.2.1 w.2.2.1]
def zo (kind c:Int):Bool:=cond (decide (kind=1)) (decide (c=0)) (cond (decide (kind=2)) (!decide (c=0)) (cond (decide (kind=3)) (decide (c<0)) (decide (c<=0))))
def compare (kind:Int) (a b:ag.D):Int:=cond (inR kind 1 4&&(aK a&&aK b)) (cond (decide (a.1=(0:Int))||decide (b.1=(0:Int))) 2 (cond (decide (a.1=b.1)) (bool (zo kind (order a b))) (-1))) (-1)
def nh (columns:List ai.D) (row:List ag.D) (k:Int):Bool:=decide ((nth (t:=ag) row k).1=(nth (t:=ai) columns k).1)||(decide ((nth (t:=ag) row k).1=(0:Int))&&(nth (t:=ai) columns k).2.1)
def bD (columns:List ai.D) (row:List ag.D):Bool:=aW columns&&(jL row&&(decide (row.length=columns.length)&&(aN 0 (row.length:Int)).all (nh columns row)))
def fW (columns:List ai.D) (rows:List (List ag.D)):Bool:=aW columns&&rows.all (bD columns)
def cM (t:aj.D):Bool:=decide (t.2.1.length<=6)&&fW t.1 t.2.1
def bt (ts:List aj.D):Bool:=decide (ts.length<=3)&&ts.all cM
def takes (p:dy.D):Int:=cond (decide (p.1=(3:Int))||decide (p.1=(4:Int))||decide (p.1=(5:Int))||decide (p.1=(6:Int))) 2 (cond (decide (p.1=(7:Int))||decide (p.1=(8:Int))) 1 0)
def sum (a b:ag.D):ag.D:=cond (decide (a.1=(0:Int))||decide (b.1=(0:Int))||!inR (wrap64 (a.2.1+b.2.1)) (-9999) 9999) zeroV ((1:Int),wrap64 (a.2.1+b.2.1),none_,())
def xZ (p:dy.D) (row:List ag.D) (l:List ag.D):ag.D:=
 cond (decide (p.1=(1:Int))) p.2.2.1
 (cond (decide (p.1=(2:Int))) (nth (t:=ag) row p.2.1)
 (cond (decide (p.1=(3:Int))) (sum (nth (t:=ag) l 0) (nth (t:=ag) l 1))
 (cond (decide (p.1=(4:Int))) (valueOf (compare p.2.1 (nth (t:=ag) l 0) (nth (t:=ag) l 1)))
 (cond (decide (p.1=(5:Int))) (valueOf (AT (oa (nth (t:=ag) l 0)) (oa (nth (t:=ag) l 1))))
 (cond (decide (p.1=(6:Int))) (valueOf (Be (oa (nth (t:=ag) l 0)) (oa (nth (t:=ag) l 1))))
 (cond (decide (p.1=(7:Int))) (valueOf (AU (oa (nth (t:=ag) l 0))))
 (valueOf (bool (decide ((nth (t:=ag) l 0).1=(0:Int)))))))))))
def zZ (row:List ag.D) (st:List ag.D) (p:dy.D):List ag.D:=st.take (st.length-(takes p).toNat)++[xZ p row (st.drop (st.length-(takes p).toNat))]
def xQ (row:List ag.D) (e:List dy.D):ag.D:=nth (t:=ag) (e.foldl (zZ row) []) 0
end M
theorem yA {n N:Int} (h:M.inR n 0 N=true):0<=n:=M.yA h
end Go.AE
end
section
namespace Go.AE
open Go Go.RowKit
@[simp] theorem jR {α β:Type} (x:α) (f:α->β):aY x f=f x:=rfl
@[simp] theorem AL {σ ε:Type} (s:σ) (g:σ->ε):Ah (some (.inl s)) g=some (g s):=rfl
@[simp] theorem AK {σ ε:Type} (e:ε) (g:σ->ε):Ah (some (.inr e)) g=some e:=rfl
@[simp] theorem AI {σ ε ρ:Type} (s:σ) (g:σ->ε):An (ρ:=ρ) (some (.inl s)) g=some (.inl (g s)):=rfl
@[simp] theorem AN {σ ε ρ:Type} (r:Sum ε ρ) (g:σ->ε):An (some (.inr r)) g=some r:=rfl
@[simp] theorem AJ {α σ ρ:Type} (f:α->σ->Option (Sum σ ρ)) (s:σ):aU f [] s=some (.inl s):=rfl
theorem fz {α σ ρ:Type} (f:α->σ->Option (Sum σ ρ)) (x:α) (xs:List α) (s:σ):aU f (x::xs) s=bG (f x s) (fun s'=>aU f xs s') (fun r=>some (.inr r)):=rfl
theorem iS {a n i:Int}:i∈aN a n ↔ a<=i/\i<n:=by
 unfold aN
 simp only[List.mem_map,List.mem_range]
 constructor
 ·rintro ⟨k,hk,rfl⟩
  omega
 ·rintro ⟨h1,h2⟩
  exact⟨(i-a).toNat,by omega,by omega⟩
theorem uD {α ρ:Type} {f:α->Unit->Option (Sum Unit ρ)} (p:α->Bool) (r:ρ):∀{xs:List α} (_:∀x∈xs,f x ()=some (cond (p x) (.inr r) (.inl ()))),
  aU f xs ()=some (cond (xs.any p) (.inr r) (.inl ()))
 | [],_=>rfl
 | x::xs,h=>by
  rw[fz,h x (List.mem_cons_self ..),List.any_cons]
  cases hp:p x with
  | true=>rfl
  | false=>exact uD p r (fun y hy=>h y (List.mem_cons_of_mem _ hy))
theorem za {α ρ:Type} {f:α->Unit->Option (Sum Unit ρ)} (p:α->Bool) (r:ρ) {xs:List α} (h:∀x∈xs,f x ()=some (cond (p x) (.inl ()) (.inr r))) :
  aU f xs ()=some (cond (xs.all p) (.inl ()) (.inr r)):=by
 rw[uD (fun x=>!p x) r (fun x hx=>by rw[h x hx];cases p x<;>rfl)]
 rw[List.all_eq_not_any_not]
 cases xs.any fun x=>!p x<;>rfl
theorem tc {α σ ρ:Type} {f:α->σ->Option (Sum σ ρ)} (g:σ->α->σ) (I:σ->Prop):∀{xs:List α} {s:σ} (_:I s) (_:∀x∈xs,∀s,I s->f x s=some (.inl (g s x))/\I (g s x)),
  aU f xs s=some (.inl (xs.foldl g s))/\I (xs.foldl g s)
 | [],s,h0,_=>⟨rfl,h0⟩
 | x::xs,s,h0,h=>by
  obtain⟨h1,h2⟩:=h x (List.mem_cons_self ..) s h0
  rw[fz,h1]
  exact tc g I h2 (fun y hy=>h y (List.mem_cons_of_mem _ hy))
theorem vr {α β ρ:Type} {f:α->List β->Option (Sum (List β) ρ)} (g:α->β) {xs:List α} (h:∀x∈xs,∀s:List β,s.length<xs.length->f x s=some (.inl (s++[g x]))) :
  aU f xs []=some (.inl (xs.map g)):=by
 have key:∀(ys zs:List α) (s:List β),xs=zs++ys->s.length=zs.length->aU f ys s=some (.inl (s++ys.map g)):=by
  intro ys
  induction ys with
  | nil=>intro zs s _ _;simp
  | cons y ys ih=>
   intro zs s e hs
   rw[fz,h y (by rw[e];simp) s (by rw[e,hs];simp)]
   rw[eT,ih (zs++[y]) (s++[g y]) (by rw[e];simp) (by simp[hs])]
   simp
 have:=key xs [] [] rfl rfl
 simpa using this
theorem uU {t:Ty} (x:t.D) (xs:List t.D):nth (t:=t) (x::xs) 0=x:=rfl
theorem uR {t:Ty} (x:t.D) (xs:List t.D) {i:Int} (h:0<=i):nth (t:=t) (x::xs) (i+1)=nth (t:=t) xs i:=by
 have e:(i+1).toNat=i.toNat+1:=by omega
 unfold nth
 rw[e,List.getD_cons_succ]
theorem vp (n:Nat):aN 0 ((n:Int)+1)=0::(aN 0 n).map (fun i=>i+1):=by
 rw[gE (by omega)]
 congr 1
 unfold aN
 have e1:((n:Int)+1-(0+1)).toNat=n:=by omega
 have e2:((n:Int)-0).toNat=n:=by omega
 rw[e1,e2,List.map_map]
 apply List.map_congr_left
 intro k _
 simp
 omega
theorem mJ {t:Ty}:∀(xs:List t.D),(aN 0 (xs.length:Int)).map (fun i=>nth xs i)=xs
 | []=>by rw[iR (by simp)];rfl
 | x::xs=>by
  have e:((x::xs).length:Int)=(xs.length:Int)+1:=by simp
  rw[e,vp,List.map_cons,List.map_map,uU]
  congr 1
  refine(List.map_congr_left (g:=fun i=>nth xs i) ?_).trans (mJ xs)
  intro i hi
  exact uR x xs (iS.1 hi).1
theorem vN {t:Ty} {p:t.D->Bool} {xs:List t.D}:decide ((0:Int)<=M.idx (t:=t) p xs)=xs.any p:=by
 unfold M.idx
 split
 ·rename_i k h
  obtain⟨h1,h2,_⟩:=List.findIdx?_eq_some_iff_getElem.1 h
  rw[decide_eq_true (by omega)]
  exact(List.any_eq_true.2 ⟨_,List.getElem_mem h1,h2⟩).symm
 ·rename_i h
  rw[decide_eq_false (by omega)]
  rw[List.findIdx?_eq_none_iff] at h
  symm
  rw[List.any_eq_false]
  intro x hx
  simp[h x hx]
theorem qT {t:Ty} (p:t.D->Bool):∀(xs:List t.D) (a:Int) (f:Int->Unit->Option (Sum Unit Int)) (_:∀i,0<=i->i<(xs.length:Int)->f (a+i) ()=some (cond (p (nth xs i)) (.inr (a+i)) (.inl ()))),
  aU f (aN a (a+(xs.length:Int))) ()=some (match xs.findIdx? p with | some k=>.inr (a+(k:Int)) | none=>.inl ())
 | [],a,f,_=>by rw[iR (by simp)];rfl
 | x::xs,a,f,h=>by
  have e:((x::xs).length:Int)=(xs.length:Int)+1:=by simp
  have h0:=h 0 (Int.le_refl _) (by rw[e];omega)
  rw[Int.add_zero,uU] at h0
  rw[gE (by rw[e];omega),fz,h0,List.findIdx?_cons]
  cases hp:p x with
  | true=>simp
  | false=>
   simp only[cond_false,eT]
   have ih:=qT p xs (a+1) f (fun i i0 i1=>by
    have:=h (i+1) (by omega) (by rw[e];omega)
    rw[uR x xs i0] at this
    rw[show a+1+i=a+(i+1) by omega]
    exact this)
   rw[show a+((x::xs).length:Int)=a+1+(xs.length:Int) by rw[e];omega,ih]
   cases List.findIdx? p xs with
   | none=>rfl
   | some k=>simp;omega
theorem fN {t:Ty} {p:t.D->Bool} {xs:List t.D} {f:Int->Unit->Option (Sum Unit Int)} (h:∀i,0<=i->i<(xs.length:Int)->f i ()=some (cond (p (nth xs i)) (.inr i) (.inl ()))) :
  bG (aU f (aN 0 (xs.length:Int)) ()) (fun _:Unit=>some (-1:Int)) (fun q:Int=>some q)=some (M.idx p xs):=by
 have:=qT p xs 0 f (fun i h0 h1=>by rw[Int.zero_add];exact h i h0 h1)
 rw[Int.zero_add] at this
 rw[this]
 unfold M.idx
 cases List.findIdx? p xs with
 | none=>rfl
 | some k=>simp
theorem dM {t:Ty} {p:t.D->Bool} {xs:List t.D}:some (decide ((0:Int)<=M.idx (t:=t) p xs))=some (xs.any p):=by rw[vN]
theorem dN {α:Type} {b:Bool} {x y:α}:cond b (some x) (some y)=some (cond b x y):=by cases b<;>rfl
theorem lW {α:Type} {b:Bool} {x y:α}:cond (!b) x y=cond b y x:=by cases b<;>rfl
theorem beq_iff:∀{t:Ty} (_:t.flat=true) (x y:t.D),Ty.beq t x y=true ↔ x=y
 | .int _,_,x,y=>by simp only[Ty.beq,decide_eq_true_eq]
 | .bool,_,x,y=>by simp only[Ty.beq,beq_iff_eq]
 | .str,_,x,y=>by simp only[Ty.beq,decide_eq_true_eq]
 | .unit,_,x,y=>by simp only[Ty.beq]
 | .sl _,h,_,_=>by cases h
 | .pair a b,h,x,y=>by
  simp only[Ty.flat,Bool.and_eq_true] at h
  simp only[Ty.beq,Bool.and_eq_true,beq_iff h.1,beq_iff h.2]
  constructor
  ·rintro ⟨h1,h2⟩
   exact Prod.ext h1 h2
  ·rintro rfl
   exact⟨rfl,rfl⟩
theorem fM {α ρ τ:Type} {f:α->Unit->Option (Sum Unit ρ)} (p:α->Bool) (r:ρ) {xs:List α} (h:∀x∈xs,f x ()=some (cond (p x) (.inl ()) (.inr r))) {A:Unit->Option τ} {B:ρ->Option τ} :
  bG (aU f xs ()) A B=cond (xs.all p) (A ()) (B r):=by
 rw[za p r h]
 cases xs.all p<;>rfl
theorem iC {a b:Bool}:cond (a==true) (some b) (some false)=some (a&&b):=by cases a<;>rfl
theorem uc {s:ByteArray} {i:Int} (h0:0<=i) (h1:i<(s.size:Int)):((s.get! i.toNat).toNat:Int)=nth (t:=.int .u8) (aP s) i:=by
 have hl:=gW s
 have hlt:i.toNat<(aP s).length:=by omega
 have hd:i.toNat<s.data.size:=by
  have:i.toNat<s.size:=by omega
  exact this
 unfold nth
 rw[List.getD_eq_getElem?_getD,List.getElem?_eq_getElem hlt]
 simp only[aP,List.getElem_map,Option.getD_some]
 have:s.get! i.toNat=s.data[i.toNat]:=by
  cases s with
  | mk d=>exact getElem!_pos d i.toNat hd
 rw[this]
 simp
theorem xO {t:Ty} (xs:List t.D) (p:t.D->Bool):(aN 0 (xs.length:Int)).all (fun i=>p (nth xs i))=xs.all p:=by
 conv=>rhs;rw[<-mJ xs]
 rw[List.all_map]
 rfl
theorem yB {s:ByteArray} {n:Int} (h:n∈aP s):0<=n/\n<=255:=by
 simp only[aP,List.mem_map] at h
 obtain⟨b,_,rfl⟩:=h
 have:=b.toNat_lt
 omega
namespace M
theorem take_set {α:Type} {xs ys:List α} {n:Nat} (h:n<xs.length) (hl:ys.length=xs.length) (ht:List.take n ys=List.take n xs):List.take (n+1) (ys.set n xs[n])=List.take (n+1) xs:=by
 have h2:n<ys.length:=by omega
 rw[List.take_add_one,List.take_add_one]
 rw[List.take_set_of_le (Nat.le_refl n),ht,List.getElem?_set_self h2,List.getElem?_eq_getElem h]
theorem eq_eq {α:Type} {x:List α} {f:Int->Unit->Option (Sum Unit Unit)} (hf:∀i,0<=i->i<(x.length:Int)->f i ()=some (.inl ())) :
  cond (!decide ((x.length:Int)=(x.length:Int))) (some false) (bG (aU f (aN (0:Int) (x.length:Int)) ()) (fun _:Unit=>some true) (fun _:Unit=>some false))=some true:=by
 rw[decide_eq_true rfl,fM (fun _=>true) () (fun i hi=>by
  obtain⟨h0,h1⟩:=iS.1 hi
  exact hf i h0 h1)]
 have:(aN (0:Int) (x.length:Int)).all (fun _=>true)=true:=by simp
 rw[this]
 rfl
theorem ji {α:Type} {x:Option α}:ah True x=x:=aF trivial
theorem mS {α β:Type} {x:α} {y:Option β}:ah (x=x) y=y:=aF rfl
end M
end Go.AE
end
section
namespace Go.AE
open Go Go.RowKit
set_option linter.unusedVariables false
namespace M
theorem zK {t:Ty} {a:List t.D} {i:Int} {z:t.D} (h0:0<=i) (h1:i<(a.length:Int)):nth (t:=t) (a.set i.toNat z) i=z:=by
 have:i.toNat<a.length:=by omega
 unfold nth
 rw[List.getD_eq_getElem?_getD,List.getElem?_set_self this]
 rfl
end M
end Go.AE
end
