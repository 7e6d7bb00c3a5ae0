/- Laws of loops over lists. -/
import Derived.Test.YtmkgiaecgkicoaaGreatAeMM
namespace Go.AE
open Go Go.RowKit
@[simp] theorem aY {α β:Type} (x:α) (f:α->β):bD x f=f x:=rfl
@[simp] theorem Ji {σ ε:Type} (s:σ) (g:σ->ε):Iu (some (.inl s)) g=some (g s):=rfl
@[simp] theorem Jh {σ ε:Type} (e:ε) (g:σ->ε):Iu (some (.inr e)) g=some e:=rfl
@[simp] theorem Jg {σ ε ρ:Type} (s:σ) (g:σ->ε):IA (ρ:=ρ) (some (.inl s)) g=some (.inl (g s)):=rfl
@[simp] theorem Jf {σ ε ρ:Type} (r:Sum ε ρ) (g:σ->ε):IA (some (.inr r)) g=some r:=rfl
@[simp] theorem Jd {α σ ρ:Type} (f:α->σ->Option (Sum σ ρ)) (s:σ):aK f [] s=some (.inl s):=rfl
theorem cq {α σ ρ:Type} (f:α->σ->Option (Sum σ ρ)) (x:α) (xs:List α) (s:σ):aK f (x::xs) s=aT (f x s) (fun s'=>aK f xs s') (fun r=>some (.inr r)):=rfl
theorem cR {a n i:Int}:i∈aH a n ↔ a<=i/\i<n:=by
 unfold aH
 simp only[List.mem_map,List.mem_range]
 constructor
 ·rintro ⟨k,hk,rfl⟩
  omega
 ·rintro ⟨h1,h2⟩
  exact⟨(i-a).toNat,by omega,by omega⟩
theorem Ap {α ρ:Type} {f:α->Unit->Option (Sum Unit ρ)} (p:α->Bool) (r:ρ):∀{xs:List α} (_:∀x∈xs,f x ()=some (cond (p x) (.inr r) (.inl ()))),
  aK f xs ()=some (cond (xs.any p) (.inr r) (.inl ()))
 | [],_=>rfl
 | x::xs,h=>by
  rw[cq,h x (List.mem_cons_self ..),List.any_cons]
  cases hp:p x with
  | true=>rfl
  | false=>exact Ap p r (fun y hy=>h y (List.mem_cons_of_mem _ hy))
theorem Df {α ρ:Type} {f:α->Unit->Option (Sum Unit ρ)} (p:α->Bool) (r:ρ) {xs:List α} (h:∀x∈xs,f x ()=some (cond (p x) (.inl ()) (.inr r))) :
  aK f xs ()=some (cond (xs.all p) (.inl ()) (.inr r)):=by
 rw[Ap (fun x=>!p x) r (fun x hx=>by rw[h x hx];cases p x<;>rfl)]
 rw[List.all_eq_not_any_not]
 cases xs.any fun x=>!p x<;>rfl
theorem vX {α σ ρ:Type} {f:α->σ->Option (Sum σ ρ)} (g:σ->α->σ) (I:σ->Prop):∀{xs:List α} {s:σ} (_:I s) (_:∀x∈xs,∀s,I s->f x s=some (.inl (g s x))/\I (g s x)),
  aK f xs s=some (.inl (xs.foldl g s))/\I (xs.foldl g s)
 | [],s,h0,_=>⟨rfl,h0⟩
 | x::xs,s,h0,h=>by
  obtain⟨h1,h2⟩:=h x (List.mem_cons_self ..) s h0
  rw[cq,h1]
  exact vX g I h2 (fun y hy=>h y (List.mem_cons_of_mem _ hy))
theorem vB {α β ρ:Type} {f:α->List β->Option (Sum (List β) ρ)} (g:α->β) {xs:List α} (h:∀x∈xs,∀s:List β,s.length<xs.length->f x s=some (.inl (s++[g x]))) :
  aK f xs []=some (.inl (xs.map g)):=by
 have key:∀(ys zs:List α) (s:List β),xs=zs++ys->s.length=zs.length->aK f ys s=some (.inl (s++ys.map g)):=by
  intro ys
  induction ys with
  | nil=>intro zs s _ _;simp
  | cons y ys ih=>
   intro zs s e hs
   rw[cq,h y (by rw[e];simp) s (by rw[e,hs];simp)]
   rw[bL,ih (zs++[y]) (s++[g y]) (by rw[e];simp) (by simp[hs])]
   simp
 have:=key xs [] [] rfl rfl
 simpa using this
theorem wO {t:Ty} {xs:List t.D} {i:Int} (h0:0<=i) (h1:i<(xs.length:Int)):nth xs i=xs[i.toNat]'(by omega):=by
 unfold nth
 rw[List.getD_eq_getElem?_getD,List.getElem?_eq_getElem (by omega)]
 rfl
theorem DJ {t:Ty} (x:t.D) (xs:List t.D):nth (t:=t) (x::xs) 0=x:=rfl
theorem yW {t:Ty} (x:t.D) (xs:List t.D) {i:Int} (h:0<=i):nth (t:=t) (x::xs) (i+1)=nth (t:=t) xs i:=by
 have e:(i+1).toNat=i.toNat+1:=by omega
 unfold nth
 rw[e,List.getD_cons_succ]
theorem CT (n:Nat):aH 0 ((n:Int)+1)=0::(aH 0 n).map (fun i=>i+1):=by
 rw[eH (by omega)]
 congr 1
 unfold aH
 have e1:((n:Int)+1-(0+1)).toNat=n:=by omega
 have e2:((n:Int)-0).toNat=n:=by omega
 rw[e1,e2,List.map_map]
 apply List.map_congr_left
 intro k _
 simp
 omega
theorem iz {t:Ty}:∀(xs:List t.D),(aH 0 (xs.length:Int)).map (fun i=>nth xs i)=xs
 | []=>by rw[fM (by simp)];rfl
 | x::xs=>by
  have e:((x::xs).length:Int)=(xs.length:Int)+1:=by simp
  rw[e,CT,List.map_cons,List.map_map,DJ]
  congr 1
  refine(List.map_congr_left (g:=fun i=>nth xs i) ?_).trans (iz xs)
  intro i hi
  exact yW x xs (cR.1 hi).1
theorem IQ {t:Ty} {p:t.D->Bool} {xs:List t.D}:M.idx (t:=t) p xs<(xs.length:Int)\/xs=[]:=by
 unfold M.idx
 split
 ·rename_i k h
  left
  have:=(List.findIdx?_eq_some_iff_getElem.1 h).1
  omega
 ·cases xs
  ·exact .inr rfl
  ·left;simp;omega
theorem zT {t:Ty} {p:t.D->Bool} {xs:List t.D}:decide ((0:Int)<=M.idx (t:=t) p xs)=xs.any p:=by
 unfold M.idx
 split
 ·rename_i k h
  obtain⟨h1,h2,_⟩:=List.findIdx?_eq_some_iff_getElem.1 h
  rw[decide_eq_true (by omega)]
  exact(List.any_eq_true.2 ⟨_,List.getElem_mem h1,h2⟩).symm
 ·rename_i h
  rw[decide_eq_false (by omega)]
  rw[List.findIdx?_eq_none_iff] at h
  symm
  rw[List.any_eq_false]
  intro x hx
  simp[h x hx]
theorem Ak {t:Ty} (p:t.D->Bool):∀(xs:List t.D) (a:Int) (f:Int->Unit->Option (Sum Unit Int)) (_:∀i,0<=i->i<(xs.length:Int)->f (a+i) ()=some (cond (p (nth xs i)) (.inr (a+i)) (.inl ()))),
  aK f (aH a (a+(xs.length:Int))) ()=some (match xs.findIdx? p with | some k=>.inr (a+(k:Int)) | none=>.inl ())
 | [],a,f,_=>by rw[fM (by simp)];rfl
 | x::xs,a,f,h=>by
  have e:((x::xs).length:Int)=(xs.length:Int)+1:=by simp
  have h0:=h 0 (Int.le_refl _) (by rw[e];omega)
  rw[Int.add_zero,DJ] at h0
  rw[eH (by rw[e];omega),cq,h0,List.findIdx?_cons]
  cases hp:p x with
  | true=>simp
  | false=>
   simp only[cond_false,bL]
   have ih:=Ak p xs (a+1) f (fun i i0 i1=>by
    have:=h (i+1) (by omega) (by rw[e];omega)
    rw[yW x xs i0] at this
    rw[show a+1+i=a+(i+1) by omega]
    exact this)
   rw[show a+((x::xs).length:Int)=a+1+(xs.length:Int) by rw[e];omega,ih]
   cases List.findIdx? p xs with
   | none=>rfl
   | some k=>simp;omega
theorem cI {t:Ty} {p:t.D->Bool} {xs:List t.D} {f:Int->Unit->Option (Sum Unit Int)} (h:∀i,0<=i->i<(xs.length:Int)->f i ()=some (cond (p (nth xs i)) (.inr i) (.inl ()))) :
  aT (aK f (aH 0 (xs.length:Int)) ()) (fun _:Unit=>some (-1:Int)) (fun q:Int=>some q)=some (M.idx p xs):=by
 have:=Ak p xs 0 f (fun i h0 h1=>by rw[Int.zero_add];exact h i h0 h1)
 rw[Int.zero_add] at this
 rw[this]
 unfold M.idx
 cases List.findIdx? p xs with
 | none=>rfl
 | some k=>simp
theorem cv {t:Ty} {p:t.D->Bool} {xs:List t.D}:some (decide ((0:Int)<=M.idx (t:=t) p xs))=some (xs.any p):=by rw[zT]
theorem DK {t:Ty} [DecidableEq t.D] {xs ys:List t.D} {f:Int->Unit->Option (Sum Unit Unit)} (h:∀i,0<=i->i<(xs.length:Int)->i<(ys.length:Int)->f i ()=some (cond (decide (nth xs i=nth ys i)) (.inl ()) (.inr ()))) :
  cond (!decide ((xs.length:Int)=(ys.length:Int))) (some false) (aT (aK f (aH 0 (xs.length:Int)) ()) (fun _:Unit=>some true) (fun _:Unit=>some false))=some (decide (xs=ys)):=by
 by_cases hl:xs.length=ys.length
 ·rw[decide_eq_true (by omega:(xs.length:Int)=(ys.length:Int))]
  simp only[Bool.not_true,cond_false]
  rw[Df (fun i=>decide (nth xs i=nth ys i)) () (fun i hi=>by
   obtain⟨h0,h1⟩:=cR.1 hi
   exact h i h0 h1 (by omega))]
  have e:(aH 0 (xs.length:Int)).all (fun i=>decide (nth xs i=nth ys i))=decide (xs=ys):=by
   by_cases he:xs=ys
   ·rw[decide_eq_true he,List.all_eq_true]
    intro i _
    rw[he]
    simp
   ·rw[decide_eq_false he,List.all_eq_false]
    refine Classical.byContradiction fun hn=>he ?_
    rw[<-iz xs,<-iz ys,hl]
    apply List.map_congr_left
    intro i hi
    refine Classical.byContradiction fun hne=>hn ⟨i,by rw[hl];exact hi,?_⟩
    simpa using hne
  rw[e]
  cases decide (xs=ys)<;>rfl
 ·rw[decide_eq_false (by omega:¬(xs.length:Int)=(ys.length:Int)),decide_eq_false (fun e=>hl (by rw[e]))]
  rfl
theorem aW {α:Type} {b:Bool} {x y:α}:cond b (some x) (some y)=some (cond b x y):=by cases b<;>rfl
theorem fV {α:Type} {b:Bool} {x y:α}:cond (!b) x y=cond b y x:=by cases b<;>rfl
theorem beq_iff:∀{t:Ty} (_:t.flat=true) (x y:t.D),Ty.beq t x y=true ↔ x=y
 | .int _,_,x,y=>by simp only[Ty.beq,decide_eq_true_eq]
 | .bool,_,x,y=>by simp only[Ty.beq,beq_iff_eq]
 | .str,_,x,y=>by simp only[Ty.beq,decide_eq_true_eq]
 | .unit,_,x,y=>by simp only[Ty.beq]
 | .sl _,h,_,_=>by cases h
 | .pair a b,h,x,y=>by
  simp only[Ty.flat,Bool.and_eq_true] at h
  simp only[Ty.beq,Bool.and_eq_true,beq_iff h.1,beq_iff h.2]
  constructor
  ·rintro ⟨h1,h2⟩
   exact Prod.ext h1 h2
  ·rintro rfl
   exact⟨rfl,rfl⟩
theorem EX {t:Ty} (h:t.flat=true) [DecidableEq t.D] (x y:t.D):Ty.beq t x y=decide (x=y):=by
 cases hb:Ty.beq t x y with
 | true=>exact(decide_eq_true ((beq_iff h x y).1 hb)).symm
 | false=>exact(decide_eq_false (fun e=>by rw[(beq_iff h x y).2 e] at hb;cases hb)).symm
theorem lW (n:Nat) (h:n<=1048576):wrap64 ((n:Int)-1)=(n:Int)-1:=aJ (by omega) (by omega)
theorem GS {α ρ τ:Type} {f:α->Unit->Option (Sum Unit ρ)} (p:α->Bool) (r:ρ) {xs:List α} (h:∀x∈xs,f x ()=some (cond (p x) (.inr r) (.inl ()))) {A:Unit->Option τ} {B:ρ->Option τ} :
  aT (aK f xs ()) A B=cond (xs.any p) (B r) (A ()):=by
 rw[Ap p r h]
 cases xs.any p<;>rfl
theorem fe {α ρ τ:Type} {f:α->Unit->Option (Sum Unit ρ)} (p:α->Bool) (r:ρ) {xs:List α} (h:∀x∈xs,f x ()=some (cond (p x) (.inl ()) (.inr r))) {A:Unit->Option τ} {B:ρ->Option τ} :
  aT (aK f xs ()) A B=cond (xs.all p) (A ()) (B r):=by
 rw[Df p r h]
 cases xs.all p<;>rfl
theorem BP {τ:Type} {f:Int->Unit->Option (Sum Unit Int)} (p:Int->Bool) {xs:List Int} (h:∀x∈xs,f x ()=some (cond (p x) (.inr x) (.inl ()))) {A:Unit->Option τ} {B:Int->Option τ} :
  aT (aK f xs ()) A B=match xs.find? p with | some r=>B r | none=>A ():=by
 induction xs with
 | nil=>rfl
 | cons x xs ih=>
  rw[cq,h x (List.mem_cons_self ..),List.find?_cons]
  cases p x with
  | true=>rfl
  | false=>exact ih (fun y hy=>h y (List.mem_cons_of_mem _ hy))
theorem ff {a b:Bool}:cond (a==true) (some b) (some false)=some (a&&b):=by cases a<;>rfl
theorem DB {a b:Bool}:cond a (some b) (some false)=some (a&&b):=by cases a<;>rfl
theorem Ch {s:ByteArray} {i:Int} (h0:0<=i) (h1:i<(s.size:Int)):((s.get! i.toNat).toNat:Int)=nth (t:=.int .u8) (bI s) i:=by
 have hl:=lD s
 have hlt:i.toNat<(bI s).length:=by omega
 have hd:i.toNat<s.data.size:=by
  have:i.toNat<s.size:=by omega
  exact this
 unfold nth
 rw[List.getD_eq_getElem?_getD,List.getElem?_eq_getElem hlt]
 simp only[bI,List.getElem_map,Option.getD_some]
 have:s.get! i.toNat=s.data[i.toNat]:=by
  cases s with
  | mk d=>exact getElem!_pos d i.toNat hd
 rw[this]
 simp
theorem FN {t:Ty} (xs:List t.D) (p:t.D->Bool):(aH 0 (xs.length:Int)).all (fun i=>p (nth xs i))=xs.all p:=by
 conv=>rhs;rw[<-iz xs]
 rw[List.all_map]
 rfl
theorem BN {t:Ty} (xs:List t.D) (p:t.D->Bool):(aH 0 (xs.length:Int)).any (fun i=>p (nth xs i))=xs.any p:=by
 conv=>rhs;rw[<-iz xs]
 rw[List.any_map]
 rfl
theorem Hg {s:ByteArray} {n:Int} (h:n∈bI s):0<=n/\n<=255:=by
 simp only[bI,List.mem_map] at h
 obtain⟨b,_,rfl⟩:=h
 have:=b.toNat_lt
 omega
def BM (x:aa.D):Prop:=x.2.2.1.size<=9223372036854775807
namespace M
def Le {α:Type} (f:α->Int->Int):Prop:=∀x l,0<=l->f x l<=l
theorem iw (n:Nat) (l:Int) (h:0<=l):bE n l<=l:=by
 unfold bE
 split<;>omega
theorem dW:Le bM:=fun x l h=>iw _ l h
theorem Bw {α:Type} {f:α->Int->Int} (hf:Le f):∀(xs:List α) (l:Int),0<=l->rJ f xs l<=l
 | [],l,_=>Int.le_refl _
 | x::xs,l,h=>by
  unfold rJ
  split
  ·omega
  ·rename_i h1
   have:=hf x l h
   have:=Bw hf xs (f x l) (by omega)
   omega
theorem lA {α:Type} {f:α->Int->Int} (hf:Le f):Le (szS f):=by
 intro x l h
 unfold szS
 split
 ·omega
 ·have:=Bw hf x (l-x.length) (by omega)
  omega
theorem jR {r l:Int} {k:Int->Int} (h:r<=l) (hl:0<=l) (hk:0<=r->k r<=r):iP r k<=l:=by
 unfold iP
 split
 ·omega
 ·have:=hk (by omega)
  omega
theorem tZ:Le bH:=fun x l h=>jR (iw _ _ h) h fun h=>jR (lA (lA dW) _ _ h) h fun _=>Int.le_refl _
theorem sn:Le gy:=fun x l h=>jR (dW _ _ h) h fun _=>Int.le_refl _
theorem wE:Le dj:=fun x l h=>jR (iw _ _ h) h fun h=>jR (iw _ _ h) h fun h=>jR (lA sn _ _ h) h fun _=>Int.le_refl _
theorem BH {α:Type} {f:α->Int->Int} {b:α->Int->Option (Sum Int Unit)} (hf:Le f) (hb:∀z l,0<=l->l<=1048576->b z l=some (cond (decide (f z l<0)) (.inr ()) (.inl (f z l)))) :
  ∀(xs:List α) (l:Int),0<=l->l<=1048576->aT (aK b xs l) (fun v:Int=>some v) (fun _:Unit=>some (-1:Int))=some (rJ f xs l)
 | [],l,_,_=>rfl
 | x::xs,l,h0,h1=>by
  rw[cq,hb x l h0 h1]
  unfold rJ
  by_cases h:f x l<0
  ·rw[decide_eq_true h,if_pos h]
   rfl
  ·rw[decide_eq_false h,if_neg h]
   have:=hf x l h0
   exact BH hf hb xs (f x l) (by omega) (by omega)
theorem zb {α:Type} {f:α->Int->Int} {b:α->Int->Option (Sum Int Unit)} {x:List α} {left:Int} (hf:Le f) (hx:x.length<=9223372036854775807) (h0:0<=left) (h1:left<=1048576)
  (hb:∀z l,0<=l->l<=1048576->b z l=some (cond (decide (f z l<0)) (.inr ()) (.inl (f z l)))) :
  cond (decide (wrap64 (left-(x.length:Int))<(0:Int))) (some (-1:Int)) (aT (aK b x (wrap64 (left-(x.length:Int)))) (fun v:Int=>some v) (fun _:Unit=>some (-1:Int)))=some (szS f x left):=by
 rw[aJ (n:=left-(x.length:Int)) (by omega) (by omega)]
 unfold szS
 by_cases h:left-(x.length:Int)<0
 ·rw[decide_eq_true h,if_pos h]
  rfl
 ·rw[decide_eq_false h,if_neg h]
  exact BH hf hb x _ (by omega) (by omega)
theorem take_set {α:Type} {xs ys:List α} {n:Nat} (h:n<xs.length) (hl:ys.length=xs.length) (ht:List.take n ys=List.take n xs):List.take (n+1) (ys.set n xs[n])=List.take (n+1) xs:=by
 have h2:n<ys.length:=by omega
 rw[List.take_add_one,List.take_add_one]
 rw[List.take_set_of_le (Nat.le_refl n),ht,List.getElem?_set_self h2,List.getElem?_eq_getElem h]
theorem Jb {t:Ty} {x:List t.D} {f:Int->List t.D->Option (Sum (List t.D) Unit)} (hf:∀i v,0<=i->i<(x.length:Int)->i<(v.length:Int)->f i v=some (.inl (v.set i.toNat (nth x i)))) :
  ∀(n:Nat) (i:Int) (v:List t.D),n=((x.length:Int)-i).toNat->0<=i->i<=(x.length:Int)->v.length=x.length->v.take i.toNat=x.take i.toNat->aK f (aH i (x.length:Int)) v=some (.inl x):=by
 intro n
 induction n with
 | zero=>
  intro i v hn h0 h1 hl ht
  rw[fM (by omega)]
  rw[List.take_of_length_le (by omega),List.take_of_length_le (by omega)] at ht
  rw[ht]
  rfl
 | succ n ih=>
  intro i v hn h0 h1 hl ht
  have hlt:i<(x.length:Int):=by omega
  rw[eH hlt,cq,hf i v h0 hlt (by omega),bL]
  refine ih (i+1) _ (by omega) (by omega) (by omega) (by simp[hl]) ?_
  have e:(i+1).toNat=i.toNat+1:=by omega
  rw[e,wO h0 hlt]
  exact take_set (by omega) hl ht
theorem to_eq {t:Ty} {x:List t.D} {z:t.D} {f:Int->List t.D->Option (Sum (List t.D) Unit)} (hf:∀i v,0<=i->i<(x.length:Int)->i<(v.length:Int)->f i v=some (.inl (v.set i.toNat (nth x i)))) :
  aT (aK f (aH (0:Int) (x.length:Int)) (List.replicate (x.length:Int).toNat z)) (fun v:List t.D=>some v) (fun _:Unit=>none)=some x:=by
 rw[Jb hf (x.length:Int).toNat 0 _ (by omega) (by omega) (by omega) (by simp) (by simp)]
 rfl
theorem eq_eq {α:Type} {x:List α} {f:Int->Unit->Option (Sum Unit Unit)} (hf:∀i,0<=i->i<(x.length:Int)->f i ()=some (.inl ())) :
  cond (!decide ((x.length:Int)=(x.length:Int))) (some false) (aT (aK f (aH (0:Int) (x.length:Int)) ()) (fun _:Unit=>some true) (fun _:Unit=>some false))=some true:=by
 rw[decide_eq_true rfl,fe (fun _=>true) () (fun i hi=>by
  obtain⟨h0,h1⟩:=cR.1 hi
  exact hf i h0 h1)]
 have:(aH (0:Int) (x.length:Int)).all (fun _=>true)=true:=by simp
 rw[this]
 rfl
theorem iX {α:Type} {x:Option α}:ag True x=x:=af trivial
theorem di {α β:Type} {x:α} {y:Option β}:ag (x=x) y=y:=af rfl
def vt (t:Ty) (f:t.D->Int->Int):Prop:=∀x l,0<=l->l<=1048576->0<=f x l->Sm t x
theorem xk {n:Nat} {l:Int} (h1:l<=1048576) (h:0<=bE n l):n<=1048576:=by
 unfold bE at h
 split at h<;>omega
theorem og:vt aa bM:=fun x l _ h1 h=>⟨trivial,trivial,xk h1 h,trivial⟩
theorem ou {t:Ty} (ht:t.bare=true):vt (.sl t) (fun x=>bE (List.length x)):=fun x l _ h1 h=>⟨xk h1 h,fun y _=>Cw ht y⟩
theorem vi {t:Ty} {f:t.D->Int->Int} (hf:Le f) (ht:vt t f):∀(xs:List t.D) (l:Int),0<=l->l<=1048576->0<=rJ f xs l->∀x∈xs,Sm t x
 | [],_,_,_,_=>fun _ h=>by cases h
 | x::xs,l,h0,h1,h=>by
  unfold rJ at h
  by_cases hx:f x l<0
  ·rw[if_pos hx] at h;omega
  ·rw[if_neg hx] at h
   have:=hf x l h0
   intro y hy
   rcases List.mem_cons.1 hy with rfl | hy
   ·exact ht y l h0 h1 (by omega)
   ·exact vi hf ht xs (f x l) (by omega) (by omega) h y hy
theorem mg {t:Ty} {f:t.D->Int->Int} (hf:Le f) (ht:vt t f):vt (.sl t) (szS f):=by
 intro xs l h0 h1 h
 unfold szS at h
 by_cases hx:l-(xs.length:Int)<0
 ·rw[if_pos hx] at h;omega
 ·rw[if_neg hx] at h
  exact⟨by omega,vi hf ht xs _ (by omega) (by omega) h⟩
theorem fI {r:Int} {k:Int->Int} (h:0<=iP r k):0<=r/\0<=k r:=by
 unfold iP at h
 by_cases hr:r<0
 ·rw[if_pos hr] at h;omega
 ·rw[if_neg hr] at h;exact⟨by omega,h⟩
theorem AL:vt TTable bH:=by
 intro x l h0 h1 h
 obtain⟨a,h⟩:=fI h
 obtain⟨b,_⟩:=fI h
 have la:=iw x.1.length l h0
 exact⟨ou rfl x.1 l h0 h1 a,mg (lA dW) (mg dW og) x.2.1 _ a (by omega) b,trivial⟩
theorem Cc:vt ax gy:=by
 intro x l h0 h1 h
 obtain⟨a,_⟩:=fI h
 exact⟨trivial,trivial,og x.2.2.1 l h0 h1 a,trivial⟩
theorem Cg:vt TBond dj:=by
 intro x l h0 h1 h
 obtain⟨a,h⟩:=fI h
 obtain⟨b,h⟩:=fI h
 obtain⟨c,_⟩:=fI h
 have la:=iw x.2.2.1.length l h0
 have lb:=iw x.2.2.2.2.1.length (bE x.2.2.1.length l) a
 exact⟨trivial,trivial,ou rfl x.2.2.1 l h0 h1 a,trivial,ou rfl x.2.2.2.2.1 _ a (by omega) b,trivial,mg sn Cc x.2.2.2.2.2.2.1 _ b (by omega) c,trivial⟩
end M
end Go.AE
