/- Laws of loops over lists. -/
import Derived.Test.YtmkgiaecgkicoaaGreatAeMM
section
namespace Go.AE
open Go Go.RowKit
@[simp] theorem bW {α β:Type} (x:α) (f:α->β):aL x f=f x:=rfl
@[simp] theorem Ke {σ ε:Type} (s:σ) (g:σ->ε):Js (some (.inl s)) g=some (g s):=rfl
@[simp] theorem Kd {σ ε:Type} (e:ε) (g:σ->ε):Js (some (.inr e)) g=some e:=rfl
@[simp] theorem Ki {σ ε ρ:Type} (s:σ) (g:σ->ε):Jx (ρ:=ρ) (some (.inl s)) g=some (.inl (g s)):=rfl
@[simp] theorem Kf {σ ε ρ:Type} (r:Sum ε ρ) (g:σ->ε):Jx (some (.inr r)) g=some r:=rfl
@[simp] theorem Kh {α σ ρ:Type} (f:α->σ->Option (Sum σ ρ)) (s:σ):aW f [] s=some (.inl s):=rfl
theorem dz {α σ ρ:Type} (f:α->σ->Option (Sum σ ρ)) (x:α) (xs:List α) (s:σ):aW f (x::xs) s=bD (f x s) (fun s'=>aW f xs s') (fun r=>some (.inr r)):=rfl
theorem cS {a n i:Int}:i∈aT a n ↔ a<=i/\i<n:=by
 unfold aT
 simp only[List.mem_map,List.mem_range]
 constructor
 ·rintro ⟨k,hk,rfl⟩
  omega
 ·rintro ⟨h1,h2⟩
  exact⟨(i-a).toNat,by omega,by omega⟩
theorem zZ {α ρ:Type} {f:α->Unit->Option (Sum Unit ρ)} (p:α->Bool) (r:ρ):∀{xs:List α} (_:∀x∈xs,f x ()=some (cond (p x) (.inr r) (.inl ()))),
  aW f xs ()=some (cond (xs.any p) (.inr r) (.inl ()))
 | [],_=>rfl
 | x::xs,h=>by
  rw[dz,h x (List.mem_cons_self ..),List.any_cons]
  cases hp:p x with
  | true=>rfl
  | false=>exact zZ p r (fun y hy=>h y (List.mem_cons_of_mem _ hy))
theorem DN {α ρ:Type} {f:α->Unit->Option (Sum Unit ρ)} (p:α->Bool) (r:ρ) {xs:List α} (h:∀x∈xs,f x ()=some (cond (p x) (.inl ()) (.inr r))) :
  aW f xs ()=some (cond (xs.all p) (.inl ()) (.inr r)):=by
 rw[zZ (fun x=>!p x) r (fun x hx=>by rw[h x hx];cases p x<;>rfl)]
 rw[List.all_eq_not_any_not]
 cases xs.any fun x=>!p x<;>rfl
theorem vZ {α σ ρ:Type} {f:α->σ->Option (Sum σ ρ)} (g:σ->α->σ) (I:σ->Prop):∀{xs:List α} {s:σ} (_:I s) (_:∀x∈xs,∀s,I s->f x s=some (.inl (g s x))/\I (g s x)),
  aW f xs s=some (.inl (xs.foldl g s))/\I (xs.foldl g s)
 | [],s,h0,_=>⟨rfl,h0⟩
 | x::xs,s,h0,h=>by
  obtain⟨h1,h2⟩:=h x (List.mem_cons_self ..) s h0
  rw[dz,h1]
  exact vZ g I h2 (fun y hy=>h y (List.mem_cons_of_mem _ hy))
theorem uE {α β ρ:Type} {f:α->List β->Option (Sum (List β) ρ)} (g:α->β) {xs:List α} (h:∀x∈xs,∀s:List β,s.length<xs.length->f x s=some (.inl (s++[g x]))) :
  aW f xs []=some (.inl (xs.map g)):=by
 have key:∀(ys zs:List α) (s:List β),xs=zs++ys->s.length=zs.length->aW f ys s=some (.inl (s++ys.map g)):=by
  intro ys
  induction ys with
  | nil=>intro zs s _ _;simp
  | cons y ys ih=>
   intro zs s e hs
   rw[dz,h y (by rw[e];simp) s (by rw[e,hs];simp)]
   rw[bO,ih (zs++[y]) (s++[g y]) (by rw[e];simp) (by simp[hs])]
   simp
 have:=key xs [] [] rfl rfl
 simpa using this
theorem ql {t:Ty} {xs:List t.D} {i:Int} (h0:0<=i) (h1:i<(xs.length:Int)):nth xs i=xs[i.toNat]'(by omega):=by
 unfold nth
 rw[List.getD_eq_getElem?_getD,List.getElem?_eq_getElem (by omega)]
 rfl
theorem Ea {t:Ty} (x:t.D) (xs:List t.D):nth (t:=t) (x::xs) 0=x:=rfl
theorem yY {t:Ty} (x:t.D) (xs:List t.D) {i:Int} (h:0<=i):nth (t:=t) (x::xs) (i+1)=nth (t:=t) xs i:=by
 have e:(i+1).toNat=i.toNat+1:=by omega
 unfold nth
 rw[e,List.getD_cons_succ]
theorem Dy (n:Nat):aT 0 ((n:Int)+1)=0::(aT 0 n).map (fun i=>i+1):=by
 rw[gT (by omega)]
 congr 1
 unfold aT
 have e1:((n:Int)+1-(0+1)).toNat=n:=by omega
 have e2:((n:Int)-0).toNat=n:=by omega
 rw[e1,e2,List.map_map]
 apply List.map_congr_left
 intro k _
 simp
 omega
theorem gD {t:Ty}:∀(xs:List t.D),(aT 0 (xs.length:Int)).map (fun i=>nth xs i)=xs
 | []=>by rw[jg (by simp)];rfl
 | x::xs=>by
  have e:((x::xs).length:Int)=(xs.length:Int)+1:=by simp
  rw[e,Dy,List.map_cons,List.map_map,Ea]
  congr 1
  refine(List.map_congr_left (g:=fun i=>nth xs i) ?_).trans (gD xs)
  intro i hi
  exact yY x xs (cS.1 hi).1
theorem JZ {t:Ty} {p:t.D->Bool} {xs:List t.D}:M.idx (t:=t) p xs<(xs.length:Int)\/xs=[]:=by
 unfold M.idx
 split
 ·rename_i k h
  left
  have:=(List.findIdx?_eq_some_iff_getElem.1 h).1
  omega
 ·cases xs
  ·exact .inr rfl
  ·left;simp;omega
theorem zT {t:Ty} {p:t.D->Bool} {xs:List t.D}:decide ((0:Int)<=M.idx (t:=t) p xs)=xs.any p:=by
 unfold M.idx
 split
 ·rename_i k h
  obtain⟨h1,h2,_⟩:=List.findIdx?_eq_some_iff_getElem.1 h
  rw[decide_eq_true (by omega)]
  exact(List.any_eq_true.2 ⟨_,List.getElem_mem h1,h2⟩).symm
 ·rename_i h
  rw[decide_eq_false (by omega)]
  rw[List.findIdx?_eq_none_iff] at h
  symm
  rw[List.any_eq_false]
  intro x hx
  simp[h x hx]
theorem zj {t:Ty} (p:t.D->Bool):∀(xs:List t.D) (a:Int) (f:Int->Unit->Option (Sum Unit Int)) (_:∀i,0<=i->i<(xs.length:Int)->f (a+i) ()=some (cond (p (nth xs i)) (.inr (a+i)) (.inl ()))),
  aW f (aT a (a+(xs.length:Int))) ()=some (match xs.findIdx? p with | some k=>.inr (a+(k:Int)) | none=>.inl ())
 | [],a,f,_=>by rw[jg (by simp)];rfl
 | x::xs,a,f,h=>by
  have e:((x::xs).length:Int)=(xs.length:Int)+1:=by simp
  have h0:=h 0 (Int.le_refl _) (by rw[e];omega)
  rw[Int.add_zero,Ea] at h0
  rw[gT (by rw[e];omega),dz,h0,List.findIdx?_cons]
  cases hp:p x with
  | true=>simp
  | false=>
   simp only[cond_false,bO]
   have ih:=zj p xs (a+1) f (fun i i0 i1=>by
    have:=h (i+1) (by omega) (by rw[e];omega)
    rw[yY x xs i0] at this
    rw[show a+1+i=a+(i+1) by omega]
    exact this)
   rw[show a+((x::xs).length:Int)=a+1+(xs.length:Int) by rw[e];omega,ih]
   cases List.findIdx? p xs with
   | none=>rfl
   | some k=>simp;omega
theorem dc {t:Ty} {p:t.D->Bool} {xs:List t.D} {f:Int->Unit->Option (Sum Unit Int)} (h:∀i,0<=i->i<(xs.length:Int)->f i ()=some (cond (p (nth xs i)) (.inr i) (.inl ()))) :
  bD (aW f (aT 0 (xs.length:Int)) ()) (fun _:Unit=>some (-1:Int)) (fun q:Int=>some q)=some (M.idx p xs):=by
 have:=zj p xs 0 f (fun i h0 h1=>by rw[Int.zero_add];exact h i h0 h1)
 rw[Int.zero_add] at this
 rw[this]
 unfold M.idx
 cases List.findIdx? p xs with
 | none=>rfl
 | some k=>simp
theorem cM {t:Ty} {p:t.D->Bool} {xs:List t.D}:some (decide ((0:Int)<=M.idx (t:=t) p xs))=some (xs.any p):=by rw[zT]
theorem DD {t:Ty} [DecidableEq t.D] {xs ys:List t.D} {f:Int->Unit->Option (Sum Unit Unit)} (h:∀i,0<=i->i<(xs.length:Int)->i<(ys.length:Int)->f i ()=some (cond (decide (nth xs i=nth ys i)) (.inl ()) (.inr ()))) :
  cond (!decide ((xs.length:Int)=(ys.length:Int))) (some false) (bD (aW f (aT 0 (xs.length:Int)) ()) (fun _:Unit=>some true) (fun _:Unit=>some false))=some (decide (xs=ys)):=by
 by_cases hl:xs.length=ys.length
 ·rw[decide_eq_true (by omega:(xs.length:Int)=(ys.length:Int))]
  simp only[Bool.not_true,cond_false]
  rw[DN (fun i=>decide (nth xs i=nth ys i)) () (fun i hi=>by
   obtain⟨h0,h1⟩:=cS.1 hi
   exact h i h0 h1 (by omega))]
  have e:(aT 0 (xs.length:Int)).all (fun i=>decide (nth xs i=nth ys i))=decide (xs=ys):=by
   by_cases he:xs=ys
   ·rw[decide_eq_true he,List.all_eq_true]
    intro i _
    rw[he]
    simp
   ·rw[decide_eq_false he,List.all_eq_false]
    refine Classical.byContradiction fun hn=>he ?_
    rw[<-gD xs,<-gD ys,hl]
    apply List.map_congr_left
    intro i hi
    refine Classical.byContradiction fun hne=>hn ⟨i,by rw[hl];exact hi,?_⟩
    simpa using hne
  rw[e]
  cases decide (xs=ys)<;>rfl
 ·rw[decide_eq_false (by omega:¬(xs.length:Int)=(ys.length:Int)),decide_eq_false (fun e=>hl (by rw[e]))]
  rfl
theorem bt {α:Type} {b:Bool} {x y:α}:cond b (some x) (some y)=some (cond b x y):=by cases b<;>rfl
theorem gC {α:Type} {b:Bool} {x y:α}:cond (!b) x y=cond b y x:=by cases b<;>rfl
theorem beq_iff:∀{t:Ty} (_:t.flat=true) (x y:t.D),Ty.beq t x y=true ↔ x=y
 | .int _,_,x,y=>by simp only[Ty.beq,decide_eq_true_eq]
 | .bool,_,x,y=>by simp only[Ty.beq,beq_iff_eq]
 | .str,_,x,y=>by simp only[Ty.beq,decide_eq_true_eq]
 | .unit,_,x,y=>by simp only[Ty.beq]
 | .sl _,h,_,_=>by cases h
 | .pair a b,h,x,y=>by
  simp only[Ty.flat,Bool.and_eq_true] at h
  simp only[Ty.beq,Bool.and_eq_true,beq_iff h.1,beq_iff h.2]
  constructor
  ·rintro ⟨h1,h2⟩
   exact Prod.ext h1 h2
  ·rintro rfl
   exact⟨rfl,rfl⟩
theorem FQ {t:Ty} (h:t.flat=true) [DecidableEq t.D] (x y:t.D):Ty.beq t x y=decide (x=y):=by
 cases hb:Ty.beq t x y with
 | true=>exact(decide_eq_true ((beq_iff h x y).1 hb)).symm
 | false=>exact(decide_eq_false (fun e=>by rw[(beq_iff h x y).2 e] at hb;cases hb)).symm
theorem mC (n:Nat) (h:n<=1048576):wrap64 ((n:Int)-1)=(n:Int)-1:=aO (by omega) (by omega)
theorem Hj {α ρ τ:Type} {f:α->Unit->Option (Sum Unit ρ)} (p:α->Bool) (r:ρ) {xs:List α} (h:∀x∈xs,f x ()=some (cond (p x) (.inr r) (.inl ()))) {A:Unit->Option τ} {B:ρ->Option τ} :
  bD (aW f xs ()) A B=cond (xs.any p) (B r) (A ()):=by
 rw[zZ p r h]
 cases xs.any p<;>rfl
theorem fq {α ρ τ:Type} {f:α->Unit->Option (Sum Unit ρ)} (p:α->Bool) (r:ρ) {xs:List α} (h:∀x∈xs,f x ()=some (cond (p x) (.inl ()) (.inr r))) {A:Unit->Option τ} {B:ρ->Option τ} :
  bD (aW f xs ()) A B=cond (xs.all p) (A ()) (B r):=by
 rw[DN p r h]
 cases xs.all p<;>rfl
theorem BR {τ:Type} {f:Int->Unit->Option (Sum Unit Int)} (p:Int->Bool) {xs:List Int} (h:∀x∈xs,f x ()=some (cond (p x) (.inr x) (.inl ()))) {A:Unit->Option τ} {B:Int->Option τ} :
  bD (aW f xs ()) A B=match xs.find? p with | some r=>B r | none=>A ():=by
 induction xs with
 | nil=>rfl
 | cons x xs ih=>
  rw[dz,h x (List.mem_cons_self ..),List.find?_cons]
  cases p x with
  | true=>rfl
  | false=>exact ih (fun y hy=>h y (List.mem_cons_of_mem _ hy))
theorem fN {a b:Bool}:cond (a==true) (some b) (some false)=some (a&&b):=by cases a<;>rfl
theorem CR {a b:Bool}:cond a (some b) (some false)=some (a&&b):=by cases a<;>rfl
theorem BX {s:ByteArray} {i:Int} (h0:0<=i) (h1:i<(s.size:Int)):((s.get! i.toNat).toNat:Int)=nth (t:=.int .u8) (bX s) i:=by
 have hl:=lS s
 have hlt:i.toNat<(bX s).length:=by omega
 have hd:i.toNat<s.data.size:=by
  have:i.toNat<s.size:=by omega
  exact this
 unfold nth
 rw[List.getD_eq_getElem?_getD,List.getElem?_eq_getElem hlt]
 simp only[bX,List.getElem_map,Option.getD_some]
 have:s.get! i.toNat=s.data[i.toNat]:=by
  cases s with
  | mk d=>exact getElem!_pos d i.toNat hd
 rw[this]
 simp
theorem GB {t:Ty} (xs:List t.D) (p:t.D->Bool):(aT 0 (xs.length:Int)).all (fun i=>p (nth xs i))=xs.all p:=by
 conv=>rhs;rw[<-gD xs]
 rw[List.all_map]
 rfl
theorem BC {t:Ty} (xs:List t.D) (p:t.D->Bool):(aT 0 (xs.length:Int)).any (fun i=>p (nth xs i))=xs.any p:=by
 conv=>rhs;rw[<-gD xs]
 rw[List.any_map]
 rfl
theorem GZ {s:ByteArray} {n:Int} (h:n∈bX s):0<=n/\n<=255:=by
 simp only[bX,List.mem_map] at h
 obtain⟨b,_,rfl⟩:=h
 have:=b.toNat_lt
 omega
namespace M
theorem take_set {α:Type} {xs ys:List α} {n:Nat} (h:n<xs.length) (hl:ys.length=xs.length) (ht:List.take n ys=List.take n xs):List.take (n+1) (ys.set n xs[n])=List.take (n+1) xs:=by
 have h2:n<ys.length:=by omega
 rw[List.take_add_one,List.take_add_one]
 rw[List.take_set_of_le (Nat.le_refl n),ht,List.getElem?_set_self h2,List.getElem?_eq_getElem h]
theorem eq_eq {α:Type} {x:List α} {f:Int->Unit->Option (Sum Unit Unit)} (hf:∀i,0<=i->i<(x.length:Int)->f i ()=some (.inl ())) :
  cond (!decide ((x.length:Int)=(x.length:Int))) (some false) (bD (aW f (aT (0:Int) (x.length:Int)) ()) (fun _:Unit=>some true) (fun _:Unit=>some false))=some true:=by
 rw[decide_eq_true rfl,fq (fun _=>true) () (fun i hi=>by
  obtain⟨h0,h1⟩:=cS.1 hi
  exact hf i h0 h1)]
 have:(aT (0:Int) (x.length:Int)).all (fun _=>true)=true:=by simp
 rw[this]
 rfl
theorem so {α:Type} {x:Option α}:af True x=x:=ai trivial
theorem Ey {α β:Type} {x:α} {y:Option β}:af (x=x) y=y:=ai rfl
end M
end Go.AE
end
section
namespace Go.AE
open Go Go.RowKit
set_option linter.unusedVariables false
namespace M
theorem IU {t:Ty} {a:List t.D} {i:Int} {z:t.D} (h0:0<=i) (h1:i<(a.length:Int)):nth (t:=t) (a.set i.toNat z) i=z:=by
 have:i.toNat<a.length:=by omega
 unfold nth
 rw[List.getD_eq_getElem?_getD,List.getElem?_set_self this]
 rfl
end M
end Go.AE
end
section
namespace Go.AE
open Go Go.RowKit
set_option linter.unusedVariables false
def M.holds (row:List aa.D) (e:List aE.D):Bool:=Ty.beq aa (M.ff row e) (M.valueOf 1)
def M.uK (v:List ag.D) (g:lQ.D):List ag.D:=
 v.set g.1.toNat ((nth (t:=ag) v g.1).1,List.filter (fun r=>M.holds r g.2.1) (nth (t:=ag) v g.1).2.1,())
namespace M
theorem vz {α:Type} (xs:List α):aC xs (some ((0:Int),(xs.length:Int)))=xs:=by
 unfold aC
 simp
theorem zq {α:Type} (xs:List α):xs.take ((xs.length:Int)).toNat=xs:=by simp
theorem Ca {t:Ty} {f:Int×List t.D->Option (Sum (Int×List t.D) (List t.D))} (p:t.D->Bool) (xs:List t.D)
  (h:∀(i:Int) (s:List t.D),0<=i->i<(xs.length:Int)->(s.length:Int)<=i->f (i,s)=some (.inl (i+1,cond (p (nth xs i)) (s++[nth xs i]) s)))
  (he:∀(i:Int) (s:List t.D),0<=i->(xs.length:Int)<=i->f (i,s)=some (.inr s)) :
  bL f ((0:Int),[])=some (xs.filter p):=by
 have key:∀(n:Nat) (i:Int) (s:List t.D),n=((xs.length:Int)-i).toNat->0<=i->(s.length:Int)<=i->bL f (i,s)=some (s++(xs.drop i.toNat).filter p):=by
  intro n
  induction n with
  | zero=>
   intro i s hn h0 hs
   rw[bQ,he i s h0 (by omega),List.drop_eq_nil_of_le (by omega)]
   simp[bD]
  | succ n ih=>
   intro i s hn h0 hs
   have hlt:i<(xs.length:Int):=by omega
   have hd:=we (t:=t) (xs:=xs) (i:=i) h0 hlt
   have e1:(i+1).toNat=i.toNat+1:=by omega
   rw[bQ,h i s h0 hlt hs,bO,hd]
   cases hp:p (nth xs i) with
   | true=>
    rw[cond_true,ih (i+1) _ (by omega) (by omega) (by simp;omega),e1]
    simp[hp]
   | false=>
    rw[cond_false,ih (i+1) _ (by omega) (by omega) (by omega),e1]
    simp[hp]
 have:=key (xs.length) 0 [] (by omega) (by omega) (by simp)
 simpa using this
theorem vZ {α σ ρ:Type} {f:α->σ->Option (Sum σ ρ)} (g:σ->α->σ) (I:σ->Prop) {xs:List α} {s:σ} (h0:I s)
  (h:∀x∈xs,∀s,I s->f x s=some (.inl (g s x))/\I (g s x)):aW f xs s=some (.inl (xs.foldl g s))/\I (xs.foldl g s):=by
 induction xs generalizing s with
 | nil=>exact⟨rfl,h0⟩
 | cons x xs ih=>
  obtain⟨h1,h2⟩:=h x (by simp) s h0
  rw[dz,h1,bO]
  exact ih h2 (fun y hy=>h y (by simp[hy]))
theorem xR {t:Ty} {ρ:Type} {f:Int->List t.D->Option (Sum (List t.D) ρ)} (xs:List t.D)
  (h:∀(i:Int) (s:List t.D),0<=i->i<(xs.length:Int)->(s.length:Int)<=i->f i s=some (.inl (s++[nth xs i]))) :
  aW f (aT (0:Int) (xs.length:Int)) []=some (.inl xs):=by
 have key:∀(ys zs:List t.D),xs=zs++ys->aW f (aT (zs.length:Int) (xs.length:Int)) zs=some (.inl xs):=by
  intro ys
  induction ys with
  | nil=>
   intro zs e
   rw[jg (by rw[e];simp),e]
   simp[aW]
  | cons y ys ih=>
   intro zs e
   have hlt:(zs.length:Int)<(xs.length:Int):=by rw[e];simp;omega
   have hn:nth (t:=t) xs (zs.length:Int)=y:=by
    rw[e]
    unfold nth
    rw[List.getD_eq_getElem?_getD]
    simp
   have h1:=h (zs.length:Int) zs (by omega) hlt (Int.le_refl _)
   rw[hn] at h1
   rw[gT hlt,dz,h1,bO]
   have e2:(zs.length:Int)+1=((zs++[y]).length:Int):=by simp
   rw[e2]
   exact ih (zs++[y]) (by rw[e];simp)
 exact key xs [] (by simp)
theorem EM {t:Ty} {f:Int×List t.D->Option (Sum (Int×List t.D) (List t.D))} (xs:List t.D)
  (h:∀(i:Int) (s:List t.D),0<=i->i<(xs.length:Int)->(s.length:Int)<=i->f (i,s)=some (.inl (i+1,s++[nth xs i])))
  (he:∀(i:Int) (s:List t.D),0<=i->(xs.length:Int)<=i->f (i,s)=some (.inr s)):bL f ((0:Int),[])=some xs:=by
 have:=Ca (fun _=>true) xs (fun i s i0 i1 hs=>by rw[h i s i0 i1 hs];rfl) he
 rw[List.filter_eq_self.2 (fun _ _=>rfl)] at this
 exact this
theorem BU {t:Ty} {xs:List t.D}:cond (decide ((xs.length:Int)=(0:Int))) (some ([]:List t.D)) (some (xs.take (xs.length:Int).toNat))=some xs:=by
 rw[zq]
 cases xs with
 | nil=>rfl
 | cons x xs=>rw[decide_eq_false (by simp;omega)];rfl
theorem DQ {α:Type} (xs:List α):xs.map (fun x=>x)=xs:=by simp
def eV (tables v:List ag.D):Prop:=v.length=tables.length/\∀i:Int,0<=i->i<(tables.length:Int)->(nth (t:=ag) v i).1=(nth (t:=ag) tables i).1 ∧
 (nth (t:=ag) v i).2.1.length<=(nth (t:=ag) tables i).2.1.length/\∀r∈(nth (t:=ag) v i).2.1,r∈(nth (t:=ag) tables i).2.1
theorem eV.refl (tables:List ag.D):eV tables tables:=⟨rfl,fun _ _ _=>⟨rfl,Nat.le_refl _,fun _ h=>h⟩⟩
theorem Eo {t:Ty} {a:List t.D} {i j:Int} {z:t.D} (h0:0<=i) (h1:0<=j) (hne:i≠j):nth (t:=t) (a.set i.toNat z) j=nth a j:=by
 have:i.toNat≠j.toNat:=by omega
 unfold nth
 rw[List.getD_eq_getElem?_getD,List.getD_eq_getElem?_getD,List.getElem?_set_ne this]
theorem eV.step {tables v:List ag.D} (h:eV tables v) {g:lQ.D} (h0:0<=g.1) (h1:g.1<(tables.length:Int)):eV tables (uK v g):=by
 refine⟨by unfold uK;simp[h.1],fun i i0 i1=>?_⟩
 have hl:g.1<(v.length:Int):=by rw[h.1];exact h1
 by_cases e:g.1=i
 ·subst e
  obtain⟨q1,q2,q3⟩:=h.2 _ i0 i1
  unfold uK
  rw[IU i0 hl]
  exact⟨q1,Nat.le_trans (List.length_filter_le _ _) q2,fun r hr=>q3 r (List.mem_filter.1 hr).1⟩
 ·unfold uK
  rw[Eo h0 i0 e]
  exact h.2 i i0 i1
theorem yR {tables:List ag.D} (h:aF tables=true) {i:Int} (h0:0<=i) (h1:i<(tables.length:Int)) {r:List aa.D} (hr:r∈(nth (t:=ag) tables i).2.1):r.length=(nth (t:=ag) tables i).1.length:=by
 have hm:=cF (t:=ag) h0 h1
 unfold aF at h
 obtain⟨_,h2⟩:=Bool.and_eq_true_iff.1 h
 have h3:=List.all_eq_true.1 h2 _ hm
 unfold dm at h3
 obtain⟨_,h4⟩:=Bool.and_eq_true_iff.1 h3
 unfold gF at h4
 obtain⟨_,h5⟩:=Bool.and_eq_true_iff.1 h4
 have h6:=List.all_eq_true.1 h5 r hr
 unfold bU at h6
 simp only[Bool.and_eq_true,decide_eq_true_eq] at h6
 omega
end M
end Go.AE
end
section
namespace Go.AE
open Go Go.RowKit
set_option linter.unusedVariables false
abbrev GS:Ty:=.pair (.sl ax) (.pair (.int .i64) .unit)
def M.two (k:Int):Bool:=decide (k=4)||decide (k=5)
def M.fB (s:sk.D):Bool:=(!decide (s.1=(1:Int))||decide (s.2.1=(0:Int)))&&((two s.1||decide (s.2.2.1=(0:Int)))&&((decide (s.1=(1:Int))||decide (s.2.2.2.1=(0:Int))) &&
 ((decide (s.1=(2:Int))||decide (s.1=(4:Int))||decide ((s.2.2.2.2.1.length:Int)=(0:Int)))&&(decide (s.1=(3:Int))||decide ((s.2.2.2.2.2.1.length:Int)=(0:Int))))))
abbrev Hg:Type:=List (List ax.D)×List Int
def M.ren (to:List Int) (s:sk.D):sk.D:=(s.1,cond (decide (s.1=(1:Int))) s.2.1 (nth (t:=.int .i64) to s.2.1),cond (two s.1) (nth (t:=.int .i64) to s.2.2.1) s.2.2.1,s.2.2.2)
namespace M
theorem zj {σ ρ:Type} {f:Int->σ->Option (Sum σ ρ)} (g:σ->Int->σ) (I:Int->σ->Prop) (N:Nat) {s:σ} (h0:I 0 s)
  (h:∀(i:Int) (s:σ),0<=i->i<(N:Int)->I i s->f i s=some (.inl (g s i))/\I (i+1) (g s i)) :
  aW f (aT 0 (N:Int)) s=some (.inl ((aT 0 (N:Int)).foldl g s))/\I (N:Int) ((aT 0 (N:Int)).foldl g s):=by
 have key:∀(n:Nat) (i:Int) (s:σ),(N:Int)-i=n->0<=i->I i s->aW f (aT i (N:Int)) s=some (.inl ((aT i (N:Int)).foldl g s))/\I (N:Int) ((aT i (N:Int)).foldl g s):=by
  intro n
  induction n with
  | zero=>
   intro i s hn h0 hI
   rw[jg (by omega)]
   have:i=(N:Int):=by omega
   subst this
   exact⟨rfl,hI⟩
  | succ n ih=>
   intro i s hn h0 hI
   obtain⟨h1,h2⟩:=h i s h0 (by omega) hI
   rw[gT (by omega),dz,h1,bO]
   exact ih (i+1) _ (by omega) (by omega) h2
 exact key N 0 s (by omega) (by omega) h0
end M
end Go.AE
end
section
namespace Go.AE
open Go Go.RowKit
set_option linter.unusedVariables false
namespace M
def mS (st st':Hg) (to:List Int) (k:Int):Prop:=(st.1.length:Int)=k/\(st.2.length:Int)=k/\st'.1.length=st'.2.length ∧
 ∀j:Int,0<=j->j<k->(0<=nth (t:=.int .i64) to j/\nth (t:=.int .i64) to j<(st'.1.length:Int))/\nth (t:=.sl ax) st'.1 (nth (t:=.int .i64) to j)=nth (t:=.sl ax) st.1 j/\nth (t:=.int .i64) st'.2 (nth (t:=.int .i64) to j)=nth (t:=.int .i64) st.2 j
theorem Jf {n N:Int}:inR n 0 (N-1)=true ↔ 0<=n/\n<N:=by
 unfold inR
 simp
 omega
theorem Gv {t:Ty} {xs:List t.D} {k:Nat} (h:k<xs.length):xs.take (k+1)=xs.take k++[nth (t:=t) xs (k:Int)]:=by
 rw[List.take_succ_eq_append_getElem h,ql (t:=t) (by omega) (by omega)]
 rfl
end M
end Go.AE
namespace Go.AE
open Go Go.RowKit
end Go.AE
end
