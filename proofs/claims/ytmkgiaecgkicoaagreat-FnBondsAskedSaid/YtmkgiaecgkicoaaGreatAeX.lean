/- What a function computes as a plain value: steps that may fail, loops over lists, and how the evaluator's conditions follow. -/
import Derived.Test.YtmkgiaecgkicoaaGreatAeOpen
namespace Go.AE
open Go Go.RowKit
def ok {α:Type} (o:Option α) (K:α->Prop):Prop:=match o with
 | some x=>K x
 | none=>False
theorem aC {α:Type} {o:Option α} {x:α} {K:α->Prop} (h:o=some x) (hk:K x):ok o K:=by rw[h];exact hk
theorem cG {α:Type} {x:α} {K:α->Prop} (h:ok (some x) K):K x:=h
open Classical in
noncomputable def af {α:Type} (p:Prop) (x:Option α):Option α:=if p then x else none
theorem aq {α:Type} {p:Prop} {x:Option α} (h:p):af p x=x:=by unfold af;rw[if_pos h]
theorem aF {α:Type} {p:Prop} {x:Option α} {K:α->Prop} (h:ok (af p x) K):p/\ok x K:=by
 unfold af at h
 by_cases hp:p
 ·rw[if_pos hp] at h;exact⟨hp,h⟩
 ·rw[if_neg hp] at h;exact h.elim
theorem HF {α:Type} {b:Bool} {x y:Option α} {K:α->Prop} {T U:Prop} (h:ok (cond b x y) K) (h1:b=true->ok x K->T) (h2:b=false->ok y K->U):cond b T U:=by
 cases b
 ·exact h2 rfl h
 ·exact h1 rfl h
def aL {α β:Type} (x:α) (f:α->β):β:=f x
def bB {σ ρ:Type} (f:σ->Prop) (g:ρ->Prop):Sum σ ρ->Prop
 | .inl s=>f s
 | .inr r=>g r
def bF {σ ρ τ:Type} (o:Option (Sum σ ρ)) (f:σ->Option τ) (g:ρ->Option τ):Option τ:=match o with
 | some (.inl s)=>f s
 | some (.inr r)=>g r
 | none=>none
theorem bp {σ ρ τ:Type} {o:Option (Sum σ ρ)} {f:σ->Option τ} {g:ρ->Option τ} {K:τ->Prop} {A:σ->Prop} {B:ρ->Prop} (h:ok (bF o f g) K) (ha:∀s,ok (f s) K->A s) (hb:∀r,ok (g r) K->B r):ok o (bB A B):=by
 unfold bF at h
 split at h
 ·exact ha _ h
 ·exact hb _ h
 ·exact h.elim
@[simp] theorem cD {σ ρ τ:Type} {s:σ} {f:σ->Option τ} {g:ρ->Option τ}:bF (some (.inl s)) f g=f s:=rfl
@[simp] theorem IS {σ ρ τ:Type} {r:ρ} {f:σ->Option τ} {g:ρ->Option τ}:bF (some (.inr r)) f g=g r:=rfl
def aZ {α σ ρ:Type} (f:α->σ->Option (Sum σ ρ)):List α->σ->Option (Sum σ ρ)
 | [],s=>some (.inl s)
 | x::xs,s=>bF (f x s) (fun s'=>aZ f xs s') (fun r=>some (.inr r))
theorem DZ {α σ ρ:Type} {f:α->σ->Option (Sum σ ρ)} {x:α} {xs:List α} {s:σ} {K:Sum σ ρ->Prop} (h:ok (aZ f (x::xs) s) K):ok (f x s) (bB (fun s'=>ok (aZ f xs s') K) (fun r=>K (.inr r))):=
 bp (show ok (bF (f x s) _ _) K from h) (fun _ h=>h) (fun _ h=>h)
def aP (a n:Int):List Int:=(List.range (n-a).toNat).map fun(k:Nat)=>a+(k:Int)
theorem jI {a n:Int} (h:n<=a):aP a n=[]:=by
 have:(n-a).toNat=0:=by omega
 simp[aP,this]
theorem iR {a n:Int} (h:a<n):aP a n=a::aP (a+1) n:=by
 have e:(n-a).toNat=(n-(a+1)).toNat+1:=by omega
 unfold aP
 rw[e,List.range_succ_eq_map]
 simp only[List.map_cons,List.map_map]
 congr 1
 ·simp
 ·apply List.map_congr_left
  intro k _
  simp
  omega
theorem AA {t:Ty} {xs:List t.D} {i:Int} (h0:0<=i) (h1:i<(xs.length:Int)):List.drop i.toNat xs=nth xs i::List.drop (i+1).toNat xs:=by
 have hlt:i.toNat<xs.length:=by omega
 rw[List.drop_eq_getElem_cons hlt]
 have e:(i+1).toNat=i.toNat+1:=by omega
 rw[e]
 congr 1
 unfold nth
 rw[List.getD_eq_getElem?_getD,List.getElem?_eq_getElem hlt]
 rfl
theorem cI {t:Ty} {xs:List t.D} {i:Int} (h0:0<=i) (h1:i<(xs.length:Int)):nth xs i∈xs:=by
 have hlt:i.toNat<xs.length:=by omega
 unfold nth
 rw[List.getD_eq_getElem?_getD,List.getElem?_eq_getElem hlt]
 exact List.getElem_mem hlt
theorem aQ {n:Int} (h1:-9223372036854775808<=n) (h2:n<=9223372036854775807):wrap64 n=n:=by
 unfold wrap64
 omega
def om:Int:=9223372036854775807
def cr {σ ρ:Type} (st:Int->σ->St) (lo N:Int) (f:Int->σ->Option (Sum σ ρ)) (inv:σ->Prop) (K:Sum σ ρ->Prop) (m:Nat) (s:St):Prop:=
 ∃i v,s=st i v/\lo<=i/\m=(N-i).toNat/\inv v/\ok (aZ f (aP i N) v) K
def cU {t:Ty} {σ ρ:Type} (st:Int->σ->St) (xs:List t.D) (f:t.D->σ->Option (Sum σ ρ)) (inv:σ->Prop) (K:Sum σ ρ->Prop) (m:Nat) (s:St):Prop:=
 ∃i v,s=st i v/\0<=i/\m=((xs.length:Int)-i).toNat/\inv v/\ok (aZ f (xs.drop i.toNat) v) K
def jF {σ ρ:Type} (step:σ->Option (Sum σ ρ)):Nat->σ->Option ρ
 | 0,_=>none
 | m+1,s=>bF (step s) (fun s'=>jF step m s') (fun r=>some r)
def eJ {σ ρ:Type} (st:σ->St) (step:σ->Option (Sum σ ρ)) (inv:σ->Prop) (K:ρ->Prop) (m:Nat) (s:St):Prop:=
 ∃v,s=st v/\inv v/\ok (jF step m v) K
theorem bq {σ ρ:Type} {st:Int->σ->St} {lo N:Int} {f:Int->σ->Option (Sum σ ρ)} {inv:σ->Prop} {K:Sum σ ρ->Prop} {s:St} {Q:Nat->Prop} (w:∀m,cr st lo N f inv K m s->Q m) (i:Int) (v:σ) (hs:s=st i v) (hlo:lo<=i) (hv:inv v) (h:ok (aZ f (aP i N) v) K):∃m,Q m:=
 ⟨_,w _ ⟨i,v,hs,hlo,rfl,hv,h⟩⟩
theorem bN {t:Ty} {σ ρ:Type} {st:Int->σ->St} {xs:List t.D} {f:t.D->σ->Option (Sum σ ρ)} {inv:σ->Prop} {K:Sum σ ρ->Prop} {s:St} {Q:Nat->Prop} (w:∀m,cU st xs f inv K m s->Q m) (v:σ) (hs:s=st 0 v) (hv:inv v) (h:ok (aZ f xs v) K):∃m,Q m:=
 ⟨_,w _ ⟨0,v,hs,Int.le_refl _,rfl,hv,h⟩⟩
theorem aS {σ ρ:Type} {st:Int->σ->St} {lo N i:Int} {f:Int->σ->Option (Sum σ ρ)} {inv:σ->Prop} {K:Sum σ ρ->Prop} {s:St} {Q:Nat->Prop} (w:∀m,cr st lo N f inv K m s->Q m) (v:σ) (hs:s=st (wrap64 (i+1)) v) (hlo:lo<=i) (h0:-9223372036854775808<=lo) (hlt:i<N) (hN:N<=om) (hv:inv v)
  (h:ok (aZ f (aP (i+1) N) v) K):∃m',m'<(N-i).toNat/\Q m':=by
 unfold om at hN
 have hw:wrap64 (i+1)=i+1:=aQ (by omega) (by omega)
 rw[hw] at hs
 exact⟨(N-(i+1)).toNat,by omega,w _ ⟨i+1,v,hs,by omega,rfl,hv,h⟩⟩
theorem bU {t:Ty} {σ ρ:Type} {st:Int->σ->St} {xs:List t.D} {i:Int} {f:t.D->σ->Option (Sum σ ρ)} {inv:σ->Prop} {K:Sum σ ρ->Prop} {s:St} {Q:Nat->Prop} (w:∀m,cU st xs f inv K m s->Q m) (v:σ) (hs:s=st (wrap64 (i+1)) v) (h0:0<=i) (hlt:i<(xs.length:Int)) (hN:(xs.length:Int)<=om) (hv:inv v)
  (h:ok (aZ f (xs.drop (i+1).toNat) v) K):∃m',m'<((xs.length:Int)-i).toNat/\Q m':=by
 unfold om at hN
 have hw:wrap64 (i+1)=i+1:=aQ (by omega) (by omega)
 rw[hw] at hs
 exact⟨((xs.length:Int)-(i+1)).toNat,by omega,w _ ⟨i+1,v,hs,by omega,rfl,hv,h⟩⟩
theorem bJ {σ ρ:Type} {i N:Int} {f:Int->σ->Option (Sum σ ρ)} {v:σ} {K:Sum σ ρ->Prop} {T U:Prop} (h:ok (aZ f (aP i N) v) K)
  (h1:i<N->ok (f i v) (bB (fun s'=>ok (aZ f (aP (i+1) N) s') K) (fun r=>K (.inr r)))->T) (h2:K (.inl v)->U):cond (decide (i<N)) T U:=by
 by_cases hlt:i<N
 ·rw[decide_eq_true hlt]
  rw[iR hlt] at h
  exact h1 hlt (DZ h)
 ·rw[decide_eq_false hlt]
  rw[jI (by omega)] at h
  exact h2 h
theorem bW {t:Ty} {σ ρ:Type} {i:Int} {xs:List t.D} {f:t.D->σ->Option (Sum σ ρ)} {v:σ} {K:Sum σ ρ->Prop} {T U:Prop} (h0:0<=i) (h:ok (aZ f (xs.drop i.toNat) v) K)
  (h1:i<(xs.length:Int)->ok (f (nth xs i) v) (bB (fun s'=>ok (aZ f (xs.drop (i+1).toNat) s') K) (fun r=>K (.inr r)))->T) (h2:K (.inl v)->U):cond (decide (i<(xs.length:Int))) T U:=by
 by_cases hlt:i<(xs.length:Int)
 ·rw[decide_eq_true hlt]
  rw[AA h0 hlt] at h
  exact h1 hlt (DZ h)
 ·rw[decide_eq_false hlt]
  rw[List.drop_eq_nil_of_le (by omega)] at h
  exact h2 h
theorem sw {σ ρ:Type} {step:σ->Option (Sum σ ρ)} {r:ρ}:∀{m n:Nat} {s:σ},m<=n->jF step m s=some r->jF step n s=some r
 | 0,_,_,_,h=>by simp[jF] at h
 | m+1,0,_,hmn,_=>by omega
 | m+1,n+1,s,hmn,h=>by
  unfold jF bF at h ⊢
  cases hs:step s with
  | none=>rw[hs] at h;exact h
  | some o=>
   rw[hs] at h
   cases o with
   | inl s'=>exact sw (by omega) h
   | inr r'=>exact h
open Classical in
noncomputable def cK {σ ρ:Type} (step:σ->Option (Sum σ ρ)) (s:σ):Option ρ:=if h:∃m r,jF step m s=some r then some (Classical.choose (Classical.choose_spec h)) else none
theorem qY {σ ρ:Type} {step:σ->Option (Sum σ ρ)} {s:σ} {m:Nat} {r:ρ} (h:jF step m s=some r):cK step s=some r:=by
 have he:∃m r,jF step m s=some r:=⟨m,r,h⟩
 unfold cK
 rw[dif_pos he]
 have h2:=Classical.choose_spec (Classical.choose_spec he)
 rcases Nat.le_total m (Classical.choose he) with hm | hm
 ·exact(h2.symm.trans (sw hm h))
 ·exact((sw hm h2).symm.trans h)
theorem mN {σ ρ:Type} {step:σ->Option (Sum σ ρ)} {s:σ} {r:ρ} (h:cK step s=some r):∃m,jF step m s=some r:=by
 unfold cK at h
 split at h
 ·rename_i he
  cases h
  exact⟨_,Classical.choose_spec (Classical.choose_spec he)⟩
 ·cases h
theorem eS {σ ρ:Type} (step:σ->Option (Sum σ ρ)) (s:σ):cK step s=bF (step s) (fun s'=>cK step s') (fun r=>some r):=by
 cases hs:step s with
 | none=>
  show cK step s=none
  cases hw:cK step s with
  | none=>rfl
  | some r=>
   obtain⟨m,hm⟩:=mN hw
   cases m with
   | zero=>cases hm
   | succ m=>unfold jF at hm;rw[hs] at hm;cases hm
 | some o=>
  cases o with
  | inr r=>exact qY (m:=1) (by unfold jF;rw[hs];rfl)
  | inl s'=>
   show cK step s=cK step s'
   cases hw:cK step s' with
   | some r=>
    obtain⟨m,hm⟩:=mN hw
    exact qY (m:=m+1) (by unfold jF;rw[hs];exact hm)
   | none=>
    cases hw2:cK step s with
    | none=>rfl
    | some r=>
     obtain⟨m,hm⟩:=mN hw2
     cases m with
     | zero=>cases hm
     | succ m=>
      unfold jF at hm
      rw[hs] at hm
      have:=qY (show jF step m s'=some r from hm)
      rw[hw] at this
      cases this
theorem cv {σ ρ:Type} {st:σ->St} {step:σ->Option (Sum σ ρ)} {inv:σ->Prop} {K:ρ->Prop} {s:St} {Q:Nat->Prop} (w:∀m,eJ st step inv K m s->Q m) (v:σ) (hs:s=st v) (hv:inv v) (h:ok (cK step v) K):∃m,Q m:=by
 cases hw:cK step v with
 | none=>rw[hw] at h;exact h.elim
 | some r=>
  obtain⟨m,hm⟩:=mN hw
  rw[hw] at h
  exact⟨m,w _ ⟨v,hs,hv,by rw[hm];exact h⟩⟩
theorem cV {σ ρ:Type} {step:σ->Option (Sum σ ρ)} {v:σ} {m:Nat} {K:ρ->Prop} {T:Prop} (h:ok (jF step m v) K) (h1:∀m',m=m'+1->ok (step v) (bB (fun s'=>ok (jF step m' s') K) (fun r=>K r))->T):T:=by
 cases m with
 | zero=>exact h.elim
 | succ m=>exact h1 m rfl (bp (show ok (bF (step v) _ _) K from h) (fun _ h=>h) (fun _ h=>h))
theorem bR {σ ρ:Type} {st:σ->St} {step:σ->Option (Sum σ ρ)} {inv:σ->Prop} {K:ρ->Prop} {m m0:Nat} {s:St} {Q:Nat->Prop} (w:∀m,eJ st step inv K m s->Q m) (hm:m0=m+1) (v:σ) (hs:s=st v) (hv:inv v) (h:ok (jF step m v) K):∃m',m'<m0/\Q m':=
 ⟨m,by omega,w _ ⟨v,hs,hv,h⟩⟩
def SmB (B:Nat):(t:Ty)->t.D->Prop
 | .int _,_=>True
 | .bool,_=>True
 | .unit,_=>True
 | .str,s=>(s:ByteArray).size<=B
 | .sl t,xs=>(xs:List t.D).length<=B/\∀x∈(xs:List t.D),SmB B t x
 | .pair a b,x=>SmB B a x.1/\SmB B b x.2
abbrev Sm (t:Ty) (x:t.D):Prop:=SmB 1048576 t x
abbrev Ln (t:Ty) (x:t.D):Prop:=SmB 9223372036854775807 t x
def Ty.bare:Ty->Bool
 | .str=>false
 | .sl _=>false
 | .pair a b=>a.bare&&b.bare
 | _=>true
section
variable {B:Nat}
theorem Bf:∀{t:Ty} (_:t.bare=true) (x:t.D),SmB B t x
 | .int _,_,_=>trivial
 | .bool,_,_=>trivial
 | .unit,_,_=>trivial
 | .str,h,_=>by simp[Ty.bare] at h
 | .sl _,h,_=>by simp[Ty.bare] at h
 | .pair a b,h,x=>by
  simp only[Ty.bare,Bool.and_eq_true] at h
  exact⟨Bf h.1 x.1,Bf h.2 x.2⟩
theorem Bw:∀t:Ty,SmB B t t.zero
 | .int _=>trivial
 | .bool=>trivial
 | .unit=>trivial
 | .str=>Nat.zero_le _
 | .sl _=>⟨Nat.zero_le _,fun _ h=>by cases h⟩
 | .pair a b=>⟨Bw a,Bw b⟩
theorem aJ {t:Ty} {xs:List t.D} (h:SmB B (.sl t) xs) (i:Int):SmB B t (nth xs i):=by
 unfold nth
 rw[List.getD_eq_getElem?_getD]
 cases he:xs[i.toNat]? with
 | none=>exact Bw t
 | some x=>exact h.2 x (List.mem_of_getElem? he)
theorem ta {t:Ty} {xs:List t.D} (h:SmB B (.sl t) xs) (c:Option (Int×Int)):SmB B (.sl t) (aD xs c):=by
 cases c with
 | none=>exact h
 | some p=>
  obtain⟨lo,hi⟩:=p
  refine⟨?_,fun x hx=>h.2 x (List.mem_of_mem_drop (List.mem_of_mem_take hx))⟩
  have:=h.1
  simp only[aD,List.length_take,List.length_drop]
  omega
theorem jQ (t:Ty):SmB B (.sl t) []:=⟨Nat.zero_le _,fun _ h=>by cases h⟩
theorem pN {t:Ty} {b:Bool} {x y:t.D} (hx:SmB B t x) (hy:SmB B t y):SmB B t (cond b x y):=by cases b<;>assumption
theorem gH {t:Ty} {x y:t.D} (e:x=y) (h:SmB B t y):SmB B t x:=e▸h
theorem kW (s:ByteArray):(bL s).length=s.size:=by simp[bL]
theorem FC {s:ByteArray} (h:SmB B .str s):SmB B (.sl (.int .u8)) (bL s):=⟨by rw[kW];exact h,fun _ _=>trivial⟩
end
theorem nR {t:Ty} {x:t.D} (h:Sm t x):Sm (.sl t) [x]:=⟨by show (1:Nat)<=1048576;omega,fun y hy=>by rw[List.mem_singleton.1 hy];exact h⟩
theorem bu {B:Nat} {t:Ty} {xs:List t.D} (h:SmB B (.sl t) xs) (hB:Nat.ble B 9223372036854775807=true:=by rfl):(xs.length:Int)<=om:=by
 have:=h.1
 have:=Nat.le_of_ble_eq_true hB
 unfold om
 omega
theorem HB {B:Nat} {s:ByteArray} (h:SmB B .str s) (hB:Nat.ble B 9223372036854775807=true:=by rfl):(s.size:Int)<=om:=by
 have h:s.size<=B:=h
 have:=Nat.le_of_ble_eq_true hB
 unfold om
 omega
theorem DA {t:Ty} {xs:List t.D} {e:Nat} (h:Sm (.sl t) xs) (he:Nat.ble e 1000000=true):xs.length * e<=lim:=by
 have h1:=h.1
 have h2:xs.length * e<=1048576 * 1000000:=Nat.mul_le_mul h1 (Nat.le_of_ble_eq_true he)
 unfold lim
 omega
theorem oW {t:Ty} {xs ys:List t.D} {e:Nat} (h:Sm (.sl t) xs) (h':Sm (.sl t) ys) (he:Nat.ble e 1000000=true):(xs.length+ys.length) * e<=lim:=by
 have h1:=h.1
 have h3:=h'.1
 have h2:(xs.length+ys.length) * e<=(1048576+1048576) * 1000000:=Nat.mul_le_mul (by omega) (Nat.le_of_ble_eq_true he)
 unfold lim
 omega
def bz (n m:Int):Int:=if m > n then m else n
def Hq (n m:Int):Int:=if m<n then m else n
theorem eL {b:Bool} {T U:Prop} (h:b=true) (x:T):cond b T U:=by rw[h];exact x
theorem fK {b:Bool} {T U:Prop} (h:b=false) (x:U):cond b T U:=by rw[h];exact x
theorem bet {a:Bool} (h:(a==true)=true):a=true:=by cases a<;>first | rfl | cases h
theorem bef {a:Bool} (h:(a==true)=false):a=false:=by cases a<;>first | rfl | cases h
theorem bgt {a:Bool} (h:(a==false)=true):a=false:=by cases a<;>first | rfl | cases h
theorem bnt {a:Bool} (h:(!a)=true):a=false:=by cases a<;>first | rfl | cases h
theorem bnf {a:Bool} (h:(!a)=false):a=true:=by cases a<;>first | rfl | cases h
theorem uet {a:Bool} (h:a=true):(a==true)=true:=by rw[h];rfl
theorem uef {a:Bool} (h:a=false):(a==true)=false:=by rw[h];rfl
theorem unt {a:Bool} (h:a=false):(!a)=true:=by rw[h];rfl
theorem unf {a:Bool} (h:a=true):(!a)=false:=by rw[h];rfl
theorem mC {a k j:Int} (h:decide (a=k)=true) (hn:k≠j):decide (a=j)=false:=by
 have:=of_decide_eq_true h
 subst this
 exact decide_eq_false hn
theorem gy:(-9223372036854775808:Int)<=0:=by decide
theorem di {α β:Type} {x:α} {f:α->Option β} {K:β->Prop} (h:ok (aL x f) K):∀r,r=x->ok (f r) K:=by rintro r rfl;exact h
theorem gU {α β:Type} {o:Option α} {f:α->Option β} {K:β->Prop} {A:α->Prop} (h:ok (Option.bind o f) K) (ha:∀x,ok (f x) K->A x):ok o A:=by
 cases o with
 | none=>exact h.elim
 | some x=>exact ha x h
def Ii {σ ε:Type} (o:Option (Sum σ ε)) (g:σ->ε):Option ε:=match o with
 | some (.inl s)=>some (g s)
 | some (.inr e)=>some e
 | none=>none
def Ie {σ ε ρ:Type} (o:Option (Sum σ (Sum ε ρ))) (g:σ->ε):Option (Sum ε ρ):=match o with
 | some (.inl s)=>some (.inl (g s))
 | some (.inr r)=>some r
 | none=>none
inductive RK where
 | raw
 | dat (t:Ty)
 | tup (ts:List Ty)
 /-- What is clipped goes out as an own array. -/
 | own
def DB:List Ty->List AV->Option (List AV)
 | [],[]=>some []
 | t::ts,v::vs=>(match ug t v,DB ts vs with
  | some x,some l=>some (.data t x::l)
  | _,_=>none)
 | _,_=>none
def CG (k:RK) (K:AV->Hp->Prop) (v:AV) (hp:Hp):Prop:=match k with
 | .raw=>K v hp
 | .dat t=>cB (St.gR ⟨[],hp⟩ t v) fun p=>K (.data t p.1) p.2.hp
 | .tup ts=>(match v with
  | .tup vs=>cB (DB ts vs) fun l=>K (.tup l) hp
  | _=>False)
 | .own=>(match v with
  | .clp id hi=>(match lookup hp id with
   | some (.arr _ _ xs)=>hi=(xs.length:Int)/\K (.own id none) hp
   | _=>False)
  | v=>K v hp)
section
variable {P:Program} {C:Ctx} {g:Gl} {N:Nat} {a:Act} {w:World} {φ:Names}
theorem GF {I S:Nat->Prop} {hp:Hp} {t:Ty} {v:AV} {x:t.D} {u:Value} (hv:ai w I S φ hp v u) (hx:ug t v=some x):ai w I S φ hp (.data t x) u:=by
 unfold ug at hx
 split at hx
 ·split at hx
  ·rename_i hh _
   cases hh
   cases hx
   exact hv
  ·cases hx
 ·cases ha:t.agg with
  | true=>rw[ha] at hx;cases hx
  | false=>
   rw[ha] at hx
   simp only[cond_false] at hx
   simp only[ai] at hv ⊢
   obtain⟨cs,hr,e⟩:=gL w I hx
   exact⟨cs,hr,hv.trans e⟩
 ·cases hx
theorem CL {I S:Nat->Prop} {hp:Hp}:∀{ts:List Ty} {vs l:List AV} {us:List Value},ak w I S φ hp vs us->DB ts vs=some l->ak w I S φ hp l us
 | [],[],l,us,h,hl=>by
  simp only[DB,Option.some.injEq] at hl
  subst hl
  exact h
 | t::ts,v::vs,l,us,h,hl=>by
  simp only[DB] at hl
  split at hl
  ·rename_i x l' hx hl'
   cases hl
   simp only[ak] at h ⊢
   obtain⟨u,us',e,h1,h2⟩:=h
   exact⟨u,us',e,GF (t:=t) h1 hx,CL h2 hl'⟩
  ·cases hl
 | [],_::_,_,_,_,hl=>by simp[DB] at hl
 | _::_,[],_,_,_,hl=>by simp[DB] at hl
theorem zD.CG {k:RK} {K:AV->Hp->Prop} {o:Ending} (h:zD g (CG k K) o w):zD g K o w:=by
 cases k with
 | raw=>exact h
 | dat t=>
  cases o with
  | returned u=>
   obtain⟨v,hp,φ,hk,hs,hr⟩:=h
   obtain⟨p,hp',hk⟩:=aI hk
   obtain⟨h1,h2⟩:=Sim.gR hs hr (show St.gR ⟨[],hp⟩ t v=some (p.1,p.2) from hp')
   exact⟨_,_,φ,hk,h1.bare,by simp only[ai];exact h2⟩
  | panicked c=>exact h
  | outgrown=>exact h
 | tup ts=>
  cases o with
  | returned u=>
   obtain⟨v,hp,φ,hk,hs,hr⟩:=h
   unfold AE.CG at hk
   simp only at hk
   split at hk
   ·obtain⟨l,hl,hk⟩:=aI hk
    simp only[ai] at hr
    obtain⟨us,e,hr⟩:=hr
    exact⟨_,_,φ,hk,hs,by simp only[ai];exact⟨us,e,CL hr hl⟩⟩
   ·exact hk.elim
  | panicked c=>exact h
  | outgrown=>exact h
 | own=>
  cases o with
  | returned u=>
   obtain⟨v,hp,φ,hk,hs,hr⟩:=h
   unfold AE.CG at hk
   simp only at hk
   split at hk
   ·rename_i id hi
    split at hk
    ·rename_i d t xs hl
     obtain⟨he,hk⟩:=hk
     refine⟨_,_,φ,hk,hs,?_⟩
     simp only[ai] at hr ⊢
     intro blk hb
     obtain⟨d',t',xs',e1,h0,h1,e,l,h2,h3⟩:=hr blk hb
     subst e1
     rw[hl] at hb
     cases hb
     have e2:hi.toNat=xs.length:=by omega
     rw[e2] at h2
     exact⟨_,_,_,rfl,e,l,h2,h3⟩
    ·exact hk.elim
   ·exact⟨v,hp,φ,hk,hs,hr⟩
  | panicked c=>exact h
  | outgrown=>exact h
theorem HG {ds:List (Nat×Bool)} (hT:TabOk P C) (hC:dK P C) (hm:P.follows .mixedOrders=true) {f:FuncId} {fn:Func} {code:Code} {con:Con} (hf:P.funcs[f]? = some fn) (hb:fn.body=some code) (hN:C.n=fn.ntmps)
  (hcon:∀args hp K,con.run args hp K->(args.length<=fn.ntmps/\args.length<=bH)/\∃(ann:Nat->List Dir) (L:bD) (k:RK),(∀p∈bM (fF ds code),fL C L ann p.1 p.2)/\awp C L ann (fF ds code) ⟨nx 0 args,hp⟩ (Jf C.tab C.deep fn.results.toList (Dq hp) (CG k K))):yu P f con:=by
 intro g args hp K φ vals hr h hv
 obtain⟨hle,ann,L,k,hL,hw⟩:=hcon args hp K hr
 refine calls_of_wp hf hb (wp_mono ((Ck hT hC hN hm code).1 hL _ _ _ _ φ (h.entry hv hle.1 hle.2) hw) ?_)
 intro e a' w' hq
 have fin:(∃s φ,GC C.tab C.deep fn.results.toList (Dq hp) s (CG k K)/\Sim g fn.ntmps s a' w' φ)->a'.defers=[]/\∃v,(results fn a'.tmps).run P w'=.ok v w'/\zD g K (.returned v) w':=by
  rintro ⟨s,φ,hk,hs⟩
  obtain⟨v,h1,h2⟩:=IL hT hs hk
  exact⟨hs.defers,v,h1,zD.CG h2⟩
 cases e with
 | normal=>exact fin hq
 | ret=>exact fin hq
 | exit i=>obtain⟨s,φ,hk,_⟩:=hq;exact hk.elim
 | goto l=>exact hq.elim
 | panic c=>exact hq.elim
 | outgrown=>exact hq.elim
end
theorem bt {C:Ctx} {L:bD} {ann:Nat->List Dir} {c:Code} {i0:Nat} (h:bM c=[(i0,jN c 0)]) (h0:fL C L ann i0 (jN c 0)):∀p∈bM c,fL C L ann p.1 p.2:=by
 rw[h]
 intro p hp
 simp at hp
 subst hp
 exact h0
theorem xA {C:Ctx} {L:bD} {ann:Nat->List Dir} {c:Code} {i0 i1:Nat} (h:bM c=[(i0,jN c 0),(i1,jN c 1)]) (h0:fL C L ann i0 (jN c 0)) (h1:fL C L ann i1 (jN c 1)):∀p∈bM c,fL C L ann p.1 p.2:=by
 rw[h]
 intro p hp
 simp at hp
 rcases hp with rfl | rfl
 ·exact h0
 ·exact h1
theorem HO {C:Ctx} {L:bD} {ann:Nat->List Dir} {c:Code} {i0 i1 i2:Nat} (h:bM c=[(i0,jN c 0),(i1,jN c 1),(i2,jN c 2)]) (h0:fL C L ann i0 (jN c 0)) (h1:fL C L ann i1 (jN c 1)) (h2:fL C L ann i2 (jN c 2)):∀p∈bM c,fL C L ann p.1 p.2:=by
 rw[h]
 intro p hp
 simp at hp
 rcases hp with rfl | rfl | rfl
 ·exact h0
 ·exact h1
 ·exact h2
end Go.AE
