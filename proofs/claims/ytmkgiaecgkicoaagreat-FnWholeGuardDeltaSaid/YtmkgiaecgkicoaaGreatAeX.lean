/- What a function computes as a plain value: steps that may fail, loops over lists, and how the evaluator's conditions follow. -/
import Derived.Test.YtmkgiaecgkicoaaGreatAeOpen
namespace Go.AE
open Go Go.RowKit
def ok {α:Type} (o:Option α) (K:α->Prop):Prop:=match o with
 | some x=>K x
 | none=>False
theorem aA {α:Type} {o:Option α} {x:α} {K:α->Prop} (h:o=some x) (hk:K x):ok o K:=by rw[h];exact hk
theorem cB {α:Type} {x:α} {K:α->Prop} (h:ok (some x) K):K x:=h
open Classical in
noncomputable def aa {α:Type} (p:Prop) (x:Option α):Option α:=if p then x else none
theorem aq {α:Type} {p:Prop} {x:Option α} (h:p):aa p x=x:=by unfold aa;rw[if_pos h]
theorem aC {α:Type} {p:Prop} {x:Option α} {K:α->Prop} (h:ok (aa p x) K):p/\ok x K:=by
 unfold aa at h
 by_cases hp:p
 ·rw[if_pos hp] at h;exact⟨hp,h⟩
 ·rw[if_neg hp] at h;exact h.elim
theorem Jk {α:Type} {b:Bool} {x y:Option α} {K:α->Prop} {T U:Prop} (h:ok (cond b x y) K) (h1:b=true->ok x K->T) (h2:b=false->ok y K->U):cond b T U:=by
 cases b
 ·exact h2 rfl h
 ·exact h1 rfl h
def aG {α β:Type} (x:α) (f:α->β):β:=f x
def bz {σ ρ:Type} (f:σ->Prop) (g:ρ->Prop):Sum σ ρ->Prop
 | .inl s=>f s
 | .inr r=>g r
def bH {σ ρ τ:Type} (o:Option (Sum σ ρ)) (f:σ->Option τ) (g:ρ->Option τ):Option τ:=match o with
 | some (.inl s)=>f s
 | some (.inr r)=>g r
 | none=>none
theorem bn {σ ρ τ:Type} {o:Option (Sum σ ρ)} {f:σ->Option τ} {g:ρ->Option τ} {K:τ->Prop} {A:σ->Prop} {B:ρ->Prop} (h:ok (bH o f g) K) (ha:∀s,ok (f s) K->A s) (hb:∀r,ok (g r) K->B r):ok o (bz A B):=by
 unfold bH at h
 split at h
 ·exact ha _ h
 ·exact hb _ h
 ·exact h.elim
@[simp] theorem bE {σ ρ τ:Type} {s:σ} {f:σ->Option τ} {g:ρ->Option τ}:bH (some (.inl s)) f g=f s:=rfl
@[simp] theorem Hg {σ ρ τ:Type} {r:ρ} {f:σ->Option τ} {g:ρ->Option τ}:bH (some (.inr r)) f g=g r:=rfl
def aU {α σ ρ:Type} (f:α->σ->Option (Sum σ ρ)):List α->σ->Option (Sum σ ρ)
 | [],s=>some (.inl s)
 | x::xs,s=>bH (f x s) (fun s'=>aU f xs s') (fun r=>some (.inr r))
theorem GA {α σ ρ:Type} {f:α->σ->Option (Sum σ ρ)} {x:α} {xs:List α} {s:σ} {K:Sum σ ρ->Prop} (h:ok (aU f (x::xs) s) K):ok (f x s) (bz (fun s'=>ok (aU f xs s') K) (fun r=>K (.inr r))):=
 bn (show ok (bH (f x s) _ _) K from h) (fun _ h=>h) (fun _ h=>h)
def aT (a n:Int):List Int:=(List.range (n-a).toNat).map fun(k:Nat)=>a+(k:Int)
theorem gy {a n:Int} (h:n<=a):aT a n=[]:=by
 have:(n-a).toNat=0:=by omega
 simp[aT,this]
theorem hY {a n:Int} (h:a<n):aT a n=a::aT (a+1) n:=by
 have e:(n-a).toNat=(n-(a+1)).toNat+1:=by omega
 unfold aT
 rw[e,List.range_succ_eq_map]
 simp only[List.map_cons,List.map_map]
 congr 1
 ·simp
 ·apply List.map_congr_left
  intro k _
  simp
  omega
theorem wz {t:Ty} {xs:List t.D} {i:Int} (h0:0<=i) (h1:i<(xs.length:Int)):List.drop i.toNat xs=nth xs i::List.drop (i+1).toNat xs:=by
 have hlt:i.toNat<xs.length:=by omega
 rw[List.drop_eq_getElem_cons hlt]
 have e:(i+1).toNat=i.toNat+1:=by omega
 rw[e]
 congr 1
 unfold nth
 rw[List.getD_eq_getElem?_getD,List.getElem?_eq_getElem hlt]
 rfl
theorem hU {t:Ty} {xs:List t.D} {i:Int} (h0:0<=i) (h1:i<(xs.length:Int)):nth xs i∈xs:=by
 have hlt:i.toNat<xs.length:=by omega
 unfold nth
 rw[List.getD_eq_getElem?_getD,List.getElem?_eq_getElem hlt]
 exact List.getElem_mem hlt
theorem aF {n:Int} (h1:-9223372036854775808<=n) (h2:n<=9223372036854775807):wrap64 n=n:=by
 unfold wrap64
 omega
def eS:Int:=9223372036854775807
def dc {σ ρ:Type} (st:Int->σ->St) (lo N:Int) (f:Int->σ->Option (Sum σ ρ)) (inv:σ->Prop) (K:Sum σ ρ->Prop) (m:Nat) (s:St):Prop:=
 ∃i v,s=st i v/\lo<=i/\m=(N-i).toNat/\inv v/\ok (aU f (aT i N) v) K
def cw {t:Ty} {σ ρ:Type} (st:Int->σ->St) (xs:List t.D) (f:t.D->σ->Option (Sum σ ρ)) (inv:σ->Prop) (K:Sum σ ρ->Prop) (m:Nat) (s:St):Prop:=
 ∃i v,s=st i v/\0<=i/\m=((xs.length:Int)-i).toNat/\inv v/\ok (aU f (xs.drop i.toNat) v) K
def kj {σ ρ:Type} (step:σ->Option (Sum σ ρ)):Nat->σ->Option ρ
 | 0,_=>none
 | m+1,s=>bH (step s) (fun s'=>kj step m s') (fun r=>some r)
def de {σ ρ:Type} (st:σ->St) (step:σ->Option (Sum σ ρ)) (inv:σ->Prop) (K:ρ->Prop) (m:Nat) (s:St):Prop:=
 ∃v,s=st v/\inv v/\ok (kj step m v) K
theorem bT {σ ρ:Type} {st:Int->σ->St} {lo N:Int} {f:Int->σ->Option (Sum σ ρ)} {inv:σ->Prop} {K:Sum σ ρ->Prop} {s:St} {Q:Nat->Prop} (w:∀m,dc st lo N f inv K m s->Q m) (i:Int) (v:σ) (hs:s=st i v) (hlo:lo<=i) (hv:inv v) (h:ok (aU f (aT i N) v) K):∃m,Q m:=
 ⟨_,w _ ⟨i,v,hs,hlo,rfl,hv,h⟩⟩
theorem bu {t:Ty} {σ ρ:Type} {st:Int->σ->St} {xs:List t.D} {f:t.D->σ->Option (Sum σ ρ)} {inv:σ->Prop} {K:Sum σ ρ->Prop} {s:St} {Q:Nat->Prop} (w:∀m,cw st xs f inv K m s->Q m) (v:σ) (hs:s=st 0 v) (hv:inv v) (h:ok (aU f xs v) K):∃m,Q m:=
 ⟨_,w _ ⟨0,v,hs,Int.le_refl _,rfl,hv,h⟩⟩
theorem aV {σ ρ:Type} {st:Int->σ->St} {lo N i:Int} {f:Int->σ->Option (Sum σ ρ)} {inv:σ->Prop} {K:Sum σ ρ->Prop} {s:St} {Q:Nat->Prop} (w:∀m,dc st lo N f inv K m s->Q m) (v:σ) (hs:s=st (wrap64 (i+1)) v) (hlo:lo<=i) (h0:-9223372036854775808<=lo) (hlt:i<N) (hN:N<=eS) (hv:inv v)
  (h:ok (aU f (aT (i+1) N) v) K):∃m',m'<(N-i).toNat/\Q m':=by
 unfold eS at hN
 have hw:wrap64 (i+1)=i+1:=aF (by omega) (by omega)
 rw[hw] at hs
 exact⟨(N-(i+1)).toNat,by omega,w _ ⟨i+1,v,hs,by omega,rfl,hv,h⟩⟩
theorem br {t:Ty} {σ ρ:Type} {st:Int->σ->St} {xs:List t.D} {i:Int} {f:t.D->σ->Option (Sum σ ρ)} {inv:σ->Prop} {K:Sum σ ρ->Prop} {s:St} {Q:Nat->Prop} (w:∀m,cw st xs f inv K m s->Q m) (v:σ) (hs:s=st (wrap64 (i+1)) v) (h0:0<=i) (hlt:i<(xs.length:Int)) (hN:(xs.length:Int)<=eS) (hv:inv v)
  (h:ok (aU f (xs.drop (i+1).toNat) v) K):∃m',m'<((xs.length:Int)-i).toNat/\Q m':=by
 unfold eS at hN
 have hw:wrap64 (i+1)=i+1:=aF (by omega) (by omega)
 rw[hw] at hs
 exact⟨((xs.length:Int)-(i+1)).toNat,by omega,w _ ⟨i+1,v,hs,by omega,rfl,hv,h⟩⟩
theorem ct {σ ρ:Type} {i N:Int} {f:Int->σ->Option (Sum σ ρ)} {v:σ} {K:Sum σ ρ->Prop} {T U:Prop} (h:ok (aU f (aT i N) v) K)
  (h1:i<N->ok (f i v) (bz (fun s'=>ok (aU f (aT (i+1) N) s') K) (fun r=>K (.inr r)))->T) (h2:K (.inl v)->U):cond (decide (i<N)) T U:=by
 by_cases hlt:i<N
 ·rw[decide_eq_true hlt]
  rw[hY hlt] at h
  exact h1 hlt (GA h)
 ·rw[decide_eq_false hlt]
  rw[gy (by omega)] at h
  exact h2 h
theorem bD {t:Ty} {σ ρ:Type} {i:Int} {xs:List t.D} {f:t.D->σ->Option (Sum σ ρ)} {v:σ} {K:Sum σ ρ->Prop} {T U:Prop} (h0:0<=i) (h:ok (aU f (xs.drop i.toNat) v) K)
  (h1:i<(xs.length:Int)->ok (f (nth xs i) v) (bz (fun s'=>ok (aU f (xs.drop (i+1).toNat) s') K) (fun r=>K (.inr r)))->T) (h2:K (.inl v)->U):cond (decide (i<(xs.length:Int))) T U:=by
 by_cases hlt:i<(xs.length:Int)
 ·rw[decide_eq_true hlt]
  rw[wz h0 hlt] at h
  exact h1 hlt (GA h)
 ·rw[decide_eq_false hlt]
  rw[List.drop_eq_nil_of_le (by omega)] at h
  exact h2 h
theorem uc {σ ρ:Type} {step:σ->Option (Sum σ ρ)} {r:ρ}:∀{m n:Nat} {s:σ},m<=n->kj step m s=some r->kj step n s=some r
 | 0,_,_,_,h=>by simp[kj] at h
 | m+1,0,_,hmn,_=>by omega
 | m+1,n+1,s,hmn,h=>by
  unfold kj bH at h ⊢
  cases hs:step s with
  | none=>rw[hs] at h;exact h
  | some o=>
   rw[hs] at h
   cases o with
   | inl s'=>exact uc (by omega) h
   | inr r'=>exact h
open Classical in
noncomputable def cF {σ ρ:Type} (step:σ->Option (Sum σ ρ)) (s:σ):Option ρ:=if h:∃m r,kj step m s=some r then some (Classical.choose (Classical.choose_spec h)) else none
theorem sn {σ ρ:Type} {step:σ->Option (Sum σ ρ)} {s:σ} {m:Nat} {r:ρ} (h:kj step m s=some r):cF step s=some r:=by
 have he:∃m r,kj step m s=some r:=⟨m,r,h⟩
 unfold cF
 rw[dif_pos he]
 have h2:=Classical.choose_spec (Classical.choose_spec he)
 rcases Nat.le_total m (Classical.choose he) with hm | hm
 ·exact(h2.symm.trans (uc hm h))
 ·exact((uc hm h2).symm.trans h)
theorem oa {σ ρ:Type} {step:σ->Option (Sum σ ρ)} {s:σ} {r:ρ} (h:cF step s=some r):∃m,kj step m s=some r:=by
 unfold cF at h
 split at h
 ·rename_i he
  cases h
  exact⟨_,Classical.choose_spec (Classical.choose_spec he)⟩
 ·cases h
theorem jz {σ ρ:Type} (step:σ->Option (Sum σ ρ)) (s:σ):cF step s=bH (step s) (fun s'=>cF step s') (fun r=>some r):=by
 cases hs:step s with
 | none=>
  show cF step s=none
  cases hw:cF step s with
  | none=>rfl
  | some r=>
   obtain⟨m,hm⟩:=oa hw
   cases m with
   | zero=>cases hm
   | succ m=>unfold kj at hm;rw[hs] at hm;cases hm
 | some o=>
  cases o with
  | inr r=>exact sn (m:=1) (by unfold kj;rw[hs];rfl)
  | inl s'=>
   show cF step s=cF step s'
   cases hw:cF step s' with
   | some r=>
    obtain⟨m,hm⟩:=oa hw
    exact sn (m:=m+1) (by unfold kj;rw[hs];exact hm)
   | none=>
    cases hw2:cF step s with
    | none=>rfl
    | some r=>
     obtain⟨m,hm⟩:=oa hw2
     cases m with
     | zero=>cases hm
     | succ m=>
      unfold kj at hm
      rw[hs] at hm
      have:=sn (show kj step m s'=some r from hm)
      rw[hw] at this
      cases this
theorem bJ {σ ρ:Type} {st:σ->St} {step:σ->Option (Sum σ ρ)} {inv:σ->Prop} {K:ρ->Prop} {s:St} {Q:Nat->Prop} (w:∀m,de st step inv K m s->Q m) (v:σ) (hs:s=st v) (hv:inv v) (h:ok (cF step v) K):∃m,Q m:=by
 cases hw:cF step v with
 | none=>rw[hw] at h;exact h.elim
 | some r=>
  obtain⟨m,hm⟩:=oa hw
  rw[hw] at h
  exact⟨m,w _ ⟨v,hs,hv,by rw[hm];exact h⟩⟩
theorem cC {σ ρ:Type} {step:σ->Option (Sum σ ρ)} {v:σ} {m:Nat} {K:ρ->Prop} {T:Prop} (h:ok (kj step m v) K) (h1:∀m',m=m'+1->ok (step v) (bz (fun s'=>ok (kj step m' s') K) (fun r=>K r))->T):T:=by
 cases m with
 | zero=>exact h.elim
 | succ m=>exact h1 m rfl (bn (show ok (bH (step v) _ _) K from h) (fun _ h=>h) (fun _ h=>h))
theorem aW {σ ρ:Type} {st:σ->St} {step:σ->Option (Sum σ ρ)} {inv:σ->Prop} {K:ρ->Prop} {m m0:Nat} {s:St} {Q:Nat->Prop} (w:∀m,de st step inv K m s->Q m) (hm:m0=m+1) (v:σ) (hs:s=st v) (hv:inv v) (h:ok (kj step m v) K):∃m',m'<m0/\Q m':=
 ⟨m,by omega,w _ ⟨v,hs,hv,h⟩⟩
def SmB (B:Nat):(t:Ty)->t.D->Prop
 | .int _,_=>True
 | .bool,_=>True
 | .unit,_=>True
 | .str,s=>(s:ByteArray).size<=B
 | .sl t,xs=>(xs:List t.D).length<=B/\∀x∈(xs:List t.D),SmB B t x
 | .pair a b,x=>SmB B a x.1/\SmB B b x.2
abbrev Sm (t:Ty) (x:t.D):Prop:=SmB 1048576 t x
abbrev Ln (t:Ty) (x:t.D):Prop:=SmB 9223372036854775807 t x
def Ty.bare:Ty->Bool
 | .str=>false
 | .sl _=>false
 | .pair a b=>a.bare&&b.bare
 | _=>true
section
variable {B:Nat}
theorem yO:∀{t:Ty} (_:t.bare=true) (x:t.D),SmB B t x
 | .int _,_,_=>trivial
 | .bool,_,_=>trivial
 | .unit,_,_=>trivial
 | .str,h,_=>by simp[Ty.bare] at h
 | .sl _,h,_=>by simp[Ty.bare] at h
 | .pair a b,h,x=>by
  simp only[Ty.bare,Bool.and_eq_true] at h
  exact⟨yO h.1 x.1,yO h.2 x.2⟩
theorem Cy:∀t:Ty,SmB B t t.zero
 | .int _=>trivial
 | .bool=>trivial
 | .unit=>trivial
 | .str=>Nat.zero_le _
 | .sl _=>⟨Nat.zero_le _,fun _ h=>by cases h⟩
 | .pair a b=>⟨Cy a,Cy b⟩
theorem aO {t:Ty} {xs:List t.D} (h:SmB B (.sl t) xs) (i:Int):SmB B t (nth xs i):=by
 unfold nth
 rw[List.getD_eq_getElem?_getD]
 cases he:xs[i.toNat]? with
 | none=>exact Cy t
 | some x=>exact h.2 x (List.mem_of_getElem? he)
theorem tV {t:Ty} {xs:List t.D} (h:SmB B (.sl t) xs) (c:Option (Int×Int)):SmB B (.sl t) (aj xs c):=by
 cases c with
 | none=>exact h
 | some p=>
  obtain⟨lo,hi⟩:=p
  refine⟨?_,fun x hx=>h.2 x (List.mem_of_mem_drop (List.mem_of_mem_take hx))⟩
  have:=h.1
  simp only[aj,List.length_take,List.length_drop]
  omega
theorem kJ (t:Ty):SmB B (.sl t) []:=⟨Nat.zero_le _,fun _ h=>by cases h⟩
theorem qk {t:Ty} {b:Bool} {x y:t.D} (hx:SmB B t x) (hy:SmB B t y):SmB B t (cond b x y):=by cases b<;>assumption
theorem lM (s:ByteArray):(cj s).length=s.size:=by simp[cj]
theorem Ik {s:ByteArray} (h:SmB B .str s):SmB B (.sl (.int .u8)) (cj s):=⟨by rw[lM];exact h,fun _ _=>trivial⟩
end
theorem HB {t:Ty} {x:t.D} (h:Sm t x):Sm (.sl t) [x]:=⟨by show (1:Nat)<=1048576;omega,fun y hy=>by rw[List.mem_singleton.1 hy];exact h⟩
theorem bC {B:Nat} {t:Ty} {xs:List t.D} (h:SmB B (.sl t) xs) (hB:Nat.ble B 9223372036854775807=true:=by rfl):(xs.length:Int)<=eS:=by
 have:=h.1
 have:=Nat.le_of_ble_eq_true hB
 unfold eS
 omega
theorem JR {B:Nat} {s:ByteArray} (h:SmB B .str s) (hB:Nat.ble B 9223372036854775807=true:=by rfl):(s.size:Int)<=eS:=by
 have h:s.size<=B:=h
 have:=Nat.le_of_ble_eq_true hB
 unfold eS
 omega
theorem AH {t:Ty} {xs:List t.D} {e:Nat} (h:Sm (.sl t) xs) (he:Nat.ble e 1000000=true):xs.length * e<=lim:=by
 have h1:=h.1
 have h2:xs.length * e<=1048576 * 1000000:=Nat.mul_le_mul h1 (Nat.le_of_ble_eq_true he)
 unfold lim
 omega
theorem vi {t:Ty} {xs ys:List t.D} {e:Nat} (h:Sm (.sl t) xs) (h':Sm (.sl t) ys) (he:Nat.ble e 1000000=true):(xs.length+ys.length) * e<=lim:=by
 have h1:=h.1
 have h3:=h'.1
 have h2:(xs.length+ys.length) * e<=(1048576+1048576) * 1000000:=Nat.mul_le_mul (by omega) (Nat.le_of_ble_eq_true he)
 unfold lim
 omega
theorem Jo {t:Ty} {xs:List t.D} {e:Nat} (h:Sm (.sl t) xs) (he:Nat.ble e 1000000=true):(xs.length:Int) * (e:Int)<=(lim:Int):=by
 have:=AH h he
 have h2:(xs.length:Int) * (e:Int)=((xs.length * e:Nat):Int):=by simp
 rw[h2]
 omega
def bL (n m:Int):Int:=if m > n then m else n
def Hs (n m:Int):Int:=if m<n then m else n
theorem bO {b:Bool} {T U:Prop} (h:b=true) (x:T):cond b T U:=by rw[h];exact x
theorem dR {b:Bool} {T U:Prop} (h:b=false) (x:U):cond b T U:=by rw[h];exact x
theorem bet {a:Bool} (h:(a==true)=true):a=true:=by cases a<;>first | rfl | cases h
theorem bef {a:Bool} (h:(a==true)=false):a=false:=by cases a<;>first | rfl | cases h
theorem bgt {a:Bool} (h:(a==false)=true):a=false:=by cases a<;>first | rfl | cases h
theorem bgf {a:Bool} (h:(a==false)=false):a=true:=by cases a<;>first | rfl | cases h
theorem bnt {a:Bool} (h:(!a)=true):a=false:=by cases a<;>first | rfl | cases h
theorem bnf {a:Bool} (h:(!a)=false):a=true:=by cases a<;>first | rfl | cases h
theorem uet {a:Bool} (h:a=true):(a==true)=true:=by rw[h];rfl
theorem uef {a:Bool} (h:a=false):(a==true)=false:=by rw[h];rfl
theorem ugt {a:Bool} (h:a=false):(a==false)=true:=by rw[h];rfl
theorem ugf {a:Bool} (h:a=true):(a==false)=false:=by rw[h];rfl
theorem unt {a:Bool} (h:a=false):(!a)=true:=by rw[h];rfl
theorem unf {a:Bool} (h:a=true):(!a)=false:=by rw[h];rfl
theorem cY {a k j:Int} (h:decide (a=k)=true) (hn:k≠j):decide (a=j)=false:=by
 have:=of_decide_eq_true h
 subst this
 exact decide_eq_false hn
theorem iR:(-9223372036854775808:Int)<=0:=by decide
theorem cI {α β:Type} {x:α} {f:α->Option β} {K:β->Prop} (h:ok (aG x f) K):∀r,r=x->ok (f r) K:=by rintro r rfl;exact h
theorem eR {α β:Type} {o:Option α} {f:α->Option β} {K:β->Prop} {A:α->Prop} (h:ok (Option.bind o f) K) (ha:∀x,ok (f x) K->A x):ok o A:=by
 cases o with
 | none=>exact h.elim
 | some x=>exact ha x h
def Ke {σ ε:Type} (o:Option (Sum σ ε)) (g:σ->ε):Option ε:=match o with
 | some (.inl s)=>some (g s)
 | some (.inr e)=>some e
 | none=>none
def Kj {σ ε ρ:Type} (o:Option (Sum σ (Sum ε ρ))) (g:σ->ε):Option (Sum ε ρ):=match o with
 | some (.inl s)=>some (.inl (g s))
 | some (.inr r)=>some r
 | none=>none
inductive RK where
 | raw
 | dat (t:Ty)
 | tup (ts:List Ty)
 /-- What is clipped goes out as an own array. -/
 | own
def FC:List Ty->List AV->Option (List AV)
 | [],[]=>some []
 | t::ts,v::vs=>(match va t v,FC ts vs with
  | some x,some l=>some (.data t x::l)
  | _,_=>none)
 | _,_=>none
def EC (k:RK) (K:AV->Hp->Prop) (v:AV) (hp:Hp):Prop:=match k with
 | .raw=>K v hp
 | .dat t=>cS (St.iT ⟨[],hp⟩ t v) fun p=>K (.data t p.1) p.2.hp
 | .tup ts=>(match v with
  | .tup vs=>cS (FC ts vs) fun l=>K (.tup l) hp
  | _=>False)
 | .own=>(match v with
  | .clp id hi=>(match lookup hp id with
   | some (.arr _ _ xs)=>hi=(xs.length:Int)/\K (.own id none) hp
   | _=>False)
  | v=>K v hp)
section
variable {P:Program} {C:Ctx} {g:Gl} {N:Nat} {a:Act} {w:World} {φ:Names}
theorem HF {I S:Nat->Prop} {hp:Hp} {t:Ty} {v:AV} {x:t.D} {u:Value} (hv:ak w I S φ hp v u) (hx:va t v=some x):ak w I S φ hp (.data t x) u:=by
 unfold va at hx
 split at hx
 ·split at hx
  ·rename_i hh _
   cases hh
   cases hx
   exact hv
  ·cases hx
 ·cases ha:t.agg with
  | true=>rw[ha] at hx;cases hx
  | false=>
   rw[ha] at hx
   simp only[cond_false] at hx
   simp only[ak] at hv ⊢
   obtain⟨cs,hr,e⟩:=iA w I hx
   exact⟨cs,hr,hv.trans e⟩
 ·cases hx
theorem Ew {I S:Nat->Prop} {hp:Hp}:∀{ts:List Ty} {vs l:List AV} {us:List Value},ax w I S φ hp vs us->FC ts vs=some l->ax w I S φ hp l us
 | [],[],l,us,h,hl=>by
  simp only[FC,Option.some.injEq] at hl
  subst hl
  exact h
 | t::ts,v::vs,l,us,h,hl=>by
  simp only[FC] at hl
  split at hl
  ·rename_i x l' hx hl'
   cases hl
   simp only[ax] at h ⊢
   obtain⟨u,us',e,h1,h2⟩:=h
   exact⟨u,us',e,HF (t:=t) h1 hx,Ew h2 hl'⟩
  ·cases hl
 | [],_::_,_,_,_,hl=>by simp[FC] at hl
 | _::_,[],_,_,_,hl=>by simp[FC] at hl
theorem Bs.EC {k:RK} {K:AV->Hp->Prop} {o:Ending} (h:Bs g (EC k K) o w):Bs g K o w:=by
 cases k with
 | raw=>exact h
 | dat t=>
  cases o with
  | returned u=>
   obtain⟨v,hp,φ,hk,hs,hr⟩:=h
   obtain⟨p,hp',hk⟩:=aJ hk
   obtain⟨h1,h2⟩:=Sim.iT hs hr (show St.iT ⟨[],hp⟩ t v=some (p.1,p.2) from hp')
   exact⟨_,_,φ,hk,h1.bare,by simp only[ak];exact h2⟩
  | panicked c=>exact h
  | outgrown=>exact h
 | tup ts=>
  cases o with
  | returned u=>
   obtain⟨v,hp,φ,hk,hs,hr⟩:=h
   unfold AE.EC at hk
   simp only at hk
   split at hk
   ·obtain⟨l,hl,hk⟩:=aJ hk
    simp only[ak] at hr
    obtain⟨us,e,hr⟩:=hr
    exact⟨_,_,φ,hk,hs,by simp only[ak];exact⟨us,e,Ew hr hl⟩⟩
   ·exact hk.elim
  | panicked c=>exact h
  | outgrown=>exact h
 | own=>
  cases o with
  | returned u=>
   obtain⟨v,hp,φ,hk,hs,hr⟩:=h
   unfold AE.EC at hk
   simp only at hk
   split at hk
   ·rename_i id hi
    split at hk
    ·rename_i d t xs hl
     obtain⟨he,hk⟩:=hk
     refine⟨_,_,φ,hk,hs,?_⟩
     simp only[ak] at hr ⊢
     intro blk hb
     obtain⟨d',t',xs',e1,h0,h1,e,l,h2,h3⟩:=hr blk hb
     subst e1
     rw[hl] at hb
     cases hb
     have e2:hi.toNat=xs.length:=by omega
     rw[e2] at h2
     exact⟨_,_,_,rfl,e,l,h2,h3⟩
    ·exact hk.elim
   ·exact⟨v,hp,φ,hk,hs,hr⟩
  | panicked c=>exact h
  | outgrown=>exact h
theorem JS {ds:List (Nat×Bool)} (hT:TabOk P C) (hC:eL P C) (hm:P.follows .mixedOrders=true) {f:FuncId} {fn:Func} {code:Code} {con:Con} (hf:P.funcs[f]? = some fn) (hb:fn.body=some code) (hN:C.n=fn.ntmps)
  (hcon:∀args hp K,con.run args hp K->(args.length<=fn.ntmps/\args.length<=bV)/\∃(ann:Nat->List Dir) (L:bK) (k:RK),(∀p∈bQ (fT ds code),dn C L ann p.1 p.2)/\awp C L ann (fT ds code) ⟨oK 0 args,hp⟩ (Lc C.tab C.deep C.two fn.results.toList (EY hp) (EC k K))):zR P f con:=by
 intro g args hp K φ vals hr h hv
 obtain⟨hle,ann,L,k,hL,hw⟩:=hcon args hp K hr
 refine calls_of_wp hf hb (wp_mono ((Dk hT hC hN hm code).1 hL _ _ _ _ φ (h.entry hv hle.1 hle.2) hw) ?_)
 intro e a' w' hq
 have fin:(∃s φ,Ig C.tab C.deep C.two fn.results.toList (EY hp) s (EC k K)/\Sim g fn.ntmps s a' w' φ)->a'.defers=[]/\∃v,(results fn a'.tmps).run P w'=.ok v w'/\Bs g K (.returned v) w':=by
  rintro ⟨s,φ,hk,hs⟩
  obtain⟨v,h1,h2⟩:=KJ hT hs hk
  exact⟨hs.defers,v,h1,Bs.EC h2⟩
 cases e with
 | normal=>exact fin hq
 | ret=>exact fin hq
 | exit i=>obtain⟨s,φ,hk,_⟩:=hq;exact hk.elim
 | goto l=>exact hq.elim
 | panic c=>exact hq.elim
 | outgrown=>exact hq.elim
end
theorem bW {C:Ctx} {L:bK} {ann:Nat->List Dir} {c:Code} {i0:Nat} (h:bQ c=[(i0,dm c 0)]) (h0:dn C L ann i0 (dm c 0)):∀p∈bQ c,dn C L ann p.1 p.2:=by
 rw[h]
 intro p hp
 simp at hp
 subst hp
 exact h0
theorem qa {C:Ctx} {L:bK} {ann:Nat->List Dir} {c:Code} {i0 i1:Nat} (h:bQ c=[(i0,dm c 0),(i1,dm c 1)]) (h0:dn C L ann i0 (dm c 0)) (h1:dn C L ann i1 (dm c 1)):∀p∈bQ c,dn C L ann p.1 p.2:=by
 rw[h]
 intro p hp
 simp at hp
 rcases hp with rfl | rfl
 ·exact h0
 ·exact h1
theorem Jh {C:Ctx} {L:bK} {ann:Nat->List Dir} {c:Code} {i0 i1 i2:Nat} (h:bQ c=[(i0,dm c 0),(i1,dm c 1),(i2,dm c 2)]) (h0:dn C L ann i0 (dm c 0)) (h1:dn C L ann i1 (dm c 1)) (h2:dn C L ann i2 (dm c 2)):∀p∈bQ c,dn C L ann p.1 p.2:=by
 rw[h]
 intro p hp
 simp at hp
 rcases hp with rfl | rfl | rfl
 ·exact h0
 ·exact h1
 ·exact h2
theorem FY {C:Ctx} {L:bK} {ann:Nat->List Dir} {c:Code} {i0 i1 i2 i3:Nat} (h:bQ c=[(i0,dm c 0),(i1,dm c 1),(i2,dm c 2),(i3,dm c 3)]) (h0:dn C L ann i0 (dm c 0)) (h1:dn C L ann i1 (dm c 1)) (h2:dn C L ann i2 (dm c 2)) (h3:dn C L ann i3 (dm c 3)):∀p∈bQ c,dn C L ann p.1 p.2:=by
 rw[h]
 intro p hp
 simp at hp
 rcases hp with rfl | rfl | rfl | rfl
 ·exact h0
 ·exact h1
 ·exact h2
 ·exact h3
theorem JY {C:Ctx} {L:bK} {ann:Nat->List Dir} {c:Code} {i0 i1 i2 i3 i4:Nat} (h:bQ c=[(i0,dm c 0),(i1,dm c 1),(i2,dm c 2),(i3,dm c 3),(i4,dm c 4)]) (h0:dn C L ann i0 (dm c 0)) (h1:dn C L ann i1 (dm c 1)) (h2:dn C L ann i2 (dm c 2)) (h3:dn C L ann i3 (dm c 3)) (h4:dn C L ann i4 (dm c 4)):∀p∈bQ c,dn C L ann p.1 p.2:=by
 rw[h]
 intro p hp
 simp at hp
 rcases hp with rfl | rfl | rfl | rfl | rfl
 ·exact h0
 ·exact h1
 ·exact h2
 ·exact h3
 ·exact h4
end Go.AE
