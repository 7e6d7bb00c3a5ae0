/- What a law writes into slices, to see whose they are: plain Lean. -/
import Derived.Test.YtmkgiaecgkicoaaGreatAeLem
section
namespace Go.AE
open Go Go.RowKit
set_option linter.unusedVariables false
def M.big:Int:=4611686018427387904
def M.sy:Nat->Int->ByteArray->ByteArray
 | 0,_,acc=>acc
 | f+1,k,acc=>if 0<k then M.sy f (k.tdiv 10) (strOf [(48+k.tmod 10) % 256]++acc) else acc
def M.eK (k:Int):ByteArray:=if k<=0 then ⟨#[109,48]⟩ else ⟨#[109]⟩++M.sy 64 k ⟨#[]⟩
def M.iS {α:Type} (f:α->Nat):List α->Nat
 | []=>0
 | x::xs=>f x+M.iS f xs
def M.count:(t:Ty)->t.D->Nat
 | .int _,_=>1
 | .bool,_=>1
 | .str,_=>1
 | .unit,_=>0
 | .pair a b,x=>M.count a x.1+M.count b x.2
 | .sl t,xs=>M.iS (M.count t) xs
def M.lK {α:Type} (f:α->Int->α) (c:α->Nat):List α->Int->List α
 | [],_=>[]
 | x::xs,k=>f x k::M.lK f c xs (k+(c x:Int))
def M.mark:(t:Ty)->t.D->Int->t.D
 | .int _,_,k=>k
 | .bool,_,k=>decide (k.tmod (3:Int)=(0:Int))
 | .str,_,k=>M.eK k
 | .unit,_,_=>()
 | .pair a b,x,k=>(M.mark a x.1 k,M.mark b x.2 (k+(M.count a x.1:Int)))
 | .sl t,xs,k=>M.lK (M.mark t) (M.count t) xs k
namespace M
theorem Bo {α:Type} (f:α->Int->α) (c:α->Nat):∀(xs:List α) (k:Int),(lK f c xs k).length=xs.length
 | [],_=>rfl
 | x::xs,k=>by simp[lK,Bo f c xs]
theorem fQ (t:Ty) (xs:List t.D) (k:Int):(mark (.sl t) xs k:List t.D).length=xs.length:=Bo _ _ xs k
theorem tj:∀(t:Ty) (x:t.D) (k:Int),count t (mark t x k)=count t x:=by
 intro t
 induction t with
 | int k=>intro x k;rfl
 | bool=>intro x k;rfl
 | str=>intro x k;rfl
 | unit=>intro x k;rfl
 | pair a b iha ihb=>
  intro x k
  show count a (mark a x.1 k)+count b (mark b x.2 _)=_
  rw[iha,ihb]
  rfl
 | sl t ih=>
  intro xs k
  show iS (count t) (lK (mark t) (count t) xs k)=iS (count t) xs
  induction xs generalizing k with
  | nil=>rfl
  | cons x xs ihx=>
   show count t (mark t x k)+iS (count t) (lK (mark t) (count t) xs _)=_
   rw[ih,ihx]
   rfl
theorem FO:∀(t:Ty) (x:t.D) (k:Int),mark t (mark t x k) k=mark t x k:=by
 intro t
 induction t with
 | int k=>intro x k;rfl
 | bool=>intro x k;rfl
 | str=>intro x k;rfl
 | unit=>intro x k;rfl
 | pair a b iha ihb=>
  intro x k
  show (mark a (mark a x.1 k) k,mark b (mark b x.2 _) (k+(count a (mark a x.1 k):Int)))=(mark a x.1 k,mark b x.2 _)
  rw[iha,tj,ihb]
 | sl t ih=>
  intro xs k
  show lK (mark t) (count t) (lK (mark t) (count t) xs k) k=lK (mark t) (count t) xs k
  induction xs generalizing k with
  | nil=>rfl
  | cons x xs ihx=>
   show mark t (mark t x k) k::lK (mark t) (count t) (lK (mark t) (count t) xs _) (k+(count t (mark t x k):Int))=_
   rw[ih,tj,ihx]
   rfl
def maxCount:Ty->Nat
 | .int _=>1
 | .bool=>1
 | .str=>1
 | .unit=>0
 | .pair a b=>maxCount a+maxCount b
 | .sl t=>1048576 * maxCount t
theorem count_le:∀{t:Ty} {x:t.D},Sm t x->count t x<=maxCount t:=by
 intro t
 induction t with
 | int k=>intro x _;exact Nat.le_refl _
 | bool=>intro x _;exact Nat.le_refl _
 | str=>intro x _;exact Nat.le_refl _
 | unit=>intro x _;exact Nat.le_refl _
 | pair a b iha ihb=>intro x h;exact Nat.add_le_add (iha h.1) (ihb h.2)
 | sl t ih=>
  intro xs h
  have key:∀(l:List t.D),(∀x∈l,Sm t x)->iS (count t) l<=l.length * maxCount t:=by
   intro l
   induction l with
   | nil=>intro _;exact Nat.zero_le _
   | cons x l ihl=>
    intro hl
    have h1:=ih (hl x (by simp))
    have h2:=ihl (fun y hy=>hl y (by simp[hy]))
    show count t x+iS (count t) l<=(l.length+1) * maxCount t
    rw[Nat.succ_mul]
    omega
  exact Nat.le_trans (key xs h.2) (Nat.mul_le_mul_right _ h.1)
theorem sW (k:Int):(eK k).size<=66:=by
 have strs:∀n,(strOf [n]).size=1:=fun n=>rfl
 have key:∀(f:Nat) (k:Int) (acc:ByteArray),(sy f k acc).size<=acc.size+f:=by
  intro f
  induction f with
  | zero=>intro k acc;exact Nat.le_refl _
  | succ f ih=>
   intro k acc
   unfold sy
   split
   ·have:=ih (k.tdiv 10) (strOf [(48+k.tmod 10) % 256]++acc)
    rw[ByteArray.size_append,strs] at this
    omega
   ·omega
 unfold eK
 split
 ·show (2:Nat)<=66
  omega
 ·rw[ByteArray.size_append]
  have:=key 64 k ⟨#[]⟩
  have e1:(⟨#[109]⟩:ByteArray).size=1:=rfl
  have e2:(⟨#[]⟩:ByteArray).size=0:=rfl
  omega
theorem Ip {B:Nat} (hB:66<=B):∀{t:Ty} {x:t.D} (k:Int),SmB B t x->SmB B t (mark t x k):=by
 intro t
 induction t with
 | int k=>intro x k _;trivial
 | bool=>intro x k _;trivial
 | str=>intro x k _;exact Nat.le_trans (sW k) hB
 | unit=>intro x k _;trivial
 | pair a b iha ihb=>intro x k h;exact⟨iha _ h.1,ihb _ h.2⟩
 | sl t ih=>
  intro xs k h
  refine⟨?_,?_⟩
  ·rw[fQ];exact h.1
  ·have key:∀(l:List t.D) (k:Int),(∀x∈l,SmB B t x)->∀y∈lK (mark t) (count t) l k,SmB B t y:=by
    intro l
    induction l with
    | nil=>intro k _ y hy;cases hy
    | cons x l ihl=>
     intro k hl y hy
     rcases List.mem_cons.1 hy with rfl | hy
     ·exact ih k (hl x (by simp))
     ·exact ihl _ (fun z hz=>hl z (by simp[hz])) y hy
   exact key xs k h.2
theorem Ef {f:Int×ByteArray->Option (Sum (Int×ByteArray) ByteArray)} (hf:∀v:Int×ByteArray,v.1<=9223372036854775807->v.2.size<=1000->f v=some (if 0<v.1 then .inl (v.1.tdiv 10,strOf [(48+v.1.tmod 10) % 256]++v.2) else .inr v.2)) :
  ∀(n:Nat) (k:Int) (acc:ByteArray),k<10 ^ n->k<=9223372036854775807->acc.size+n<=1000->cC f (k,acc)=some (sy n k acc):=by
 intro n
 induction n with
 | zero=>
  intro k acc hk h63 ha
  have hk:¬ 0<k:=by simp at hk;omega
  rw[bP,hf _ h63 (by simpa using ha),if_neg hk]
  rfl
 | succ n ih=>
  intro k acc hk h63 ha
  rw[bP,hf _ h63 (by show acc.size<=1000;omega)]
  show aT (some (if 0<k then _ else _)) _ _=_
  unfold sy
  by_cases h:0<k
  ·rw[if_pos h,if_pos h]
   have e:k.tdiv 10=k / 10:=Int.tdiv_eq_ediv_of_nonneg (by omega)
   refine ih _ _ ?_ ?_ ?_
   ·rw[e]
    have hp:(10:Int) ^ (n+1)=10 ^ n * 10:=Int.pow_succ ..
    rw[hp] at hk
    generalize (10:Int) ^ n=m at hk
    omega
   ·rw[e];omega
   ·rw[ByteArray.size_append,show (strOf [(48+k.tmod 10) % 256]).size=1 from rfl]
    show 1+acc.size+n<=1000
    omega
  ·rw[if_neg h,if_neg h]
   rfl
theorem mZ {t:Ty} {a:List t.D} {i:Int} {z:t.D} (h0:0<=i) (h1:i<(a.length:Int)):nth (t:=t) (a.set i.toNat z) i=z:=by
 have:i.toNat<a.length:=by omega
 unfold nth
 rw[List.getD_eq_getElem?_getD,List.getElem?_set_self this]
 rfl
theorem Hx {e:Ty} {f:Int->Int×List e.D->Option (Sum (Int×List e.D) Unit)} {N:Nat}
  (hf:∀i (v:Int×List e.D),0<=i->i<(N:Int)->i<(v.2.length:Int)->0<=v.1->v.1+(count e (nth v.2 i):Int)<=big->Ln e (nth v.2 i)->f i v=some (.inl (v.1+(count e (nth v.2 i):Int),v.2.set i.toNat (mark e (nth v.2 i) v.1)))) :
  ∀(l pre:List e.D) (k:Int),pre.length+l.length=N->0<=k->k+(iS (count e) l:Int)<=big->(∀x∈l,Ln e x) →
   aK f (aH (pre.length:Int) (N:Int)) (k,pre++l)=some (.inl (k+(iS (count e) l:Int),pre++lK (mark e) (count e) l k)):=by
 intro l
 induction l with
 | nil=>
  intro pre k hN h0 hb _
  rw[fM (by simp at hN;omega)]
  show some (Sum.inl (k,pre++[]))=some (Sum.inl (k+0,pre++[]))
  rw[Int.add_zero]
 | cons x l ih=>
  intro pre k hN h0 hb hl
  simp only[List.length_cons] at hN
  have hn:nth (t:=e) (pre++x::l) (pre.length:Int)=x:=by
   unfold nth
   rw[List.getD_eq_getElem?_getD]
   simp
  have hc:iS (count e) (x::l)=count e x+iS (count e) l:=rfl
  rw[hc] at hb
  rw[eH (by omega),cq,hf _ _ (by omega) (by omega) (by simp;omega) h0 (by rw[hn];show k+_<=big;omega) (by rw[hn];exact hl x (by simp)),hn,bL]
  have e1:(pre++x::l).set ((pre.length:Int)).toNat (mark e x k)=(pre++[mark e x k])++l:=by
   simp
  rw[e1]
  have e2:(pre.length:Int)+1=((pre++[mark e x k]).length:Int):=by simp
  rw[e2,ih _ _ (by simp;omega) (by show 0<=k+_;omega) (by show k+_+_<=big;omega) (fun y hy=>hl y (by simp[hy]))]
  show some (Sum.inl (k+(count e x:Int)+_,_))=_
  rw[hc]
  congr 3
  ·omega
  ·simp[lK]
theorem pE {e:Ty} {x:List e.D} {k:Int} {f:Int->Int×List e.D->Option (Sum (Int×List e.D) Unit)} (hl:Ln (.sl e) x) (h0:0<=k) (hb:k+(count (.sl e) x:Int)<=big)
  (hf:∀i (v:Int×List e.D),0<=i->i<(x.length:Int)->i<(v.2.length:Int)->0<=v.1->v.1+(count e (nth v.2 i):Int)<=big->Ln e (nth v.2 i)->f i v=some (.inl (v.1+(count e (nth v.2 i):Int),v.2.set i.toNat (mark e (nth v.2 i) v.1)))) :
  aT (aK f (aH (0:Int) (x.length:Int)) (k,x)) (fun v:Int×List e.D=>some (v.2,v.1)) (fun _:Unit=>none)=some ((mark (.sl e) x k:List e.D),k+(count (.sl e) x:Int)):=by
 have:=Hx hf x [] k (by simp) h0 hb hl.2
 simp only[List.nil_append,List.length_nil] at this
 rw[show ((0:Nat):Int)=0 from rfl] at this
 rw[this]
 rfl
theorem Hz {e:Ty} {f:e.D->Int->Option (Sum Int Unit)} (hf:∀z v,0<=v->v+(count e z:Int)<=big->mark e z v=z->f z v=some (.inl (v+(count e z:Int)))) :
  ∀(l:List e.D) (k:Int),0<=k->k+(iS (count e) l:Int)<=big->lK (mark e) (count e) l k=l->aK f l k=some (.inl (k+(iS (count e) l:Int))):=by
 intro l
 induction l with
 | nil=>
  intro k _ _ _
  show some (Sum.inl k)=some (Sum.inl (k+0))
  rw[Int.add_zero]
 | cons x l ih=>
  intro k h0 hb hm
  have hc:iS (count e) (x::l)=count e x+iS (count e) l:=rfl
  rw[hc] at hb
  have hm:mark e x k::lK (mark e) (count e) l (k+(count e x:Int))=x::l:=hm
  obtain⟨h1,h2⟩:=List.cons.inj hm
  rw[cq,hf x k h0 (by omega) h1,bL,ih _ (by omega) (by omega) h2,hc]
  congr 2
  omega
theorem yL {e:Ty} {x:List e.D} {k:Int} {f:e.D->Int->Option (Sum Int Unit)} (h0:0<=k) (hb:k+(count (.sl e) x:Int)<=big) (hm:(mark (.sl e) x k:List e.D)=x)
  (hf:∀z v,0<=v->v+(count e z:Int)<=big->mark e z v=z->f z v=some (.inl (v+(count e z:Int)))) :
  aT (aK f x k) (fun v:Int=>some v) (fun _:Unit=>some (-1:Int))=some (k+(count (.sl e) x:Int)):=by
 rw[Hz hf x k h0 hb hm]
 rfl
end M
end Go.AE
end
section
namespace Go.AE
open Go Go.RowKit
set_option linter.unusedVariables false
def M.holds (row:List aa.D) (e:List ax.D):Bool:=Ty.beq aa (M.ep row e) (M.valueOf 1)
def M.uF (v:List TTable.D) (g:wN.D):List TTable.D:=
 v.set g.1.toNat ((nth (t:=TTable) v g.1).1,List.filter (fun r=>M.holds r g.2.1) (nth (t:=TTable) v g.1).2.1,())
namespace M
theorem qa {α:Type} (xs:List α):aB xs (some ((0:Int),(xs.length:Int)))=xs:=by
 unfold aB
 simp
theorem zM {α:Type} (xs:List α):xs.take ((xs.length:Int)).toNat=xs:=by simp
theorem Gn (t:Ty) (xs:List t.D) (k:Int):aB (mark (.sl t) xs k:List t.D) (some ((0:Int),(xs.length:Int)))=mark (.sl t) xs k:=by
 have:=qa (mark (.sl t) xs k:List t.D)
 rw[fQ] at this
 exact this
theorem BE {t:Ty} {x:t.D} (h:Sm t x):Ln t x:=yP (by decide) h
theorem Ci {t:Ty} {f:Int×List t.D->Option (Sum (Int×List t.D) (List t.D))} (p:t.D->Bool) (xs:List t.D)
  (h:∀(i:Int) (s:List t.D),0<=i->i<(xs.length:Int)->(s.length:Int)<=i->f (i,s)=some (.inl (i+1,cond (p (nth xs i)) (s++[nth xs i]) s)))
  (he:∀(i:Int) (s:List t.D),0<=i->(xs.length:Int)<=i->f (i,s)=some (.inr s)) :
  cC f ((0:Int),[])=some (xs.filter p):=by
 have key:∀(n:Nat) (i:Int) (s:List t.D),n=((xs.length:Int)-i).toNat->0<=i->(s.length:Int)<=i->cC f (i,s)=some (s++(xs.drop i.toNat).filter p):=by
  intro n
  induction n with
  | zero=>
   intro i s hn h0 hs
   rw[bP,he i s h0 (by omega),List.drop_eq_nil_of_le (by omega)]
   simp[aT]
  | succ n ih=>
   intro i s hn h0 hs
   have hlt:i<(xs.length:Int):=by omega
   have hd:=vV (t:=t) (xs:=xs) (i:=i) h0 hlt
   have e1:(i+1).toNat=i.toNat+1:=by omega
   rw[bP,h i s h0 hlt hs,bL,hd]
   cases hp:p (nth xs i) with
   | true=>
    rw[cond_true,ih (i+1) _ (by omega) (by omega) (by simp;omega),e1]
    simp[hp]
   | false=>
    rw[cond_false,ih (i+1) _ (by omega) (by omega) (by omega),e1]
    simp[hp]
 have:=key (xs.length) 0 [] (by omega) (by omega) (by simp)
 simpa using this
theorem vX {α σ ρ:Type} {f:α->σ->Option (Sum σ ρ)} (g:σ->α->σ) (I:σ->Prop) {xs:List α} {s:σ} (h0:I s)
  (h:∀x∈xs,∀s,I s->f x s=some (.inl (g s x))/\I (g s x)):aK f xs s=some (.inl (xs.foldl g s))/\I (xs.foldl g s):=by
 induction xs generalizing s with
 | nil=>exact⟨rfl,h0⟩
 | cons x xs ih=>
  obtain⟨h1,h2⟩:=h x (by simp) s h0
  rw[cq,h1,bL]
  exact ih h2 (fun y hy=>h y (by simp[hy]))
theorem yF {t:Ty} {ρ:Type} {f:Int->List t.D->Option (Sum (List t.D) ρ)} (xs:List t.D)
  (h:∀(i:Int) (s:List t.D),0<=i->i<(xs.length:Int)->(s.length:Int)<=i->f i s=some (.inl (s++[nth xs i]))) :
  aK f (aH (0:Int) (xs.length:Int)) []=some (.inl xs):=by
 have key:∀(ys zs:List t.D),xs=zs++ys->aK f (aH (zs.length:Int) (xs.length:Int)) zs=some (.inl xs):=by
  intro ys
  induction ys with
  | nil=>
   intro zs e
   rw[fM (by rw[e];simp),e]
   simp[aK]
  | cons y ys ih=>
   intro zs e
   have hlt:(zs.length:Int)<(xs.length:Int):=by rw[e];simp;omega
   have hn:nth (t:=t) xs (zs.length:Int)=y:=by
    rw[e]
    unfold nth
    rw[List.getD_eq_getElem?_getD]
    simp
   have h1:=h (zs.length:Int) zs (by omega) hlt (Int.le_refl _)
   rw[hn] at h1
   rw[eH hlt,cq,h1,bL]
   have e2:(zs.length:Int)+1=((zs++[y]).length:Int):=by simp
   rw[e2]
   exact ih (zs++[y]) (by rw[e];simp)
 exact key xs [] (by simp)
theorem Ea {t:Ty} {f:Int×List t.D->Option (Sum (Int×List t.D) (List t.D))} (xs:List t.D)
  (h:∀(i:Int) (s:List t.D),0<=i->i<(xs.length:Int)->(s.length:Int)<=i->f (i,s)=some (.inl (i+1,s++[nth xs i])))
  (he:∀(i:Int) (s:List t.D),0<=i->(xs.length:Int)<=i->f (i,s)=some (.inr s)):cC f ((0:Int),[])=some xs:=by
 have:=Ci (fun _=>true) xs (fun i s i0 i1 hs=>by rw[h i s i0 i1 hs];rfl) he
 rw[List.filter_eq_self.2 (fun _ _=>rfl)] at this
 exact this
theorem Bv {t:Ty} {xs:List t.D}:cond (decide ((xs.length:Int)=(0:Int))) (some ([]:List t.D)) (some (xs.take (xs.length:Int).toNat))=some xs:=by
 rw[zM]
 cases xs with
 | nil=>rfl
 | cons x xs=>rw[decide_eq_false (by simp;omega)];rfl
theorem CO {α:Type} (xs:List α):xs.map (fun x=>x)=xs:=by simp
def dU (tables v:List TTable.D):Prop:=v.length=tables.length/\∀i:Int,0<=i->i<(tables.length:Int)->(nth (t:=TTable) v i).1=(nth (t:=TTable) tables i).1 ∧
 (nth (t:=TTable) v i).2.1.length<=(nth (t:=TTable) tables i).2.1.length/\∀r∈(nth (t:=TTable) v i).2.1,r∈(nth (t:=TTable) tables i).2.1
theorem dU.refl (tables:List TTable.D):dU tables tables:=⟨rfl,fun _ _ _=>⟨rfl,Nat.le_refl _,fun _ h=>h⟩⟩
theorem Eu {t:Ty} {a:List t.D} {i j:Int} {z:t.D} (h0:0<=i) (h1:0<=j) (hne:i≠j):nth (t:=t) (a.set i.toNat z) j=nth a j:=by
 have:i.toNat≠j.toNat:=by omega
 unfold nth
 rw[List.getD_eq_getElem?_getD,List.getD_eq_getElem?_getD,List.getElem?_set_ne this]
theorem dU.step {tables v:List TTable.D} (h:dU tables v) {g:wN.D} (h0:0<=g.1) (h1:g.1<(tables.length:Int)):dU tables (uF v g):=by
 refine⟨by unfold uF;simp[h.1],fun i i0 i1=>?_⟩
 have hl:g.1<(v.length:Int):=by rw[h.1];exact h1
 by_cases e:g.1=i
 ·subst e
  obtain⟨q1,q2,q3⟩:=h.2 _ i0 i1
  unfold uF
  rw[mZ i0 hl]
  exact⟨q1,Nat.le_trans (List.length_filter_le _ _) q2,fun r hr=>q3 r (List.mem_filter.1 hr).1⟩
 ·unfold uF
  rw[Eu h0 i0 e]
  exact h.2 i i0 i1
theorem yR {tables:List TTable.D} (h:aA tables=true) {i:Int} (h0:0<=i) (h1:i<(tables.length:Int)) {r:List aa.D} (hr:r∈(nth (t:=TTable) tables i).2.1):r.length=(nth (t:=TTable) tables i).1.length:=by
 have hm:=dD (t:=TTable) h0 h1
 unfold aA at h
 obtain⟨_,h2⟩:=Bool.and_eq_true_iff.1 h
 have h3:=List.all_eq_true.1 h2 _ hm
 unfold cN at h3
 obtain⟨_,h4⟩:=Bool.and_eq_true_iff.1 h3
 unfold fX at h4
 obtain⟨_,h5⟩:=Bool.and_eq_true_iff.1 h4
 have h6:=List.all_eq_true.1 h5 r hr
 unfold bG at h6
 simp only[Bool.and_eq_true,decide_eq_true_eq] at h6
 omega
end M
end Go.AE
end
section
namespace Go.AE
open Go Go.RowKit
set_option linter.unusedVariables false
abbrev GA:Ty:=.pair (.sl ai) (.pair (.int .i64) .unit)
def M.two (k:Int):Bool:=decide (k=4)||decide (k=5)
def M.eF (s:xE.D):Bool:=(!decide (s.1=(1:Int))||decide (s.2.1=(0:Int)))&&((two s.1||decide (s.2.2.1=(0:Int)))&&((decide (s.1=(1:Int))||decide (s.2.2.2.1=(0:Int))) &&
 ((decide (s.1=(2:Int))||decide (s.1=(4:Int))||decide ((s.2.2.2.2.1.length:Int)=(0:Int)))&&(decide (s.1=(3:Int))||decide ((s.2.2.2.2.2.1.length:Int)=(0:Int))))))
abbrev GX:Type:=List (List ai.D)×List Int
def M.ren (to:List Int) (s:xE.D):xE.D:=(s.1,cond (decide (s.1=(1:Int))) s.2.1 (nth (t:=.int .i64) to s.2.1),cond (two s.1) (nth (t:=.int .i64) to s.2.2.1) s.2.2.1,s.2.2.2)
namespace M
theorem Ak {σ ρ:Type} {f:Int->σ->Option (Sum σ ρ)} (g:σ->Int->σ) (I:Int->σ->Prop) (N:Nat) {s:σ} (h0:I 0 s)
  (h:∀(i:Int) (s:σ),0<=i->i<(N:Int)->I i s->f i s=some (.inl (g s i))/\I (i+1) (g s i)) :
  aK f (aH 0 (N:Int)) s=some (.inl ((aH 0 (N:Int)).foldl g s))/\I (N:Int) ((aH 0 (N:Int)).foldl g s):=by
 have key:∀(n:Nat) (i:Int) (s:σ),(N:Int)-i=n->0<=i->I i s->aK f (aH i (N:Int)) s=some (.inl ((aH i (N:Int)).foldl g s))/\I (N:Int) ((aH i (N:Int)).foldl g s):=by
  intro n
  induction n with
  | zero=>
   intro i s hn h0 hI
   rw[fM (by omega)]
   have:i=(N:Int):=by omega
   subst this
   exact⟨rfl,hI⟩
  | succ n ih=>
   intro i s hn h0 hI
   obtain⟨h1,h2⟩:=h i s h0 (by omega) hI
   rw[eH (by omega),cq,h1,bL]
   exact ih (i+1) _ (by omega) (by omega) h2
 exact key N 0 s (by omega) (by omega) h0
end M
end Go.AE
end
section
namespace Go.AE
open Go Go.RowKit
set_option linter.unusedVariables false
namespace M
def mI (st st':GX) (to:List Int) (k:Int):Prop:=(st.1.length:Int)=k/\(st.2.length:Int)=k/\st'.1.length=st'.2.length ∧
 ∀j:Int,0<=j->j<k->(0<=nth (t:=.int .i64) to j/\nth (t:=.int .i64) to j<(st'.1.length:Int))/\nth (t:=.sl ai) st'.1 (nth (t:=.int .i64) to j)=nth (t:=.sl ai) st.1 j/\nth (t:=.int .i64) st'.2 (nth (t:=.int .i64) to j)=nth (t:=.int .i64) st.2 j
theorem HQ {n N:Int}:inR n 0 (N-1)=true ↔ 0<=n/\n<N:=by
 unfold inR
 simp
 omega
end M
end Go.AE
namespace Go.AE
open Go Go.RowKit
end Go.AE
end
