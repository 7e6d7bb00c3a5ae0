/- What the rules of plans leave as it is: plain Lean. -/
import Derived.Test.YtiplhefglgpdoaaGreatAeMV
import Derived.Test.YtiplhefglgpdoaaGreatAeMQ
import Derived.Test.YtiplhefglgpdoaaGreatAeEqH
import Derived.Test.YtiplhefglgpdoaaGreatAeF
import Derived.Test.YtiplhefglgpdoaaGreatAeEqI
section
namespace Go.AE
open Go Go.RowKit
set_option linter.unusedVariables false
namespace M
theorem ov {row vs:List af.D} {p:ax.D}:(cJ row vs p).length=vs.length-(takes p).toNat+1:=by
 unfold cJ
 rw[List.length_append,List.length_take,List.length_singleton]
 omega
theorem Bv {row base vs:List af.D} {p:ax.D} (h:(takes p).toNat<=vs.length):cJ row (base++vs) p=base++cJ row vs p:=by
 unfold cJ
 have e:(base++vs).length-(takes p).toNat=base.length+(vs.length-(takes p).toNat):=by rw[List.length_append];omega
 rw[e,List.take_length_add_append,List.drop_length_add_append,List.append_assoc]
theorem AI {w:Nat} {row base:List af.D}:∀(e:List ax.D) (vs:List af.D),tg w e vs.length->e.foldl (cJ row) (base++vs)=base++e.foldl (cJ row) vs
 | [],_,_=>rfl
 | p::e,vs,h=>by
  obtain⟨h1,_,_,h4⟩:=h
  rw[List.foldl_cons,List.foldl_cons,Bv (by omega)]
  exact AI e _ (by rw[ov];exact h4)
theorem Hj {columns:List ah.D} {row:List af.D}:∀(e:List ax.D) (ks ks':List Int) (vs:List af.D),ks.length=vs.length->iE columns e ks=some ks'->(e.foldl (cJ row) vs).length=ks'.length
 | [],ks,ks',vs,h,hk=>by cases hk;exact h.symm
 | p::e,ks,ks',vs,h,hk=>by
  unfold iE at hk
  cases hs:fz columns ks p with
  | none=>rw[hs] at hk;cases hk
  | some k1=>
   rw[hs] at hk
   refine Hj e k1 ks' _ ?_ hk
   rw[(tL hs).2.2,ov,h]
theorem GG {columns:List ah.D} {row:List af.D} {e:List ax.D} (h:bE columns e=3):e.foldl (cJ row) []=[dQ row e]:=by
 unfold bE at h
 cases hc:(bI columns&&decide (e.length<=12)) with
 | false=>rw[hc] at h;simp at h
 | true=>
  rw[hc,cond_true] at h
  unfold oneOf at h
  split at h
  ·rename_i k hk
   have hl:=Hj (row:=row) e [] [k] [] rfl hk
   unfold dQ
   match hq:e.foldl (cJ row) [],hl with
   | [v],_=>rfl
  ·simp at h
theorem Ge {ca cb:List ah.D} {row:List af.D} {a b:List ax.D} (ha:bE ca a=3) (hb:bE cb b=3):dQ row (gv a b)=valueOf (tK (dw (dQ row a)) (dw (dQ row b))):=by
 have hd:=(tf (columns:=cb) (e:=b) (by rw[hb];decide)).2
 have h:(gv a b).foldl (cJ row) []=[valueOf (tK (dw (dQ row a)) (dw (dQ row b)))]:=by
  unfold gv
  rw[List.foldl_append,List.foldl_append,GG ha]
  have:=AI (row:=row) (base:=[dQ row a]) b [] hd
  rw[List.append_nil] at this
  rw[this,GG hb]
  rfl
 show nth (t:=af) ((gv a b).foldl (cJ row) []) 0=_
 rw[h]
 rfl
theorem Km {s:ByteArray} (h:decide (s=none_)=true):s=none_:=of_decide_eq_true h
theorem CQ {v:af.D}:decide (dw v=1)=Ty.beq af v (valueOf 1):=by
 have hb:∀x y:af.D,Ty.beq af x y=true ↔ x=y:=beq_iff rfl
 by_cases h:v=valueOf 1
 ·rw[h]
  rfl
 ·have h2:Ty.beq af v (valueOf 1)=false:=by
   rw[Bool.eq_false_iff]
   exact fun q=>h ((hb _ _).1 q)
  rw[h2,decide_eq_false]
  intro ht
  unfold dw at ht
  cases ho:aZ v with
  | false=>rw[ho] at ht;exact absurd (show (-1:Int)=1 from ht) (by decide)
  | true=>
   rw[ho,cond_true] at ht
   by_cases h0:v.1=(0:Int)
   ·rw[decide_eq_true h0] at ht;exact absurd (show (2:Int)=1 from ht) (by decide)
   rw[decide_eq_false h0,cond_false] at ht
   by_cases h3:v.1=(3:Int)
   ·rw[decide_eq_true h3,cond_true] at ht
    unfold aZ at ho
    rw[decide_eq_false h0,decide_eq_false (show ¬v.1=(1:Int) by rw[h3];decide),decide_eq_false (show ¬v.1=(2:Int) by rw[h3];decide),decide_eq_true h3] at ho
    simp only[cond_false,cond_true,Bool.and_eq_true] at ho
    have hs:=Km ho.2
    obtain⟨k,n,s,u⟩:=v
    simp only at h3 ht hs
    exact h (by rw[h3,ht,hs];rfl)
   ·rw[decide_eq_false h3] at ht;exact absurd (show (-1:Int)=1 from ht) (by decide)
theorem Kh {x y:Int}:decide (tK x y=1)=(decide (x=1)&&decide (y=1)):=by
 unfold tK fold
 by_cases hx:0<=x/\x<=2
 ·by_cases hy:0<=y/\y<=2
  ·have hx':x=0\/x=1\/x=2:=by omega
   have hy':y=0\/y=1\/y=2:=by omega
   rcases hx' with rfl | rfl | rfl<;>rcases hy' with rfl | rfl | rfl<;>rfl
  ·have:inR y 0 2=false:=by unfold inR;simp only[Bool.and_eq_false_iff,decide_eq_false_iff_not];omega
   rw[this,Bool.and_false,cond_false,decide_eq_false (show ¬y=1 by omega),Bool.and_false]
   rfl
 ·have:inR x 0 2=false:=by unfold inR;simp only[Bool.and_eq_false_iff,decide_eq_false_iff_not];omega
  rw[this,Bool.false_and,cond_false,decide_eq_false (show ¬x=1 by omega),Bool.false_and]
  rfl
theorem HK {n:Int}:Ty.beq af (valueOf n) (valueOf 1)=decide (n=1):=by
 have hb:∀x y:af.D,Ty.beq af x y=true ↔ x=y:=beq_iff rfl
 by_cases h:n=1
 ·rw[h];rfl
 ·rw[decide_eq_false h,Bool.eq_false_iff]
  intro q
  have q:=(hb _ _).1 q
  unfold valueOf at q
  cases hi:inR n 0 1 with
  | false=>
   rw[hi] at q
   have:=congrArg (fun v:af.D=>(v.1:Int)) q
   exact absurd (show (0:Int)=3 from this) (by decide)
  | true=>
   rw[hi] at q
   have:n=1:=congrArg (fun v:af.D=>(v.2.1:Int)) q
   exact h this
theorem Ay {ca cb:List ah.D} {row:List af.D} {a b:List ax.D} (ha:bE ca a=3) (hb:bE cb b=3):holds row (gv a b)=(holds row a&&holds row b):=by
 unfold holds
 rw[Ge ha hb,HK,Kh,CQ,CQ]
theorem yM {to:List Int} {row l:List af.D} {p:ax.D} (h:p.1=(2:Int)->0<=p.2.1/\p.2.1<(to.length:Int)):fo (mj to p) row l=fo p (taken row to) l:=by
 unfold mj
 by_cases h2:p.1=(2:Int)
 ·rw[decide_eq_true h2,cond_true]
  obtain⟨h0,h1⟩:=h h2
  unfold fo
  simp only
  rw[h2]
  show nth (t:=af) row (nth (t:=.int .i64) to p.2.1)=nth (t:=af) (taken row to) p.2.1
  unfold taken
  rw[iq (t:=af) h0 (by rw[List.length_map];exact h1),iq (t:=.int .i64) h0 h1,List.getElem_map]
 ·rw[decide_eq_false h2,cond_false]
  unfold fo
  rw[decide_eq_false h2]
  rfl
theorem EY {to:List Int} {p:ax.D}:takes (mj to p)=takes p:=by
 unfold mj takes
 cases decide (p.1=(2:Int))<;>rfl
theorem Av {to:List Int} {row:List af.D}:∀(e:List ax.D) (vs:List af.D),pE e to.length->(mG e to).foldl (cJ row) vs=e.foldl (cJ (taken row to)) vs
 | [],_,_=>rfl
 | p::e,vs,h=>by
  show (mG e to).foldl (cJ row) (cJ row vs (mj to p))=_
  have:cJ row vs (mj to p)=cJ (taken row to) vs p:=by
   unfold cJ
   rw[EY,yM (h p List.mem_cons_self)]
  rw[this]
  exact Av e _ (fun q hq=>h q (List.mem_cons_of_mem _ hq))
theorem Et {to:List Int} {row:List af.D} {e:List ax.D} (h:pE e to.length):holds row (mG e to)=holds (taken row to) e:=by
 unfold holds dQ
 rw[Av e [] h]
theorem Ef {row:List af.D} {a b:List Int} (h:∀z∈b,0<=z/\z<(a.length:Int)):taken (taken row a) b=taken row (b.map fun z=>nth (t:=.int .i64) a z):=by
 unfold taken
 rw[List.map_map]
 refine List.map_congr_left fun z hz=>?_
 obtain⟨h0,h1⟩:=h z hz
 show nth (t:=af) (a.map fun i=>nth (t:=af) row i) z=nth (t:=af) row (nth (t:=.int .i64) a z)
 rw[iq (t:=af) h0 (by rw[List.length_map];exact h1),iq (t:=.int .i64) h0 h1,List.getElem_map]
def Fx (out:List (List af.D)) (r:List af.D):Bool:=out.any fun x=>decide (x=r)
theorem Fk {out:List (List af.D)} {r:List af.D}:Fx out r=true ↔ r∈out:=by
 unfold Fx
 rw[List.any_eq_true]
 constructor
 ·rintro ⟨x,hx,e⟩
  rw[<-of_decide_eq_true e]
  exact hx
 ·exact fun h=>⟨r,h,by simp⟩
theorem Ds {out:List (List af.D)} {r:List af.D} (h:r∈out):Fx out r=true:=Fk.2 h
theorem AY {out:List (List af.D)} {r:List af.D} (h:¬r∈out):Fx out r=false:=by
 rw[Bool.eq_false_iff]
 exact fun q=>h (Fk.1 q)
theorem II {out:List (List af.D)} {r:List af.D}:decide ((fB out r:Int)=(0:Int))=!Fx out r:=by
 unfold fB
 by_cases h:r∈out
 ·have:0<out.countP fun x=>decide (x=r):=List.countP_pos_iff.2 ⟨r,h,by simp⟩
  rw[Ds h,decide_eq_false (by omega)]
  rfl
 ·have:(out.countP fun x=>decide (x=r))=0:=List.countP_eq_zero.2 fun x hx q=>h (by rw[<-of_decide_eq_true q];exact hx)
  rw[AY h,this]
  rfl
theorem qi {out:List (List af.D)} {r:List af.D}:dg out r=cond (Fx out r) out (out++[r]):=by
 unfold dg
 rw[II]
 cases Fx out r<;>rfl
theorem Fm (p:List af.D->Bool) (xs:List (List af.D)):cX (xs.filter p)=(cX xs).filter p:=by
 have key:∀(xs out:List (List af.D)),(xs.filter p).foldl dg (out.filter p)=(xs.foldl dg out).filter p:=by
  intro xs
  induction xs with
  | nil=>intro out;rfl
  | cons x xs ih=>
   intro out
   rw[List.foldl_cons]
   cases hp:p x with
   | false=>
    rw[List.filter_cons_of_neg (by simp[hp]),<-ih]
    congr 1
    rw[qi]
    cases Fx out x with
    | true=>rfl
    | false=>rw[cond_false,List.filter_append,List.filter_cons_of_neg (by simp[hp])];simp
   | true=>
    rw[List.filter_cons_of_pos hp,List.foldl_cons,<-ih]
    congr 1
    rw[qi,qi]
    by_cases hx:x∈out
    ·rw[Ds hx,Ds (List.mem_filter.2 ⟨hx,hp⟩)]
     rfl
    ·rw[AY hx,AY (fun q=>hx (List.mem_filter.1 q).1),cond_false,cond_false,List.filter_append,List.filter_cons_of_pos hp]
     rfl
 exact key xs []
theorem Gq (xs:List (List af.D)):(cX xs).Nodup:=by
 have key:∀(xs out:List (List af.D)),out.Nodup->(xs.foldl dg out).Nodup:=by
  intro xs
  induction xs with
  | nil=>intro out h;exact h
  | cons x xs ih=>
   intro out h
   rw[List.foldl_cons]
   refine ih _ ?_
   rw[qi]
   by_cases hx:x∈out
   ·rw[Ds hx];exact h
   ·rw[AY hx,cond_false]
    exact List.nodup_append.2 ⟨h,List.pairwise_singleton _ _,fun a ha b hb q=>hx (by rw[<-List.mem_singleton.1 hb,<-q];exact ha)⟩
 exact key xs [] List.Pairwise.nil
theorem Ib {xs:List (List af.D)} (h:xs.Nodup):cX xs=xs:=by
 have key:∀(xs out:List (List af.D)),(out++xs).Nodup->xs.foldl dg out=out++xs:=by
  intro xs
  induction xs with
  | nil=>intro out _;simp
  | cons x xs ih=>
   intro out h
   have hx:x∉out:=by
    intro q
    have:=(List.nodup_append.1 h).2.2 x q x List.mem_cons_self
    exact this rfl
   rw[List.foldl_cons,qi,AY hx,cond_false,ih _ (by simpa using h)]
   simp
 exact key xs [] h
theorem Iq (xs:List (List af.D)):cX (cX xs)=cX xs:=Ib (Gq xs)
theorem BH {ca cb:List ah.D} {a b:List ax.D} (ha:bE ca a=3) (hb:bE cb b=3) (X Y:List (List af.D)) :
  (X.flatMap fun r=>joined a r Y).filter (fun r=>holds r b)=X.flatMap fun r=>joined (gv a b) r Y:=by
 rw[List.filter_flatMap]
 congr 1
 funext r
 unfold joined
 rw[List.filter_filter]
 congr 1
 funext x
 rw[Ay ha hb,Bool.and_comm]
end M
end Go.AE
end
section
namespace Go.AE
open Go Go.RowKit
set_option linter.unusedVariables false
set_option linter.unusedSimpArgs false
theorem nh {α β ρ:Type} {f:α->List β->Option (Sum (List β) ρ)} (g:α->β):∀(xs:List α) (s:List β),(∀z∈xs,∀v:List β,v.length<s.length+xs.length->f z v=some (.inl (v++[g z])))->aO f xs s=some (.inl (s++xs.map g))
 | [],s,_=>by simp
 | x::xs,s,h=>by
  rw[bM,h x (by simp) s (by simp),bp,nh g xs (s++[g x]) (fun z hz v hv=>h z (by simp[hz]) v (by simp at hv ⊢;omega))]
  simp
theorem zY {t:Ty} {β ρ:Type} {f:Int->List β->Option (Sum (List β) ρ)} (g:t.D->β) (xs:List t.D) (B:Nat):∀(R A:List t.D) (s:List β),xs=A++R->s.length+R.length<=B →
  (∀i v,0<=i->i<(xs.length:Int)->v.length<B->f i v=some (.inl (v++[g (nth (t:=t) xs i)])))->aO f (aP (A.length:Int) (xs.length:Int)) s=some (.inl (s++R.map g))
 | [],A,s,e,_,_=>by
  rw[cH (by rw[e];simp)]
  simp
 | x::R,A,s,e,hs,h=>by
  have hl:xs.length=A.length+(R.length+1):=by rw[e];simp
  simp only[List.length_cons] at hs
  have hx:nth (t:=t) xs (A.length:Int)=x:=by
   rw[e]
   unfold nth
   rw[List.getD_eq_getElem?_getD]
   simp
  rw[dr (by omega),bM,h _ s (by omega) (by omega) (by omega),bp,hx]
  have:=zY g xs B R (A++[x]) (s++[g x]) (by rw[e];simp) (by simp;omega) h
  rw[show (((A++[x]).length:Nat):Int)=(A.length:Int)+1 by simp] at this
  rw[this]
  simp
theorem vL {t:Ty} {ρ:Type} (g:t.D->t.D) (N:Nat) {f:Int->List t.D->Option (Sum (List t.D) ρ)}:∀(R A:List t.D),A.length+R.length=N →
  (∀x∈R,∀A' R':List t.D,A'.length+1+R'.length=N->f (A'.length:Int) (A'++x::R')=some (.inl (A'++g x::R')))->aO f (aP (A.length:Int) (N:Int)) (A++R)=some (.inl (A++R.map g))
 | [],A,hl,_=>by
  rw[cH (by simp at hl;omega)]
  simp
 | x::R,A,hl,h=>by
  simp only[List.length_cons] at hl
  rw[dr (by omega),bM,h x (by simp) A R (by omega),bp]
  have:=vL g N R (A++[g x]) (by simp;omega) (fun z hz=>h z (by simp[hz]))
  rw[show (((A++[g x]).length:Nat):Int)=(A.length:Int)+1 by simp,show (A++[g x]++R:List t.D)=A++g x::R by simp] at this
  rw[this]
  simp
theorem KF {t:Ty} {A R:List t.D} {x:t.D}:nth (t:=t) (A++x::R) (A.length:Int)=x:=by
 unfold nth
 rw[List.getD_eq_getElem?_getD]
 simp
theorem Kf {α:Type} {A R:List α} {x y:α}:(A++x::R).set ((A.length:Int)).toNat y=A++y::R:=by simp
namespace M
theorem CV {c:List ah.D} {e:List ax.D} (h:0<=bE c e):pE e c.length:=Az _ _ (tf h).2
theorem GN {a b:List ax.D} (ha:Sm (.sl ax) a) (hb:Sm (.sl ax) b) (h1:a.length<=12) (h2:b.length<=12):Sm (.sl ax) (gv a b):=by
 refine⟨?_,fun p hp=>?_⟩
 ·show (a++b++[Gi]).length<=1048576
  simp
  omega
 ·rcases List.mem_append.1 (show p∈a++b++[Gi] from hp) with hp | hp
  ·rcases List.mem_append.1 hp with hp | hp
   ·exact ha.2 p hp
   ·exact hb.2 p hp
  ·rw[List.mem_singleton.1 hp]
   exact⟨trivial,trivial,⟨trivial,trivial,Nat.zero_le _,trivial⟩,trivial⟩
theorem JM {e:List ax.D} {to:List Int} (h:Sm (.sl ax) e):Sm (.sl ax) (mG e to):=by
 refine⟨?_,fun p hp=>?_⟩
 ·show (e.map _).length<=1048576
  rw[List.length_map]
  exact h.1
 ·obtain⟨q,hq,rfl⟩:=List.mem_map.1 hp
  have:=h.2 q hq
  unfold mj
  cases decide (q.1=(2:Int))
  ·exact this
  ·exact⟨trivial,trivial,this.2.2⟩
theorem si {k a b:Int} {e:List ax.D} {l:List Int} (he:Sm (.sl ax) e) (hl:l.length<=1048576):Sm aa (mkS k a b e l):=⟨trivial,trivial,trivial,trivial,he,⟨hl,fun _ _=>trivial⟩,trivial⟩
theorem fA {α:Type} {P:α->Prop} {b:Bool} {xs ys:List α} (h1:b=true->∀x∈xs,P x) (h2:∀x∈ys,P x):∀x∈cond b xs ys,P x:=by
 cases b
 ·exact h2
 ·exact h1 rfl
theorem Ld {s j:aa.D} (at_ rule:Int) (hs:Sm aa s) (hj:Sm aa j) (h1:s.1=(2:Int)->s.2.2.2.2.1.length<=12) (h2:j.1=(2:Int)\/j.1=(4:Int)->j.2.2.2.2.1.length<=12):Sm (.sl aa) (fj s j at_ rule):=by
 refine⟨Nat.le_trans (sU s j at_ rule) (by decide),?_⟩
 have e0:Sm (.sl ax) ([]:List ax.D):=⟨Nat.zero_le _,fun _ h=>by cases h⟩
 have z0:∀x∈([]:List aa.D),Sm aa x:=fun _ h=>by cases h
 obtain⟨_,_,_,_,se,sl,_⟩:=hs
 obtain⟨_,_,_,_,je,jl,_⟩:=hj
 have hl:([]:List Int).length<=1048576:=by decide
 have hb:∀a b:Bool,(a&&b)=true->a=true/\b=true:=fun a b h=>Bool.and_eq_true_iff.1 h
 unfold fj
 refine fA (fun _=>fA (fun c=>?_) z0) (fA (fun _=>fA (fun c=>?_) z0) (fA (fun _=>fA (fun c=>?_) z0) (fA (fun _=>fA (fun c=>?_) z0) (fA (fun _=>fA (fun c=>?_) z0) (fA (fun _=>fA (fun c=>?_) z0) (fA (fun _=>fA (fun c=>?_) z0) z0))))))
 ·obtain⟨c1,c2⟩:=hb _ _ c
  intro x hx
  rw[List.mem_singleton.1 hx]
  exact si (GN je se (h2 (.inl (of_decide_eq_true c2))) (h1 (of_decide_eq_true c1))) hl
 ·obtain⟨c1,c2⟩:=hb _ _ c
  intro x hx
  rw[List.mem_singleton.1 hx]
  exact si (GN je se (h2 (.inr (of_decide_eq_true c2))) (h1 (of_decide_eq_true c1))) hl
 ·intro x hx
  rcases List.mem_cons.1 hx with rfl | hx
  ·exact si (JM se) hl
  ·rw[List.mem_singleton.1 hx]
   exact si e0 jl.1
 ·intro x hx
  rcases List.mem_cons.1 hx with rfl | hx
  ·exact si se hl
  ·rw[List.mem_singleton.1 hx]
   exact si e0 hl
 ·intro x hx
  rcases List.mem_cons.1 hx with rfl | hx
  ·exact si se hl
  rcases List.mem_cons.1 hx with rfl | hx
  ·exact si se hl
  ·rw[List.mem_singleton.1 hx]
   exact si e0 hl
 ·intro x hx
  rw[List.mem_singleton.1 hx]
  exact si e0 (by rw[List.length_map];exact sl.1)
 ·intro x hx
  rw[List.mem_singleton.1 hx]
  exact si e0 hl
theorem nZ {tables:List az.D} {plan:List aa.D} (hp:aQ tables plan=true) (hs:Sm (.sl aa) plan) {at_:Int} (h0:0<=at_) (h1:at_<(plan.length:Int)) :
  jk plan at_/\nB (aX tables plan).1 plan at_/\(∀x∈(aX tables plan).1,x.length<=4)/\(aX tables plan).1.length=plan.length/\∀rule,Sm (.sl aa) (bA plan at_ rule):=by
 have ht:cC tables=true:=by
  unfold aQ at hp
  exact(Bool.and_eq_true_iff.1 (Bool.and_eq_true_iff.1 hp).2).1
 obtain⟨st,hr,hst⟩:∃st,cS (bH tables) plan ([],[])=some st/\(aX tables plan).1=st.1:=by
  unfold aQ at hp
  have h:=(Bool.and_eq_true_iff.1 hp).1
  unfold aX at h ⊢
  cases hr:fO tables plan with
  | none=>rw[hr] at h;cases h
  | some st=>exact⟨st,hr,rfl⟩
 rw[hst]
 have h4:=uc ht plan ([],[]) st (fun _ h=>by cases h) hr
 have hlen:st.1.length=plan.length:=by
  have:=(sY plan ([],[]) st hr).1
  simpa using this
 have hat:∀i:Int,0<=i->i<(plan.length:Int)->∃a:List (List ah.D),bF tables a (nth (t:=aa) plan i)=some (nth (t:=.sl ah) st.1 i)/\(a.length:Int)=i/\∀k:Int,0<=k->k<i->nth (t:=.sl ah) a k=nth (t:=.sl ah) st.1 k:=by
  intro i i0 i1
  obtain⟨a,a1,a2,a3⟩:=uY plan ([],[]) st hr i i0 i1
  rw[show ((([]:List (List ah.D)).length:Nat):Int)+i=i by simp] at a1 a2
  exact⟨a,a1,a2,fun k k0 k1=>a3 k k0 (by omega)⟩
 obtain⟨a,a1,a2,a3⟩:=hat at_ h0 h1
 have hin:=jI a1
 rw[a2] at hin
 unfold jk nB bA
 have sS:=aL hs at_
 have sJ:=aL hs (nth (t:=aa) plan at_).2.1
 revert a1 hin sS sJ
 generalize nth (t:=aa) plan at_=s
 intro a1 hin sS sJ
 by_cases k1:s.1=(1:Int)
 ·refine⟨⟨⟨h0,h1⟩,fun h=>absurd k1 h,fun h=>?_,fun h=>?_⟩,fun h=>?_,h4,hlen,fun rule=>?_⟩
  ·rw[k1] at h;exact absurd h (by decide)
  ·rw[k1] at h;exact absurd h (by decide)
  ·rw[k1] at h;exact absurd h (by decide)
  ·have:fj s (nth (t:=aa) plan s.2.1) at_ rule=[]:=by
    unfold fj
    rw[k1]
    cases decide (rule=(1:Int))<;>cases decide (rule=(2:Int))<;>cases decide (rule=(3:Int))<;>cases decide (rule=(4:Int))<;>cases decide (rule=(5:Int))<;>cases decide (rule=(6:Int))<;>cases decide (rule=(7:Int))<;>rfl
   rw[this]
   exact⟨Nat.zero_le _,fun _ h=>by cases h⟩
 obtain⟨⟨q0,q1⟩,_⟩:=hin k1
 obtain⟨b,b1,b2,b3⟩:=hat s.2.1 q0 (Int.lt_trans q1 h1)
 have hjin:=jI b1
 rw[b2] at hjin
 have eA:=a3 s.2.1 q0 q1
 revert b1 hjin sJ
 generalize nth (t:=aa) plan s.2.1=j
 intro sJ b1 hjin
 have hw:s.1=(2:Int)->bE (nth (t:=.sl ah) st.1 s.2.1) s.2.2.2.2.1=3:=fun h=>by
  have:=qT a1 h
  rw[eA] at this
  exact this
 refine⟨⟨⟨h0,h1⟩,fun _=>⟨q0,Int.lt_trans q1 h1⟩,fun h2 h3=>?_,fun h2 h3 z hz=>?_⟩,fun h2 h3=>⟨by rw[hlen];exact Int.lt_trans q1 h1,?_⟩,h4,hlen,fun rule=>?_⟩
 ·have:=CV (c:=nth (t:=.sl ah) st.1 s.2.1) (e:=s.2.2.2.2.1) (by rw[hw h2];decide)
  rw[(sW b1 h3).2] at this
  exact this
 ·have:=(sW a1 h2).1 z hz
  rw[eA,(sW b1 h3).2] at this
  have l1:=fk this
  have l2:=og this
  exact⟨l1,Int.lt_of_le_sub_one l2⟩
 ·have hk:=hw h2
  obtain⟨t1,t2⟩:=sW b1 h3
  unfold kT
  rw[hk,t2]
  have hany:(j.2.2.2.2.2.1.any fun z=>!(inR z 0 3))=false:=by
   rw[List.any_eq_false]
   intro z hz
   have l:=t1 z hz
   have hj1:¬j.1=(1:Int):=by rw[h3];decide
   obtain⟨⟨r0,r1⟩,_⟩:=hjin hj1
   rw[b3 j.2.1 r0 r1] at l
   have l4:=AL h4 j.2.1
   have l1:=fk l
   have l2:=og l
   unfold inR
   simp only[Bool.not_eq_true',Bool.and_eq_false_iff,decide_eq_false_iff_not]
   omega
  rw[hany]
  simp
 ·refine Ld at_ rule sS sJ (fun h=>Bk (hw h)) (fun h=>?_)
  rcases h with h | h
  ·exact Bk (qT b1 h)
  ·obtain⟨q,hq⟩:=CY b1 h
   exact Bk hq
theorem Ik {tables:List az.D} {plan:List aa.D} (hp:aQ tables plan=true) (hs:Sm (.sl aa) plan) {at_:Int} (h0:0<=at_) (h1:at_<(plan.length:Int)) (rule:Int):Sm (.sl aa) (eR tables plan at_ rule).1:=by
 have hn:=(nZ hp hs h0 h1).2.2.2.2 rule
 unfold eR
 cases decide (((bA plan at_ rule).length:Int)=(0:Int))<;>cases aQ tables (bC plan at_ (bA plan at_ rule))<;>first | exact hs | exact Gw hs (ja hp) hn (sU _ _ _ _)
end M
end Go.AE
end
