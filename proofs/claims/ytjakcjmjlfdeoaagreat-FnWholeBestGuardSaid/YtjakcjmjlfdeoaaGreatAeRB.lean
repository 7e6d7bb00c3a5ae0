/- What the rules of plans leave as it is: plain Lean. -/
import Derived.Test.YtjakcjmjlfdeoaaGreatAeMV
import Derived.Test.YtjakcjmjlfdeoaaGreatAeMU
import Derived.Test.YtjakcjmjlfdeoaaGreatAeEqH
import Derived.Test.YtjakcjmjlfdeoaaGreatAeF
import Derived.Test.YtjakcjmjlfdeoaaGreatAeEqI
section
namespace Go.AE
open Go Go.RowKit
set_option linter.unusedVariables false
namespace M
theorem nL {row vs:List aa.D} {p:az.D}:(cG row vs p).length=vs.length-(takes p).toNat+1:=by
 unfold cG
 rw[List.length_append,List.length_take,List.length_singleton]
 omega
theorem AG {row base vs:List aa.D} {p:az.D} (h:(takes p).toNat<=vs.length):cG row (base++vs) p=base++cG row vs p:=by
 unfold cG
 have e:(base++vs).length-(takes p).toNat=base.length+(vs.length-(takes p).toNat):=by rw[List.length_append];omega
 rw[e,List.take_length_add_append,List.drop_length_add_append,List.append_assoc]
theorem zI {w:Nat} {row base:List aa.D}:∀(e:List az.D) (vs:List aa.D),sC w e vs.length->e.foldl (cG row) (base++vs)=base++e.foldl (cG row) vs
 | [],_,_=>rfl
 | p::e,vs,h=>by
  obtain⟨h1,_,_,h4⟩:=h
  rw[List.foldl_cons,List.foldl_cons,AG (by omega)]
  exact zI e _ (by rw[nL];exact h4)
theorem Gk {columns:List ai.D} {row:List aa.D}:∀(e:List az.D) (ks ks':List Int) (vs:List aa.D),ks.length=vs.length->iJ columns e ks=some ks'->(e.foldl (cG row) vs).length=ks'.length
 | [],ks,ks',vs,h,hk=>by cases hk;exact h.symm
 | p::e,ks,ks',vs,h,hk=>by
  unfold iJ at hk
  cases hs:fF columns ks p with
  | none=>rw[hs] at hk;cases hk
  | some k1=>
   rw[hs] at hk
   refine Gk e k1 ks' _ ?_ hk
   rw[(tq hs).2.2,nL,h]
theorem FR {columns:List ai.D} {row:List aa.D} {e:List az.D} (h:bp columns e=3):e.foldl (cG row) []=[dM row e]:=by
 unfold bp at h
 cases hc:(bN columns&&decide (e.length<=12)) with
 | false=>rw[hc] at h;simp at h
 | true=>
  rw[hc,cond_true] at h
  unfold oneOf at h
  split at h
  ·rename_i k hk
   have hl:=Gk (row:=row) e [] [k] [] rfl hk
   unfold dM
   match hq:e.foldl (cG row) [],hl with
   | [v],_=>rfl
  ·simp at h
theorem Fs {ca cb:List ai.D} {row:List aa.D} {a b:List az.D} (ha:bp ca a=3) (hb:bp cb b=3):dM row (jK a b)=valueOf (tr (dj (dM row a)) (dj (dM row b))):=by
 have hd:=(sy (columns:=cb) (e:=b) (by rw[hb];decide)).2
 have h:(jK a b).foldl (cG row) []=[valueOf (tr (dj (dM row a)) (dj (dM row b)))]:=by
  unfold jK
  rw[List.foldl_append,List.foldl_append,FR ha]
  have:=zI (row:=row) (base:=[dM row a]) b [] hd
  rw[List.append_nil] at this
  rw[this,FR hb]
  rfl
 show nth (t:=aa) ((jK a b).foldl (cG row) []) 0=_
 rw[h]
 rfl
theorem Ka {s:ByteArray} (h:decide (s=none_)=true):s=none_:=of_decide_eq_true h
theorem Bw {v:aa.D}:decide (dj v=1)=Ty.beq aa v (valueOf 1):=by
 have hb:∀x y:aa.D,Ty.beq aa x y=true ↔ x=y:=beq_iff rfl
 by_cases h:v=valueOf 1
 ·rw[h]
  rfl
 ·have h2:Ty.beq aa v (valueOf 1)=false:=by
   rw[Bool.eq_false_iff]
   exact fun q=>h ((hb _ _).1 q)
  rw[h2,decide_eq_false]
  intro ht
  unfold dj at ht
  cases ho:aX v with
  | false=>rw[ho] at ht;exact absurd (show (-1:Int)=1 from ht) (by decide)
  | true=>
   rw[ho,cond_true] at ht
   by_cases h0:v.1=(0:Int)
   ·rw[decide_eq_true h0] at ht;exact absurd (show (2:Int)=1 from ht) (by decide)
   rw[decide_eq_false h0,cond_false] at ht
   by_cases h3:v.1=(3:Int)
   ·rw[decide_eq_true h3,cond_true] at ht
    unfold aX at ho
    rw[decide_eq_false h0,decide_eq_false (show ¬v.1=(1:Int) by rw[h3];decide),decide_eq_false (show ¬v.1=(2:Int) by rw[h3];decide),decide_eq_true h3] at ho
    simp only[cond_false,cond_true,Bool.and_eq_true] at ho
    have hs:=Ka ho.2
    obtain⟨k,n,s,u⟩:=v
    simp only at h3 ht hs
    exact h (by rw[h3,ht,hs];rfl)
   ·rw[decide_eq_false h3] at ht;exact absurd (show (-1:Int)=1 from ht) (by decide)
theorem Jw {x y:Int}:decide (tr x y=1)=(decide (x=1)&&decide (y=1)):=by
 unfold tr fold
 by_cases hx:0<=x/\x<=2
 ·by_cases hy:0<=y/\y<=2
  ·have hx':x=0\/x=1\/x=2:=by omega
   have hy':y=0\/y=1\/y=2:=by omega
   rcases hx' with rfl | rfl | rfl<;>rcases hy' with rfl | rfl | rfl<;>rfl
  ·have:inR y 0 2=false:=by unfold inR;simp only[Bool.and_eq_false_iff,decide_eq_false_iff_not];omega
   rw[this,Bool.and_false,cond_false,decide_eq_false (show ¬y=1 by omega),Bool.and_false]
   rfl
 ·have:inR x 0 2=false:=by unfold inR;simp only[Bool.and_eq_false_iff,decide_eq_false_iff_not];omega
  rw[this,Bool.false_and,cond_false,decide_eq_false (show ¬x=1 by omega),Bool.false_and]
  rfl
theorem Hr {n:Int}:Ty.beq aa (valueOf n) (valueOf 1)=decide (n=1):=by
 have hb:∀x y:aa.D,Ty.beq aa x y=true ↔ x=y:=beq_iff rfl
 by_cases h:n=1
 ·rw[h];rfl
 ·rw[decide_eq_false h,Bool.eq_false_iff]
  intro q
  have q:=(hb _ _).1 q
  unfold valueOf at q
  cases hi:inR n 0 1 with
  | false=>
   rw[hi] at q
   have:=congrArg (fun v:aa.D=>(v.1:Int)) q
   exact absurd (show (0:Int)=3 from this) (by decide)
  | true=>
   rw[hi] at q
   have:n=1:=congrArg (fun v:aa.D=>(v.2.1:Int)) q
   exact h this
theorem As {ca cb:List ai.D} {row:List aa.D} {a b:List az.D} (ha:bp ca a=3) (hb:bp cb b=3):holds row (jK a b)=(holds row a&&holds row b):=by
 unfold holds
 rw[Fs ha hb,Hr,Jw,Bw,Bw]
theorem yd {to:List Int} {row l:List aa.D} {p:az.D} (h:p.1=(2:Int)->0<=p.2.1/\p.2.1<(to.length:Int)):fu (oo to p) row l=fu p (taken row to) l:=by
 unfold oo
 by_cases h2:p.1=(2:Int)
 ·rw[decide_eq_true h2,cond_true]
  obtain⟨h0,h1⟩:=h h2
  unfold fu
  simp only
  rw[h2]
  show nth (t:=aa) row (nth (t:=.int .i64) to p.2.1)=nth (t:=aa) (taken row to) p.2.1
  unfold taken
  rw[jH (t:=aa) h0 (by rw[List.length_map];exact h1),jH (t:=.int .i64) h0 h1,List.getElem_map]
 ·rw[decide_eq_false h2,cond_false]
  unfold fu
  rw[decide_eq_false h2]
  rfl
theorem DH {to:List Int} {p:az.D}:takes (oo to p)=takes p:=by
 unfold oo takes
 cases decide (p.1=(2:Int))<;>rfl
theorem Ac {to:List Int} {row:List aa.D}:∀(e:List az.D) (vs:List aa.D),oF e to.length->(lZ e to).foldl (cG row) vs=e.foldl (cG (taken row to)) vs
 | [],_,_=>rfl
 | p::e,vs,h=>by
  show (lZ e to).foldl (cG row) (cG row vs (oo to p))=_
  have:cG row vs (oo to p)=cG (taken row to) vs p:=by
   unfold cG
   rw[DH,yd (h p List.mem_cons_self)]
  rw[this]
  exact Ac e _ (fun q hq=>h q (List.mem_cons_of_mem _ hq))
theorem EI {to:List Int} {row:List aa.D} {e:List az.D} (h:oF e to.length):holds row (lZ e to)=holds (taken row to) e:=by
 unfold holds dM
 rw[Ac e [] h]
theorem DU {row:List aa.D} {a b:List Int} (h:∀z∈b,0<=z/\z<(a.length:Int)):taken (taken row a) b=taken row (b.map fun z=>nth (t:=.int .i64) a z):=by
 unfold taken
 rw[List.map_map]
 refine List.map_congr_left fun z hz=>?_
 obtain⟨h0,h1⟩:=h z hz
 show nth (t:=aa) (a.map fun i=>nth (t:=aa) row i) z=nth (t:=aa) row (nth (t:=.int .i64) a z)
 rw[jH (t:=aa) h0 (by rw[List.length_map];exact h1),jH (t:=.int .i64) h0 h1,List.getElem_map]
def Dr (out:List (List aa.D)) (r:List aa.D):Bool:=out.any fun x=>decide (x=r)
theorem Eh {out:List (List aa.D)} {r:List aa.D}:Dr out r=true ↔ r∈out:=by
 unfold Dr
 rw[List.any_eq_true]
 constructor
 ·rintro ⟨x,hx,e⟩
  rw[<-of_decide_eq_true e]
  exact hx
 ·exact fun h=>⟨r,h,by simp⟩
theorem CI {out:List (List aa.D)} {r:List aa.D} (h:r∈out):Dr out r=true:=Eh.2 h
theorem Ar {out:List (List aa.D)} {r:List aa.D} (h:¬r∈out):Dr out r=false:=by
 rw[Bool.eq_false_iff]
 exact fun q=>h (Eh.1 q)
theorem Jh {out:List (List aa.D)} {r:List aa.D}:decide ((fy out r:Int)=(0:Int))=!Dr out r:=by
 unfold fy
 by_cases h:r∈out
 ·have:0<out.countP fun x=>decide (x=r):=List.countP_pos_iff.2 ⟨r,h,by simp⟩
  rw[CI h,decide_eq_false (by omega)]
  rfl
 ·have:(out.countP fun x=>decide (x=r))=0:=List.countP_eq_zero.2 fun x hx q=>h (by rw[<-of_decide_eq_true q];exact hx)
  rw[Ar h,this]
  rfl
theorem pq {out:List (List aa.D)} {r:List aa.D}:di out r=cond (Dr out r) out (out++[r]):=by
 unfold di
 rw[Jh]
 cases Dr out r<;>rfl
theorem Dx (p:List aa.D->Bool) (xs:List (List aa.D)):cX (xs.filter p)=(cX xs).filter p:=by
 have key:∀(xs out:List (List aa.D)),(xs.filter p).foldl di (out.filter p)=(xs.foldl di out).filter p:=by
  intro xs
  induction xs with
  | nil=>intro out;rfl
  | cons x xs ih=>
   intro out
   rw[List.foldl_cons]
   cases hp:p x with
   | false=>
    rw[List.filter_cons_of_neg (by simp[hp]),<-ih]
    congr 1
    rw[pq]
    cases Dr out x with
    | true=>rfl
    | false=>rw[cond_false,List.filter_append,List.filter_cons_of_neg (by simp[hp])];simp
   | true=>
    rw[List.filter_cons_of_pos hp,List.foldl_cons,<-ih]
    congr 1
    rw[pq,pq]
    by_cases hx:x∈out
    ·rw[CI hx,CI (List.mem_filter.2 ⟨hx,hp⟩)]
     rfl
    ·rw[Ar hx,Ar (fun q=>hx (List.mem_filter.1 q).1),cond_false,cond_false,List.filter_append,List.filter_cons_of_pos hp]
     rfl
 exact key xs []
theorem FG (xs:List (List aa.D)):(cX xs).Nodup:=by
 have key:∀(xs out:List (List aa.D)),out.Nodup->(xs.foldl di out).Nodup:=by
  intro xs
  induction xs with
  | nil=>intro out h;exact h
  | cons x xs ih=>
   intro out h
   rw[List.foldl_cons]
   refine ih _ ?_
   rw[pq]
   by_cases hx:x∈out
   ·rw[CI hx];exact h
   ·rw[Ar hx,cond_false]
    exact List.nodup_append.2 ⟨h,List.pairwise_singleton _ _,fun a ha b hb q=>hx (by rw[<-List.mem_singleton.1 hb,<-q];exact ha)⟩
 exact key xs [] List.Pairwise.nil
theorem GW {xs:List (List aa.D)} (h:xs.Nodup):cX xs=xs:=by
 have key:∀(xs out:List (List aa.D)),(out++xs).Nodup->xs.foldl di out=out++xs:=by
  intro xs
  induction xs with
  | nil=>intro out _;simp
  | cons x xs ih=>
   intro out h
   have hx:x∉out:=by
    intro q
    have:=(List.nodup_append.1 h).2.2 x q x List.mem_cons_self
    exact this rfl
   rw[List.foldl_cons,pq,Ar hx,cond_false,ih _ (by simpa using h)]
   simp
 exact key xs [] h
theorem GI (xs:List (List aa.D)):cX (cX xs)=cX xs:=GW (FG xs)
theorem AI {ca cb:List ai.D} {a b:List az.D} (ha:bp ca a=3) (hb:bp cb b=3) (X Y:List (List aa.D)) :
  (X.flatMap fun r=>joined a r Y).filter (fun r=>holds r b)=X.flatMap fun r=>joined (jK a b) r Y:=by
 rw[List.filter_flatMap]
 congr 1
 funext r
 unfold joined
 rw[List.filter_filter]
 congr 1
 funext x
 rw[As ha hb,Bool.and_comm]
end M
end Go.AE
end
section
namespace Go.AE
open Go Go.RowKit
set_option linter.unusedVariables false
set_option linter.unusedSimpArgs false
theorem uo {α β ρ:Type} {f:α->List β->Option (Sum (List β) ρ)} (g:α->β):∀(xs:List α) (s:List β),(∀z∈xs,∀v:List β,v.length<s.length+xs.length->f z v=some (.inl (v++[g z])))->aQ f xs s=some (.inl (s++xs.map g))
 | [],s,_=>by simp
 | x::xs,s,h=>by
  rw[bH,h x (by simp) s (by simp),bq,uo g xs (s++[g x]) (fun z hz v hv=>h z (by simp[hz]) v (by simp at hv ⊢;omega))]
  simp
theorem vl {t:Ty} {ρ:Type} (g:t.D->t.D) (N:Nat) {f:Int->List t.D->Option (Sum (List t.D) ρ)}:∀(R A:List t.D),A.length+R.length=N →
  (∀x∈R,∀A' R':List t.D,A'.length+1+R'.length=N->f (A'.length:Int) (A'++x::R')=some (.inl (A'++g x::R')))->aQ f (aN (A.length:Int) (N:Int)) (A++R)=some (.inl (A++R.map g))
 | [],A,hl,_=>by
  rw[cD (by simp at hl;omega)]
  simp
 | x::R,A,hl,h=>by
  simp only[List.length_cons] at hl
  rw[ep (by omega),bH,h x (by simp) A R (by omega),bq]
  have:=vl g N R (A++[g x]) (by simp;omega) (fun z hz=>h z (by simp[hz]))
  rw[show (((A++[g x]).length:Nat):Int)=(A.length:Int)+1 by simp,show (A++[g x]++R:List t.D)=A++g x::R by simp] at this
  rw[this]
  simp
theorem JW {t:Ty} {A R:List t.D} {x:t.D}:nth (t:=t) (A++x::R) (A.length:Int)=x:=by
 unfold nth
 rw[List.getD_eq_getElem?_getD]
 simp
theorem Kc {α:Type} {A R:List α} {x y:α}:(A++x::R).set ((A.length:Int)).toNat y=A++y::R:=by simp
namespace M
theorem Hh {c:List ai.D} {e:List az.D} (h:0<=bp c e):oF e c.length:=yV _ _ (sy h).2
theorem Gz {a b:List az.D} (ha:Sm (.sl az) a) (hb:Sm (.sl az) b) (h1:a.length<=12) (h2:b.length<=12):Sm (.sl az) (jK a b):=by
 refine⟨?_,fun p hp=>?_⟩
 ·show (a++b++[EN]).length<=1048576
  simp
  omega
 ·rcases List.mem_append.1 (show p∈a++b++[EN] from hp) with hp | hp
  ·rcases List.mem_append.1 hp with hp | hp
   ·exact ha.2 p hp
   ·exact hb.2 p hp
  ·rw[List.mem_singleton.1 hp]
   exact⟨trivial,trivial,⟨trivial,trivial,Nat.zero_le _,trivial⟩,trivial⟩
theorem HX {e:List az.D} {to:List Int} (h:Sm (.sl az) e):Sm (.sl az) (lZ e to):=by
 refine⟨?_,fun p hp=>?_⟩
 ·show (e.map _).length<=1048576
  rw[List.length_map]
  exact h.1
 ·obtain⟨q,hq,rfl⟩:=List.mem_map.1 hp
  have:=h.2 q hq
  unfold oo
  cases decide (q.1=(2:Int))
  ·exact this
  ·exact⟨trivial,trivial,this.2.2⟩
theorem rK {k a b:Int} {e:List az.D} {l:List Int} (he:Sm (.sl az) e) (hl:l.length<=1048576):Sm ag (mkS k a b e l):=⟨trivial,trivial,trivial,trivial,he,⟨hl,fun _ _=>trivial⟩,trivial⟩
theorem fG {α:Type} {P:α->Prop} {b:Bool} {xs ys:List α} (h1:b=true->∀x∈xs,P x) (h2:∀x∈ys,P x):∀x∈cond b xs ys,P x:=by
 cases b
 ·exact h2
 ·exact h1 rfl
theorem Kr {s j:ag.D} (at_ rule:Int) (hs:Sm ag s) (hj:Sm ag j) (h1:s.1=(2:Int)->s.2.2.2.2.1.length<=12) (h2:j.1=(2:Int)\/j.1=(4:Int)->j.2.2.2.2.1.length<=12):Sm (.sl ag) (iP s j at_ rule):=by
 refine⟨Nat.le_trans (yI s j at_ rule) (by decide),?_⟩
 have e0:Sm (.sl az) ([]:List az.D):=⟨Nat.zero_le _,fun _ h=>by cases h⟩
 have z0:∀x∈([]:List ag.D),Sm ag x:=fun _ h=>by cases h
 obtain⟨_,_,_,_,se,sl,_⟩:=hs
 obtain⟨_,_,_,_,je,jl,_⟩:=hj
 have hl:([]:List Int).length<=1048576:=by decide
 have hb:∀a b:Bool,(a&&b)=true->a=true/\b=true:=fun a b h=>Bool.and_eq_true_iff.1 h
 unfold iP
 refine fG (fun _=>fG (fun c=>?_) z0) (fG (fun _=>fG (fun c=>?_) z0) (fG (fun _=>fG (fun c=>?_) z0) (fG (fun _=>fG (fun c=>?_) z0) (fG (fun _=>fG (fun c=>?_) z0) (fG (fun _=>fG (fun c=>?_) z0) (fG (fun _=>fG (fun c=>?_) z0) z0))))))
 ·obtain⟨c1,c2⟩:=hb _ _ c
  intro x hx
  rw[List.mem_singleton.1 hx]
  exact rK (Gz je se (h2 (.inl (of_decide_eq_true c2))) (h1 (of_decide_eq_true c1))) hl
 ·obtain⟨c1,c2⟩:=hb _ _ c
  intro x hx
  rw[List.mem_singleton.1 hx]
  exact rK (Gz je se (h2 (.inr (of_decide_eq_true c2))) (h1 (of_decide_eq_true c1))) hl
 ·intro x hx
  rcases List.mem_cons.1 hx with rfl | hx
  ·exact rK (HX se) hl
  ·rw[List.mem_singleton.1 hx]
   exact rK e0 jl.1
 ·intro x hx
  rcases List.mem_cons.1 hx with rfl | hx
  ·exact rK se hl
  ·rw[List.mem_singleton.1 hx]
   exact rK e0 hl
 ·intro x hx
  rcases List.mem_cons.1 hx with rfl | hx
  ·exact rK se hl
  rcases List.mem_cons.1 hx with rfl | hx
  ·exact rK se hl
  ·rw[List.mem_singleton.1 hx]
   exact rK e0 hl
 ·intro x hx
  rw[List.mem_singleton.1 hx]
  exact rK e0 (by rw[List.length_map];exact sl.1)
 ·intro x hx
  rw[List.mem_singleton.1 hx]
  exact rK e0 hl
theorem tN {tables:List aq.D} {plan:List ag.D} (hp:aW tables plan=true) (hs:Sm (.sl ag) plan) {at_:Int} (h0:0<=at_) (h1:at_<(plan.length:Int)) :
  oW plan at_/\Eu (cz tables plan).1 plan at_/\(∀x∈(cz tables plan).1,x.length<=4)/\(cz tables plan).1.length=plan.length/\∀rule,Sm (.sl ag) (cu plan at_ rule):=by
 have ht:cm tables=true:=by
  unfold aW at hp
  exact(Bool.and_eq_true_iff.1 (Bool.and_eq_true_iff.1 hp).2).1
 obtain⟨st,hr,hst⟩:∃st,cC (aS tables) plan ([],[])=some st/\(cz tables plan).1=st.1:=by
  unfold aW at hp
  have h:=(Bool.and_eq_true_iff.1 hp).1
  unfold cz at h ⊢
  cases hr:fE tables plan with
  | none=>rw[hr] at h;cases h
  | some st=>exact⟨st,hr,rfl⟩
 rw[hst]
 have h4:=zg ht plan ([],[]) st (fun _ h=>by cases h) hr
 have hlen:st.1.length=plan.length:=by
  have:=(wI plan ([],[]) st hr).1
  simpa using this
 have hat:∀i:Int,0<=i->i<(plan.length:Int)->∃a:List (List ai.D),aV tables a (nth (t:=ag) plan i)=some (nth (t:=.sl ai) st.1 i)/\(a.length:Int)=i/\∀k:Int,0<=k->k<i->nth (t:=.sl ai) a k=nth (t:=.sl ai) st.1 k:=by
  intro i i0 i1
  obtain⟨a,a1,a2,a3⟩:=yT plan ([],[]) st hr i i0 i1
  rw[show ((([]:List (List ai.D)).length:Nat):Int)+i=i by simp] at a1 a2
  exact⟨a,a1,a2,fun k k0 k1=>a3 k k0 (by omega)⟩
 obtain⟨a,a1,a2,a3⟩:=hat at_ h0 h1
 have hin:=iz a1
 rw[a2] at hin
 unfold oW Eu cu
 have sS:=aO hs at_
 have sJ:=aO hs (nth (t:=ag) plan at_).2.1
 revert a1 hin sS sJ
 generalize nth (t:=ag) plan at_=s
 intro a1 hin sS sJ
 by_cases k1:s.1=(1:Int)
 ·refine⟨⟨⟨h0,h1⟩,fun h=>absurd k1 h,fun h=>?_,fun h=>?_⟩,fun h=>?_,h4,hlen,fun rule=>?_⟩
  ·rw[k1] at h;exact absurd h (by decide)
  ·rw[k1] at h;exact absurd h (by decide)
  ·rw[k1] at h;exact absurd h (by decide)
  ·have:iP s (nth (t:=ag) plan s.2.1) at_ rule=[]:=by
    unfold iP
    rw[k1]
    cases decide (rule=(1:Int))<;>cases decide (rule=(2:Int))<;>cases decide (rule=(3:Int))<;>cases decide (rule=(4:Int))<;>cases decide (rule=(5:Int))<;>cases decide (rule=(6:Int))<;>cases decide (rule=(7:Int))<;>rfl
   rw[this]
   exact⟨Nat.zero_le _,fun _ h=>by cases h⟩
 obtain⟨⟨q0,q1⟩,_⟩:=hin k1
 obtain⟨b,b1,b2,b3⟩:=hat s.2.1 q0 (Int.lt_trans q1 h1)
 have hjin:=iz b1
 rw[b2] at hjin
 have eA:=a3 s.2.1 q0 q1
 revert b1 hjin sJ
 generalize nth (t:=ag) plan s.2.1=j
 intro sJ b1 hjin
 have hw:s.1=(2:Int)->bp (nth (t:=.sl ai) st.1 s.2.1) s.2.2.2.2.1=3:=fun h=>by
  have:=qg a1 h
  rw[eA] at this
  exact this
 refine⟨⟨⟨h0,h1⟩,fun _=>⟨q0,Int.lt_trans q1 h1⟩,fun h2 h3=>?_,fun h2 h3 z hz=>?_⟩,fun h2 h3=>⟨by rw[hlen];exact Int.lt_trans q1 h1,?_⟩,h4,hlen,fun rule=>?_⟩
 ·have:=Hh (c:=nth (t:=.sl ai) st.1 s.2.1) (e:=s.2.2.2.2.1) (by rw[hw h2];decide)
  rw[(sI b1 h3).2] at this
  exact this
 ·have:=(sI a1 h2).1 z hz
  rw[eA,(sI b1 h3).2] at this
  have l1:=eU this
  have l2:=kW this
  exact⟨l1,Int.lt_of_le_sub_one l2⟩
 ·have hk:=hw h2
  obtain⟨t1,t2⟩:=sI b1 h3
  unfold Cc
  rw[hk,t2]
  have hany:(j.2.2.2.2.2.1.any fun z=>!(inR z 0 3))=false:=by
   rw[List.any_eq_false]
   intro z hz
   have l:=t1 z hz
   have hj1:¬j.1=(1:Int):=by rw[h3];decide
   obtain⟨⟨r0,r1⟩,_⟩:=hjin hj1
   rw[b3 j.2.1 r0 r1] at l
   have l4:=Em h4 j.2.1
   have l1:=eU l
   have l2:=kW l
   unfold inR
   simp only[Bool.not_eq_true',Bool.and_eq_false_iff,decide_eq_false_iff_not]
   omega
  rw[hany]
  simp
 ·refine Kr at_ rule sS sJ (fun h=>zW (hw h)) (fun h=>?_)
  rcases h with h | h
  ·exact zW (qg b1 h)
  ·obtain⟨q,hq⟩:=BC b1 h
   exact zW hq
theorem Ho {tables:List aq.D} {plan:List ag.D} (hp:aW tables plan=true) (hs:Sm (.sl ag) plan) {at_:Int} (h0:0<=at_) (h1:at_<(plan.length:Int)) (rule:Int):Sm (.sl ag) (gZ tables plan at_ rule).1:=by
 have hn:=(tN hp hs h0 h1).2.2.2.2 rule
 unfold gZ
 cases decide (((cu plan at_ rule).length:Int)=(0:Int))<;>cases aW tables (cv plan at_ (cu plan at_ rule))<;>first | exact hs | exact IL hs (rP hp) hn (yI _ _ _ _)
end M
end Go.AE
end
