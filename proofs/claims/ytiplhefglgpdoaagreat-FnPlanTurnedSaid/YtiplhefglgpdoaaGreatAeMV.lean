/- A plan that is ok stays ok when it is made tidy: plain Lean. -/
import Derived.Test.YtiplhefglgpdoaaGreatAeMP
import Derived.Test.YtiplhefglgpdoaaGreatAeY
import Derived.Test.YtiplhefglgpdoaaGreatAeMU
import Derived.Test.YtiplhefglgpdoaaGreatAeEqH
import Derived.Test.YtiplhefglgpdoaaGreatAeF
import Derived.Test.YtiplhefglgpdoaaGreatAeEqI
section
namespace Go.AE
open Go Go.RowKit
set_option linter.unusedVariables false
namespace M
end M
end Go.AE
end
section
namespace Go.AE
open Go Go.RowKit
set_option linter.unusedVariables false
namespace M
theorem BW (tables:List az.D) (xs:List ah.D) (s:ah.D):cq tables (xs++[s])=cq tables xs++[bQ tables (cq tables xs) s]:=by
 unfold cq
 rw[List.foldl_append]
 rfl
theorem xl (tables:List az.D):∀(xs:List ah.D),(cq tables xs).length=xs.length:=by
 have key:∀(xs:List ah.D) (a:List (List (List aa.D))),(xs.foldl (eC tables) a).length=a.length+xs.length:=by
  intro xs
  induction xs with
  | nil=>intro a;simp
  | cons x xs ih=>intro a;rw[List.foldl_cons,ih];unfold eC;simp;omega
 intro xs
 have:=key xs []
 unfold cq
 simpa using this
theorem EC {k:Int} (h:two k=true):¬k=(1:Int):=fun z=>by rw[z] at h;cases h
theorem zM {tables:List az.D} {ahead ahead':List (List (List aa.D))} {s s':ah.D} (h1:s'.1=s.1) (h2:s'.2.2.2=s.2.2.2) (hA:¬s.1=(1:Int)->nth (t:=.sl (.sl aa)) ahead' s'.2.1=nth (t:=.sl (.sl aa)) ahead s.2.1)
  (hB:two s.1=true->nth (t:=.sl (.sl aa)) ahead' s'.2.2.1=nth (t:=.sl (.sl aa)) ahead s.2.2.1):bQ tables ahead' s'=bQ tables ahead s:=by
 unfold bQ
 rw[h1,h2]
 by_cases k1:s.1=(1:Int)
 ·rw[decide_eq_true k1]
  rfl
 rw[hA k1]
 cases ht:two s.1 with
 | true=>rw[hB ht]
 | false=>
  unfold two at ht
  obtain⟨k4,k5⟩:=Bool.or_eq_false_iff.1 ht
  rw[k4,k5]
  rfl
theorem take_one {plan:List ah.D} {n:Nat} (h:n<plan.length):plan.take (n+1)=plan.take n++[nth (t:=ah) plan (n:Int)]:=Bq (t:=ah) h
end M
end Go.AE
end
section
namespace Go.AE
open Go Go.RowKit
set_option linter.unusedVariables false
namespace M
theorem nh {row vs:List aa.D} {p:ax.D}:(cD row vs p).length=vs.length-(takes p).toNat+1:=by
 unfold cD
 rw[List.length_append,List.length_take,List.length_singleton]
 omega
theorem Ag {row base vs:List aa.D} {p:ax.D} (h:(takes p).toNat<=vs.length):cD row (base++vs) p=base++cD row vs p:=by
 unfold cD
 have e:(base++vs).length-(takes p).toNat=base.length+(vs.length-(takes p).toNat):=by rw[List.length_append];omega
 rw[e,List.take_length_add_append,List.drop_length_add_append,List.append_assoc]
theorem zP {w:Nat} {row base:List aa.D}:∀(e:List ax.D) (vs:List aa.D),rK w e vs.length->e.foldl (cD row) (base++vs)=base++e.foldl (cD row) vs
 | [],_,_=>rfl
 | p::e,vs,h=>by
  obtain⟨h1,_,_,h4⟩:=h
  rw[List.foldl_cons,List.foldl_cons,Ag (by omega)]
  exact zP e _ (by rw[nh];exact h4)
theorem EU {columns:List ag.D} {row:List aa.D}:∀(e:List ax.D) (ks ks':List Int) (vs:List aa.D),ks.length=vs.length->ig columns e ks=some ks'->(e.foldl (cD row) vs).length=ks'.length
 | [],ks,ks',vs,h,hk=>by cases hk;exact h.symm
 | p::e,ks,ks',vs,h,hk=>by
  unfold ig at hk
  cases hs:eR columns ks p with
  | none=>rw[hs] at hk;cases hk
  | some k1=>
   rw[hs] at hk
   refine EU e k1 ks' _ ?_ hk
   rw[(sx hs).2.2,nh,h]
theorem EG {columns:List ag.D} {row:List aa.D} {e:List ax.D} (h:bu columns e=3):e.foldl (cD row) []=[dD row e]:=by
 unfold bu at h
 cases hc:(bA columns&&decide (e.length<=12)) with
 | false=>rw[hc] at h;simp at h
 | true=>
  rw[hc,cond_true] at h
  unfold oneOf at h
  split at h
  ·rename_i k hk
   have hl:=EU (row:=row) e [] [k] [] rfl hk
   unfold dD
   match hq:e.foldl (cD row) [],hl with
   | [v],_=>rfl
  ·simp at h
theorem DP {ca cb:List ag.D} {row:List aa.D} {a b:List ax.D} (ha:bu ca a=3) (hb:bu cb b=3):dD row (fS a b)=valueOf (sv (de (dD row a)) (de (dD row b))):=by
 have hd:=(rN (columns:=cb) (e:=b) (by rw[hb];decide)).2
 have h:(fS a b).foldl (cD row) []=[valueOf (sv (de (dD row a)) (de (dD row b)))]:=by
  unfold fS
  rw[List.foldl_append,List.foldl_append,EG ha]
  have:=zP (row:=row) (base:=[dD row a]) b [] hd
  rw[List.append_nil] at this
  rw[this,EG hb]
  rfl
 show nth (t:=aa) ((fS a b).foldl (cD row) []) 0=_
 rw[h]
 rfl
theorem IT {s:ByteArray} (h:decide (s=none_)=true):s=none_:=of_decide_eq_true h
theorem Bl {v:aa.D}:decide (de v=1)=Ty.beq aa v (valueOf 1):=by
 have hb:∀x y:aa.D,Ty.beq aa x y=true ↔ x=y:=beq_iff rfl
 by_cases h:v=valueOf 1
 ·rw[h]
  rfl
 ·have h2:Ty.beq aa v (valueOf 1)=false:=by
   rw[Bool.eq_false_iff]
   exact fun q=>h ((hb _ _).1 q)
  rw[h2,decide_eq_false]
  intro ht
  unfold de at ht
  cases ho:aS v with
  | false=>rw[ho] at ht;exact absurd (show (-1:Int)=1 from ht) (by decide)
  | true=>
   rw[ho,cond_true] at ht
   by_cases h0:v.1=(0:Int)
   ·rw[decide_eq_true h0] at ht;exact absurd (show (2:Int)=1 from ht) (by decide)
   rw[decide_eq_false h0,cond_false] at ht
   by_cases h3:v.1=(3:Int)
   ·rw[decide_eq_true h3,cond_true] at ht
    unfold aS at ho
    rw[decide_eq_false h0,decide_eq_false (show ¬v.1=(1:Int) by rw[h3];decide),decide_eq_false (show ¬v.1=(2:Int) by rw[h3];decide),decide_eq_true h3] at ho
    simp only[cond_false,cond_true,Bool.and_eq_true] at ho
    have hs:=IT ho.2
    obtain⟨k,n,s,u⟩:=v
    simp only at h3 ht hs
    exact h (by rw[h3,ht,hs];rfl)
   ·rw[decide_eq_false h3] at ht;exact absurd (show (-1:Int)=1 from ht) (by decide)
theorem IA {x y:Int}:decide (sv x y=1)=(decide (x=1)&&decide (y=1)):=by
 unfold sv fold
 by_cases hx:0<=x/\x<=2
 ·by_cases hy:0<=y/\y<=2
  ·have hx':x=0\/x=1\/x=2:=by omega
   have hy':y=0\/y=1\/y=2:=by omega
   rcases hx' with rfl | rfl | rfl<;>rcases hy' with rfl | rfl | rfl<;>rfl
  ·have:inR y 0 2=false:=by unfold inR;simp only[Bool.and_eq_false_iff,decide_eq_false_iff_not];omega
   rw[this,Bool.and_false,cond_false,decide_eq_false (show ¬y=1 by omega),Bool.and_false]
   rfl
 ·have:inR x 0 2=false:=by unfold inR;simp only[Bool.and_eq_false_iff,decide_eq_false_iff_not];omega
  rw[this,Bool.false_and,cond_false,decide_eq_false (show ¬x=1 by omega),Bool.false_and]
  rfl
theorem Gc {n:Int}:Ty.beq aa (valueOf n) (valueOf 1)=decide (n=1):=by
 have hb:∀x y:aa.D,Ty.beq aa x y=true ↔ x=y:=beq_iff rfl
 by_cases h:n=1
 ·rw[h];rfl
 ·rw[decide_eq_false h,Bool.eq_false_iff]
  intro q
  have q:=(hb _ _).1 q
  unfold valueOf at q
  cases hi:inR n 0 1 with
  | false=>
   rw[hi] at q
   have:=congrArg (fun v:aa.D=>(v.1:Int)) q
   exact absurd (show (0:Int)=3 from this) (by decide)
  | true=>
   rw[hi] at q
   have:n=1:=congrArg (fun v:aa.D=>(v.2.1:Int)) q
   exact h this
theorem yN {ca cb:List ag.D} {row:List aa.D} {a b:List ax.D} (ha:bu ca a=3) (hb:bu cb b=3):holds row (fS a b)=(holds row a&&holds row b):=by
 unfold holds
 rw[DP ha hb,Gc,IA,Bl,Bl]
theorem xO {to:List Int} {row l:List aa.D} {p:ax.D} (h:p.1=(2:Int)->0<=p.2.1/\p.2.1<(to.length:Int)):eN (kW to p) row l=eN p (taken row to) l:=by
 unfold kW
 by_cases h2:p.1=(2:Int)
 ·rw[decide_eq_true h2,cond_true]
  obtain⟨h0,h1⟩:=h h2
  unfold eN
  simp only
  rw[h2]
  show nth (t:=aa) row (nth (t:=.int .i64) to p.2.1)=nth (t:=aa) (taken row to) p.2.1
  unfold taken
  rw[lq (t:=aa) h0 (by rw[List.length_map];exact h1),lq (t:=.int .i64) h0 h1,List.getElem_map]
 ·rw[decide_eq_false h2,cond_false]
  unfold eN
  rw[decide_eq_false h2]
  rfl
theorem Dy {to:List Int} {p:ax.D}:takes (kW to p)=takes p:=by
 unfold kW takes
 cases decide (p.1=(2:Int))<;>rfl
theorem zO {to:List Int} {row:List aa.D}:∀(e:List ax.D) (vs:List aa.D),od e to.length->(lJ e to).foldl (cD row) vs=e.foldl (cD (taken row to)) vs
 | [],_,_=>rfl
 | p::e,vs,h=>by
  show (lJ e to).foldl (cD row) (cD row vs (kW to p))=_
  have:cD row vs (kW to p)=cD (taken row to) vs p:=by
   unfold cD
   rw[Dy,xO (h p List.mem_cons_self)]
  rw[this]
  exact zO e _ (fun q hq=>h q (List.mem_cons_of_mem _ hq))
theorem DH {to:List Int} {row:List aa.D} {e:List ax.D} (h:od e to.length):holds row (lJ e to)=holds (taken row to) e:=by
 unfold holds dD
 rw[zO e [] h]
theorem Du {row:List aa.D} {a b:List Int} (h:∀z∈b,0<=z/\z<(a.length:Int)):taken (taken row a) b=taken row (b.map fun z=>nth (t:=.int .i64) a z):=by
 unfold taken
 rw[List.map_map]
 refine List.map_congr_left fun z hz=>?_
 obtain⟨h0,h1⟩:=h z hz
 show nth (t:=aa) (a.map fun i=>nth (t:=aa) row i) z=nth (t:=aa) row (nth (t:=.int .i64) a z)
 rw[lq (t:=aa) h0 (by rw[List.length_map];exact h1),lq (t:=.int .i64) h0 h1,List.getElem_map]
def Cw (out:List (List aa.D)) (r:List aa.D):Bool:=out.any fun x=>decide (x=r)
theorem CQ {out:List (List aa.D)} {r:List aa.D}:Cw out r=true ↔ r∈out:=by
 unfold Cw
 rw[List.any_eq_true]
 constructor
 ·rintro ⟨x,hx,e⟩
  rw[<-of_decide_eq_true e]
  exact hx
 ·exact fun h=>⟨r,h,by simp⟩
theorem BV {out:List (List aa.D)} {r:List aa.D} (h:r∈out):Cw out r=true:=CQ.2 h
theorem yZ {out:List (List aa.D)} {r:List aa.D} (h:¬r∈out):Cw out r=false:=by
 rw[Bool.eq_false_iff]
 exact fun q=>h (CQ.1 q)
theorem Hq {out:List (List aa.D)} {r:List aa.D}:decide ((eV out r:Int)=(0:Int))=!Cw out r:=by
 unfold eV
 by_cases h:r∈out
 ·have:0<out.countP fun x=>decide (x=r):=List.countP_pos_iff.2 ⟨r,h,by simp⟩
  rw[BV h,decide_eq_false (by omega)]
  rfl
 ·have:(out.countP fun x=>decide (x=r))=0:=List.countP_eq_zero.2 fun x hx q=>h (by rw[<-of_decide_eq_true q];exact hx)
  rw[yZ h,this]
  rfl
theorem oE {out:List (List aa.D)} {r:List aa.D}:cZ out r=cond (Cw out r) out (out++[r]):=by
 unfold cZ
 rw[Hq]
 cases Cw out r<;>rfl
theorem Dk (p:List aa.D->Bool) (xs:List (List aa.D)):cS (xs.filter p)=(cS xs).filter p:=by
 have key:∀(xs out:List (List aa.D)),(xs.filter p).foldl cZ (out.filter p)=(xs.foldl cZ out).filter p:=by
  intro xs
  induction xs with
  | nil=>intro out;rfl
  | cons x xs ih=>
   intro out
   rw[List.foldl_cons]
   cases hp:p x with
   | false=>
    rw[List.filter_cons_of_neg (by simp[hp]),<-ih]
    congr 1
    rw[oE]
    cases Cw out x with
    | true=>rfl
    | false=>rw[cond_false,List.filter_append,List.filter_cons_of_neg (by simp[hp])];simp
   | true=>
    rw[List.filter_cons_of_pos hp,List.foldl_cons,<-ih]
    congr 1
    rw[oE,oE]
    by_cases hx:x∈out
    ·rw[BV hx,BV (List.mem_filter.2 ⟨hx,hp⟩)]
     rfl
    ·rw[yZ hx,yZ (fun q=>hx (List.mem_filter.1 q).1),cond_false,cond_false,List.filter_append,List.filter_cons_of_pos hp]
     rfl
 exact key xs []
theorem DV (xs:List (List aa.D)):(cS xs).Nodup:=by
 have key:∀(xs out:List (List aa.D)),out.Nodup->(xs.foldl cZ out).Nodup:=by
  intro xs
  induction xs with
  | nil=>intro out h;exact h
  | cons x xs ih=>
   intro out h
   rw[List.foldl_cons]
   refine ih _ ?_
   rw[oE]
   by_cases hx:x∈out
   ·rw[BV hx];exact h
   ·rw[yZ hx,cond_false]
    exact List.nodup_append.2 ⟨h,List.pairwise_singleton _ _,fun a ha b hb q=>hx (by rw[<-List.mem_singleton.1 hb,<-q];exact ha)⟩
 exact key xs [] List.Pairwise.nil
theorem FO {xs:List (List aa.D)} (h:xs.Nodup):cS xs=xs:=by
 have key:∀(xs out:List (List aa.D)),(out++xs).Nodup->xs.foldl cZ out=out++xs:=by
  intro xs
  induction xs with
  | nil=>intro out _;simp
  | cons x xs ih=>
   intro out h
   have hx:x∉out:=by
    intro q
    have:=(List.nodup_append.1 h).2.2 x q x List.mem_cons_self
    exact this rfl
   rw[List.foldl_cons,oE,yZ hx,cond_false,ih _ (by simpa using h)]
   simp
 exact key xs [] h
theorem Fy (xs:List (List aa.D)):cS (cS xs)=cS xs:=FO (DV xs)
theorem AB {ca cb:List ag.D} {a b:List ax.D} (ha:bu ca a=3) (hb:bu cb b=3) (X Y:List (List aa.D)) :
  (X.flatMap fun r=>joined a r Y).filter (fun r=>holds r b)=X.flatMap fun r=>joined (fS a b) r Y:=by
 rw[List.filter_flatMap]
 congr 1
 funext r
 unfold joined
 rw[List.filter_filter]
 congr 1
 funext x
 rw[yN ha hb,Bool.and_comm]
end M
end Go.AE
end
section
namespace Go.AE
open Go Go.RowKit
set_option linter.unusedVariables false
set_option linter.unusedSimpArgs false
theorem mO {α β ρ:Type} {f:α->List β->Option (Sum (List β) ρ)} (g:α->β):∀(xs:List α) (s:List β),(∀z∈xs,∀v:List β,v.length<s.length+xs.length->f z v=some (.inl (v++[g z])))->aO f xs s=some (.inl (s++xs.map g))
 | [],s,_=>by simp
 | x::xs,s,h=>by
  rw[bO,h x (by simp) s (by simp),aX,mO g xs (s++[g x]) (fun z hz v hv=>h z (by simp[hz]) v (by simp at hv ⊢;omega))]
  simp
theorem sE {t:Ty} {β ρ:Type} {f:Int->List β->Option (Sum (List β) ρ)} (g:t.D->β) (xs:List t.D) (B:Nat):∀(R A:List t.D) (s:List β),xs=A++R->s.length+R.length<=B →
  (∀i v,0<=i->i<(xs.length:Int)->v.length<B->f i v=some (.inl (v++[g (nth (t:=t) xs i)])))->aO f (aY (A.length:Int) (xs.length:Int)) s=some (.inl (s++R.map g))
 | [],A,s,e,_,_=>by
  rw[fM (by rw[e];simp)]
  simp
 | x::R,A,s,e,hs,h=>by
  have hl:xs.length=A.length+(R.length+1):=by rw[e];simp
  simp only[List.length_cons] at hs
  have hx:nth (t:=t) xs (A.length:Int)=x:=by
   rw[e]
   unfold nth
   rw[List.getD_eq_getElem?_getD]
   simp
  rw[eU (by omega),bO,h _ s (by omega) (by omega) (by omega),aX,hx]
  have:=sE g xs B R (A++[x]) (s++[g x]) (by rw[e];simp) (by simp;omega) h
  rw[show (((A++[x]).length:Nat):Int)=(A.length:Int)+1 by simp] at this
  rw[this]
  simp
theorem vi {t:Ty} {ρ:Type} (g:t.D->t.D) (N:Nat) {f:Int->List t.D->Option (Sum (List t.D) ρ)}:∀(R A:List t.D),A.length+R.length=N →
  (∀x∈R,∀A' R':List t.D,A'.length+1+R'.length=N->f (A'.length:Int) (A'++x::R')=some (.inl (A'++g x::R')))->aO f (aY (A.length:Int) (N:Int)) (A++R)=some (.inl (A++R.map g))
 | [],A,hl,_=>by
  rw[fM (by simp at hl;omega)]
  simp
 | x::R,A,hl,h=>by
  simp only[List.length_cons] at hl
  rw[eU (by omega),bO,h x (by simp) A R (by omega),aX]
  have:=vi g N R (A++[g x]) (by simp;omega) (fun z hz=>h z (by simp[hz]))
  rw[show (((A++[g x]).length:Nat):Int)=(A.length:Int)+1 by simp,show (A++[g x]++R:List t.D)=A++g x::R by simp] at this
  rw[this]
  simp
theorem Is {t:Ty} {A R:List t.D} {x:t.D}:nth (t:=t) (A++x::R) (A.length:Int)=x:=by
 unfold nth
 rw[List.getD_eq_getElem?_getD]
 simp
theorem Im {α:Type} {A R:List α} {x y:α}:(A++x::R).set ((A.length:Int)).toNat y=A++y::R:=by simp
namespace M
theorem Br {c:List ag.D} {e:List ax.D} (h:0<=bu c e):od e c.length:=zA _ _ (rN h).2
theorem EF {a b:List ax.D} (ha:Sm (.sl ax) a) (hb:Sm (.sl ax) b) (h1:a.length<=12) (h2:b.length<=12):Sm (.sl ax) (fS a b):=by
 refine⟨?_,fun p hp=>?_⟩
 ·show (a++b++[DX]).length<=1048576
  simp
  omega
 ·rcases List.mem_append.1 (show p∈a++b++[DX] from hp) with hp | hp
  ·rcases List.mem_append.1 hp with hp | hp
   ·exact ha.2 p hp
   ·exact hb.2 p hp
  ·rw[List.mem_singleton.1 hp]
   exact⟨trivial,trivial,⟨trivial,trivial,Nat.zero_le _,trivial⟩,trivial⟩
theorem Ho {e:List ax.D} {to:List Int} (h:Sm (.sl ax) e):Sm (.sl ax) (lJ e to):=by
 refine⟨?_,fun p hp=>?_⟩
 ·show (e.map _).length<=1048576
  rw[List.length_map]
  exact h.1
 ·obtain⟨q,hq,rfl⟩:=List.mem_map.1 hp
  have:=h.2 q hq
  unfold kW
  cases decide (q.1=(2:Int))
  ·exact this
  ·exact⟨trivial,trivial,this.2.2⟩
theorem rG {k a b:Int} {e:List ax.D} {l:List Int} (he:Sm (.sl ax) e) (hl:l.length<=1048576):Sm ah (mkS k a b e l):=⟨trivial,trivial,trivial,trivial,he,⟨hl,fun _ _=>trivial⟩,trivial⟩
theorem eO {α:Type} {P:α->Prop} {b:Bool} {xs ys:List α} (h1:b=true->∀x∈xs,P x) (h2:∀x∈ys,P x):∀x∈cond b xs ys,P x:=by
 cases b
 ·exact h2
 ·exact h1 rfl
theorem Jg {s j:ah.D} (at_ rule:Int) (hs:Sm ah s) (hj:Sm ah j) (h1:s.1=(2:Int)->s.2.2.2.2.1.length<=12) (h2:j.1=(2:Int)\/j.1=(4:Int)->j.2.2.2.2.1.length<=12):Sm (.sl ah) (gm s j at_ rule):=by
 refine⟨Nat.le_trans (vg s j at_ rule) (by decide),?_⟩
 have e0:Sm (.sl ax) ([]:List ax.D):=⟨Nat.zero_le _,fun _ h=>by cases h⟩
 have z0:∀x∈([]:List ah.D),Sm ah x:=fun _ h=>by cases h
 obtain⟨_,_,_,_,se,sl,_⟩:=hs
 obtain⟨_,_,_,_,je,jl,_⟩:=hj
 have hl:([]:List Int).length<=1048576:=by decide
 have hb:∀a b:Bool,(a&&b)=true->a=true/\b=true:=fun a b h=>Bool.and_eq_true_iff.1 h
 unfold gm
 refine eO (fun _=>eO (fun c=>?_) z0) (eO (fun _=>eO (fun c=>?_) z0) (eO (fun _=>eO (fun c=>?_) z0) (eO (fun _=>eO (fun c=>?_) z0) (eO (fun _=>eO (fun c=>?_) z0) (eO (fun _=>eO (fun c=>?_) z0) (eO (fun _=>eO (fun c=>?_) z0) z0))))))
 ·obtain⟨c1,c2⟩:=hb _ _ c
  intro x hx
  rw[List.mem_singleton.1 hx]
  exact rG (EF je se (h2 (.inl (of_decide_eq_true c2))) (h1 (of_decide_eq_true c1))) hl
 ·obtain⟨c1,c2⟩:=hb _ _ c
  intro x hx
  rw[List.mem_singleton.1 hx]
  exact rG (EF je se (h2 (.inr (of_decide_eq_true c2))) (h1 (of_decide_eq_true c1))) hl
 ·intro x hx
  rcases List.mem_cons.1 hx with rfl | hx
  ·exact rG (Ho se) hl
  ·rw[List.mem_singleton.1 hx]
   exact rG e0 jl.1
 ·intro x hx
  rcases List.mem_cons.1 hx with rfl | hx
  ·exact rG se hl
  ·rw[List.mem_singleton.1 hx]
   exact rG e0 hl
 ·intro x hx
  rcases List.mem_cons.1 hx with rfl | hx
  ·exact rG se hl
  rcases List.mem_cons.1 hx with rfl | hx
  ·exact rG se hl
  ·rw[List.mem_singleton.1 hx]
   exact rG e0 hl
 ·intro x hx
  rw[List.mem_singleton.1 hx]
  exact rG e0 (by rw[List.length_map];exact sl.1)
 ·intro x hx
  rw[List.mem_singleton.1 hx]
  exact rG e0 hl
theorem pV {tables:List az.D} {plan:List ah.D} (hp:bB tables plan=true) (hs:Sm (.sl ah) plan) {at_:Int} (h0:0<=at_) (h1:at_<(plan.length:Int)) :
  iG plan at_/\mI (cn tables plan).1 plan at_/\(∀x∈(cn tables plan).1,x.length<=4)/\(cn tables plan).1.length=plan.length/\∀rule,Sm (.sl ah) (bS plan at_ rule):=by
 have ht:bX tables=true:=by
  unfold bB at hp
  exact(Bool.and_eq_true_iff.1 (Bool.and_eq_true_iff.1 hp).2).1
 obtain⟨st,hr,hst⟩:∃st,eI (bK tables) plan ([],[])=some st/\(cn tables plan).1=st.1:=by
  unfold bB at hp
  have h:=(Bool.and_eq_true_iff.1 hp).1
  unfold cn at h ⊢
  cases hr:kz tables plan with
  | none=>rw[hr] at h;cases h
  | some st=>exact⟨st,hr,rfl⟩
 rw[hst]
 have h4:=za ht plan ([],[]) st (fun _ h=>by cases h) hr
 have hlen:st.1.length=plan.length:=by
  have:=(vk plan ([],[]) st hr).1
  simpa using this
 have hat:∀i:Int,0<=i->i<(plan.length:Int)->∃a:List (List ag.D),bN tables a (nth (t:=ah) plan i)=some (nth (t:=.sl ag) st.1 i)/\(a.length:Int)=i/\∀k:Int,0<=k->k<i->nth (t:=.sl ag) a k=nth (t:=.sl ag) st.1 k:=by
  intro i i0 i1
  obtain⟨a,a1,a2,a3⟩:=zg plan ([],[]) st hr i i0 i1
  rw[show ((([]:List (List ag.D)).length:Nat):Int)+i=i by simp] at a1 a2
  exact⟨a,a1,a2,fun k k0 k1=>a3 k k0 (by omega)⟩
 obtain⟨a,a1,a2,a3⟩:=hat at_ h0 h1
 have hin:=kH a1
 rw[a2] at hin
 unfold iG mI bS
 have sS:=aL hs at_
 have sJ:=aL hs (nth (t:=ah) plan at_).2.1
 revert a1 hin sS sJ
 generalize nth (t:=ah) plan at_=s
 intro a1 hin sS sJ
 by_cases k1:s.1=(1:Int)
 ·refine⟨⟨⟨h0,h1⟩,fun h=>absurd k1 h,fun h=>?_,fun h=>?_⟩,fun h=>?_,h4,hlen,fun rule=>?_⟩
  ·rw[k1] at h;exact absurd h (by decide)
  ·rw[k1] at h;exact absurd h (by decide)
  ·rw[k1] at h;exact absurd h (by decide)
  ·have:gm s (nth (t:=ah) plan s.2.1) at_ rule=[]:=by
    unfold gm
    rw[k1]
    cases decide (rule=(1:Int))<;>cases decide (rule=(2:Int))<;>cases decide (rule=(3:Int))<;>cases decide (rule=(4:Int))<;>cases decide (rule=(5:Int))<;>cases decide (rule=(6:Int))<;>cases decide (rule=(7:Int))<;>rfl
   rw[this]
   exact⟨Nat.zero_le _,fun _ h=>by cases h⟩
 obtain⟨⟨q0,q1⟩,_⟩:=hin k1
 obtain⟨b,b1,b2,b3⟩:=hat s.2.1 q0 (Int.lt_trans q1 h1)
 have hjin:=kH b1
 rw[b2] at hjin
 have eA:=a3 s.2.1 q0 q1
 revert b1 hjin sJ
 generalize nth (t:=ah) plan s.2.1=j
 intro sJ b1 hjin
 have hw:s.1=(2:Int)->bu (nth (t:=.sl ag) st.1 s.2.1) s.2.2.2.2.1=3:=fun h=>by
  have:=oX a1 h
  rw[eA] at this
  exact this
 refine⟨⟨⟨h0,h1⟩,fun _=>⟨q0,Int.lt_trans q1 h1⟩,fun h2 h3=>?_,fun h2 h3 z hz=>?_⟩,fun h2 h3=>⟨by rw[hlen];exact Int.lt_trans q1 h1,?_⟩,h4,hlen,fun rule=>?_⟩
 ·have:=Br (c:=nth (t:=.sl ag) st.1 s.2.1) (e:=s.2.2.2.2.1) (by rw[hw h2];decide)
  rw[(rR b1 h3).2] at this
  exact this
 ·have:=(rR a1 h2).1 z hz
  rw[eA,(rR b1 h3).2] at this
  have l1:=dP this
  have l2:=nc this
  exact⟨l1,Int.lt_of_le_sub_one l2⟩
 ·have hk:=hw h2
  obtain⟨t1,t2⟩:=rR b1 h3
  unfold jU
  rw[hk,t2]
  have hany:(j.2.2.2.2.2.1.any fun z=>!(inR z 0 3))=false:=by
   rw[List.any_eq_false]
   intro z hz
   have l:=t1 z hz
   have hj1:¬j.1=(1:Int):=by rw[h3];decide
   obtain⟨⟨r0,r1⟩,_⟩:=hjin hj1
   rw[b3 j.2.1 r0 r1] at l
   have l4:=Dd h4 j.2.1
   have l1:=dP l
   have l2:=nc l
   unfold inR
   simp only[Bool.not_eq_true',Bool.and_eq_false_iff,decide_eq_false_iff_not]
   omega
  rw[hany]
  simp
 ·refine Jg at_ rule sS sJ (fun h=>zN (hw h)) (fun h=>?_)
  rcases h with h | h
  ·exact zN (oX b1 h)
  ·obtain⟨q,hq⟩:=Bh b1 h
   exact zN hq
theorem FM {tables:List az.D} {plan:List ah.D} (hp:bB tables plan=true) (hs:Sm (.sl ah) plan) {at_:Int} (h0:0<=at_) (h1:at_<(plan.length:Int)) (rule:Int):Sm (.sl ah) (iy tables plan at_ rule).1:=by
 have hn:=(pV hp hs h0 h1).2.2.2.2 rule
 unfold iy
 cases decide (((bS plan at_ rule).length:Int)=(0:Int))<;>cases bB tables (bY plan at_ (bS plan at_ rule))<;>first | exact hs | exact Eb hs (tU hp) hn (vg _ _ _ _)
theorem Aa {tables:List az.D} {plan:List ah.D} (hs:Sm (.sl ah) plan) {at_ rule:Int}:Sm (.sl ah) (ck tables plan at_ rule).1:=by
 unfold ck
 cases hp:bB tables plan
 ·exact⟨Nat.zero_le _,fun _ h=>by cases h⟩
 cases ha:inR at_ 0 (wrap64 ((plan.length:Int)-(1:Int)))
 ·exact⟨Nat.zero_le _,fun _ h=>by cases h⟩
 cases inR rule 1 7
 ·exact⟨Nat.zero_le _,fun _ h=>by cases h⟩
 exact FM hp hs (dP ha) (Go.AE.iz ha) rule
end M
end Go.AE
end
