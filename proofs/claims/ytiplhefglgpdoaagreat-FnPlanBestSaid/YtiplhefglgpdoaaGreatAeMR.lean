/- Rows of plans: plain Lean. -/
import Derived.Test.YtiplhefglgpdoaaGreatAeMQ
section
namespace Go.AE
open Go Go.RowKit
set_option linter.unusedVariables false
def M.fB (rows:List (List af.D)) (row:List af.D):Nat:=rows.countP fun r=>decide (r=row)
def M.dg (out:List (List af.D)) (r:List af.D):List (List af.D):=cond (decide ((fB out r:Int)=(0:Int))) (out++[r]) out
def M.cX (rows:List (List af.D)):List (List af.D):=rows.foldl dg []
def M.joined (e:List ax.D) (r:List af.D) (rows:List (List af.D)):List (List af.D):=(rows.map fun q=>r++q).filter fun x=>holds x e
def M.bQ (tables:List az.D) (ahead:List (List (List af.D))) (s:aa.D):List (List af.D):=
 cond (decide (s.1=(1:Int))) (nth (t:=az) tables s.2.2.2.1).2.1
 (cond (decide (s.1=(2:Int))) (List.filter (fun r=>holds r s.2.2.2.2.1) (nth (t:=.sl (.sl af)) ahead s.2.1))
 (cond (decide (s.1=(3:Int))) (List.map (fun r=>taken r s.2.2.2.2.2.1) (nth (t:=.sl (.sl af)) ahead s.2.1))
 (cond (decide (s.1=(4:Int))) (List.flatMap (fun r=>joined s.2.2.2.2.1 r (nth (t:=.sl (.sl af)) ahead s.2.2.1)) (nth (t:=.sl (.sl af)) ahead s.2.1))
 (cond (decide (s.1=(5:Int))) (nth (t:=.sl (.sl af)) ahead s.2.1++nth (t:=.sl (.sl af)) ahead s.2.2.1:List (List af.D))
 (cond (decide (s.1=(6:Int))) (cX (nth (t:=.sl (.sl af)) ahead s.2.1)) [])))))
def M.zx (R:List (List af.D)):Prop:=R.length<=300/\∀r∈R,r.length<=4
def M.sX (tables:List az.D) (ahead:List (List (List af.D))) (s:aa.D):Prop:=
 (s.1=(1:Int)->0<=s.2.2.2.1/\s.2.2.2.1<(tables.length:Int))/\gi (ahead.length:Int) s ∧
 (¬s.1=(1:Int)->zx (nth (t:=.sl (.sl af)) ahead s.2.1)/\zx (nth (t:=.sl (.sl af)) ahead s.2.2.1)) ∧
 (s.1=(2:Int)->∀r∈(nth (t:=.sl (.sl af)) ahead s.2.1:List (List af.D)),gz r.length s.2.2.2.2.1) ∧
 (s.1=(3:Int)->∀r∈(nth (t:=.sl (.sl af)) ahead s.2.1:List (List af.D)),CH r s.2.2.2.2.2.1) ∧
 (s.1=(4:Int)->∀r∈(nth (t:=.sl (.sl af)) ahead s.2.1:List (List af.D)),∀q∈(nth (t:=.sl (.sl af)) ahead s.2.2.1:List (List af.D)),gz (r++q:List af.D).length s.2.2.2.2.1)
def M.eO (tables:List az.D) (all:List (List (List af.D))) (s:aa.D):List (List (List af.D)):=all++[bQ tables all s]
def M.bZ (tables:List az.D) (plan:List aa.D):List (List (List af.D)):=plan.foldl (eO tables) []
def M.cB (tables:List az.D) (plan:List aa.D):List (List af.D):=cond (aQ tables plan) (nth (t:=.sl (.sl af)) (bZ tables plan) ((plan.length:Int)-1)) []
namespace M
theorem Es (out:List (List af.D)) (r:List af.D):(dg out r).length<=out.length+1/\∀x∈dg out r,x∈out\/x=r:=by
 unfold dg
 cases decide ((fB out r:Int)=(0:Int)) with
 | true=>
  refine⟨by simp,fun x hx=>?_⟩
  rcases List.mem_append.1 hx with h | h
  ·exact .inl h
  ·exact .inr (List.mem_singleton.1 h)
 | false=>exact⟨by show out.length<=out.length+1;omega,fun x hx=>.inl hx⟩
theorem Ji (rows:List (List af.D)):(cX rows).length<=rows.length/\∀x∈cX rows,x∈rows:=by
 have key:∀(l:List (List af.D)) (out:List (List af.D)),(l.foldl dg out).length<=out.length+l.length/\∀x∈l.foldl dg out,x∈out\/x∈l:=by
  intro l
  induction l with
  | nil=>intro out;exact⟨by simp,fun x hx=>.inl hx⟩
  | cons y l ih=>
   intro out
   obtain⟨h1,h2⟩:=ih (dg out y)
   obtain⟨h3,h4⟩:=Es out y
   refine⟨by rw[List.foldl_cons,List.length_cons];omega,fun x hx=>?_⟩
   rcases h2 x hx with h | h
   ·rcases h4 x h with h | h
    ·exact .inl h
    ·exact .inr (by simp[h])
   ·exact .inr (by simp[h])
 have:=key rows []
 refine⟨by have:=this.1;unfold cX;simpa using this,fun x hx=>?_⟩
 rcases this.2 x hx with h | h
 ·cases h
 ·exact h
theorem At (e:List ax.D) (r:List af.D) (rows:List (List af.D)):(joined e r rows).length<=rows.length:=by
 unfold joined
 refine Nat.le_trans (List.length_filter_le _ _) ?_
 rw[List.length_map]
 exact Nat.le_refl _
theorem Ek {α β:Type} (f:α->List β) (n:Nat):∀(xs:List α),(∀x∈xs,(f x).length<=n)->(xs.flatMap f).length<=xs.length * n
 | [],_=>by simp
 | x::xs,h=>by
  have h1:=h x (by simp)
  have h2:=Ek f n xs (fun y hy=>h y (by simp[hy]))
  rw[List.flatMap_cons,List.length_append,List.length_cons,Nat.succ_mul]
  omega
def Rows (st:eP) (all:List (List (List af.D))):Prop:=all.length=st.1.length/\st.2.length=st.1.length/\∀j:Int,0<=j->j<(all.length:Int) →
 ((nth (t:=.sl (.sl af)) all j:List (List af.D)).length:Int)<=nth (t:=.int .i64) st.2 j/\nth (t:=.int .i64) st.2 j<=300/\(nth (t:=.sl ah) st.1 j:List ah.D).length<=4 ∧
 Sm (.sl (.sl af)) (nth (t:=.sl (.sl af)) all j)/\∀r∈(nth (t:=.sl (.sl af)) all j:List (List af.D)),r.length=(nth (t:=.sl ah) st.1 j:List ah.D).length
theorem qe {st:eP} {all:List (List (List af.D))} (h:Rows st all) {R:List (List af.D)} {c:List ah.D} {m:Int} (h1:(R.length:Int)<=m) (h2:m<=300) (h3:c.length<=4) (h4:Sm (.sl (.sl af)) R) (h5:∀r∈R,r.length=c.length) :
  Rows (st.1++[c],st.2++[m]) (all++[R]):=by
 obtain⟨l1,l2,h⟩:=h
 refine⟨by simp[l1],by simp[l2],fun j j0 j1=>?_⟩
 by_cases hj:j=(all.length:Int)
 ·rw[ir (t:=.sl (.sl af)) hj,ir (t:=.int .i64) (by rw[hj,l1,l2]),ir (t:=.sl ah) (by rw[hj,l1])]
  exact⟨h1,h2,h3,h4,h5⟩
 ·have hlt:j<(all.length:Int):=by simp at j1;omega
  rw[dX (t:=.sl (.sl af)) j0 hlt,dX (t:=.int .i64) j0 (by rw[l2,<-l1];exact hlt),dX (t:=.sl ah) j0 (by rw[<-l1];exact hlt)]
  exact h j j0 hlt
end M
end Go.AE
end
section
namespace Go.AE
open Go Go.RowKit
set_option linter.unusedVariables false
def M.gD (tables:List az.D) (plan:List aa.D) (rule at_:Int):Option (List aa.D):=cond (eR tables plan at_ rule).2 (some (tidy (eR tables plan at_ rule).1)) none
def M.fP (tables:List az.D) (plan:List aa.D) (rule:Int):Option (List aa.D):=gr (gD tables plan rule) (aP 0 (plan.length:Int))
def M.fy (tables:List az.D) (plan:List aa.D):Option (List aa.D):=gr (fP tables plan) (aP 1 8)
def M.better (tables:List az.D) (plan:List aa.D):List aa.D×Bool:=match fy tables plan with
 | some p=>(p,true)
 | none=>(plan,false)
def M.iS (tables:List az.D):Nat->List aa.D->List aa.D
 | 0,p=>p
 | n+1,p=>match fy tables p with
  | some q=>iS tables n q
  | none=>p
def M.cV (tables:List az.D) (plan:List aa.D):List aa.D:=cond (aQ tables plan) (iS tables 12 (tidy plan)) []
end Go.AE
end
section
namespace Go.AE
open Go Go.RowKit
set_option linter.unusedVariables false
def M.ay (b:List Int):Prop:=∀x∈b,0<=x/\x<=255
theorem Gm {a b:Int} (ha:0<=a) (ha':a<9223372036854775808) (hb:0<=b) (hb':b<9223372036854775808):0<=ou .xor .i64 a b:=by
 have h1:(BitVec.ofInt 64 a).toNat<2 ^ 63:=by rw[BitVec.toNat_ofInt];omega
 have h2:(BitVec.ofInt 64 b).toNat<2 ^ 63:=by rw[BitVec.toNat_ofInt];omega
 have h3:(BitVec.ofInt 64 a ^^^ BitVec.ofInt 64 b).toNat<2 ^ 63:=by
  rw[BitVec.toNat_xor]
  exact Nat.xor_lt_two_pow h1 h2
 show 0<=IntKind.i64.wrap (((BitVec.ofInt 64 a ^^^ BitVec.ofInt 64 b).toNat:Nat):Int)
 generalize (BitVec.ofInt 64 a ^^^ BitVec.ofInt 64 b).toNat=m at h3
 have e:((m:Int) % 2 ^ 64)=(m:Int):=by omega
 unfold IntKind.wrap
 simp only[show IntKind.i64.bits=64 from rfl,e]
 split
 ·rename_i h
  simp only[Bool.and_eq_true,decide_eq_true_eq] at h
  omega
 ·omega
theorem uG (xs:List Int):(strOf xs).size=xs.length:=by
 unfold strOf
 show (List.toArray _).size=_
 simp
theorem AO (a b:ByteArray):(a++b).size=a.size+b.size:=ByteArray.size_append
def M.eB (deep:Int):Nat:=if deep<=0 then 3 else if deep<=1 then 9 else if deep<=2 then 27 else 81
section
variable {α:Type} {P:α->Prop} {a b:List α} {x:α}
theorem all_nil:∀v∈([]:List α),P v:=fun _ h=>by cases h
theorem all_cons (h:P x) (hb:∀v∈b,P v):∀v∈x::b,P v:=fun v hv=>by
 rcases List.mem_cons.1 hv with rfl | hv
 ·exact h
 ·exact hb v hv
theorem JW (ha:∀v∈a,P v) (hb:∀v∈b,P v):∀v∈a++b,P v:=fun v hv=>(List.mem_append.1 hv).elim (ha v) (hb v)
theorem Ku {n:Nat} (ha:∀v∈a,P v) (h:P x):∀v∈a.set n x,P v:=fun v hv=>by
 rcases List.mem_or_eq_of_mem_set hv with hv | rfl
 ·exact ha v hv
 ·exact h
theorem JU {n:Nat} (ha:∀v∈a,P v):∀v∈a.take n,P v:=fun v hv=>ha v (List.mem_of_mem_take hv)
theorem Ag (l:Array UInt8):(⟨l⟩:ByteArray).size=l.size:=rfl
end
namespace M
theorem GS {d:Int}:3<=eB d/\eB d<=81:=by
 unfold eB
 repeat' split
 all_goals omega
theorem FT {d:Int} (h1:1<=d) (h3:d<=3):3 * eB (d-1)=eB d/\eB (d-2)<=eB (d-1):=by
 have:d=1\/d=2\/d=3:=by omega
 rcases this with rfl | rfl | rfl<;>decide
theorem Lw {d:Int} (h3:d<=3):1<=d->3 * eB (wrap64 (d-(1:Int)))<=eB d:=fun h1=>by
 rw[aH (by omega) (by omega),(FT h1 h3).1]
 exact Nat.le_refl _
theorem LB {d:Int} (h3:d<=3):1<=d->3 * eB (wrap64 (d-(2:Int)))<=eB d:=fun h1=>by
 rw[aH (by omega) (by omega),<-(FT h1 h3).1]
 exact Nat.mul_le_mul_left 3 (FT h1 h3).2
theorem bytes_of_fine {x:List Int} (h:xQ (.sl (.int .u8)) x):ay x:=fun n hn=>by
 have:=h.2 n hn
 unfold xQ Lit.wf at this
 simp only[Bool.and_eq_true,decide_eq_true_eq] at this
 exact this
theorem wW {b:List Int} (h:ay b) (i:Int):0<=nth (t:=.int .u8) b i/\nth (t:=.int .u8) b i<=255:=by
 unfold nth
 rw[List.getD_eq_getElem?_getD]
 cases he:b[i.toNat]? with
 | none=>exact⟨Int.le_refl _,by decide⟩
 | some x=>exact h x (List.mem_of_getElem? he)
theorem lG {t:Ty} (ht:t.bare=true) {xs:List t.D} {n:Nat} (h:xs.length<=n) (hn:n<=1048576):Sm (.sl t) xs:=⟨Nat.le_trans h hn,fun x _=>zn ht x⟩
theorem De {vs:List af.D} {n:Nat} (h:vs.length<=n) (hv:∀v∈vs,v.2.2.1.size<=20) (hn:n<=1048576):Sm (.sl af) vs:=⟨Nat.le_trans h hn,fun v hm=>⟨trivial,trivial,Nat.le_trans (hv v hm) (by decide),trivial⟩⟩
theorem Fe {vs:List ax.D} {n:Nat} (h:vs.length<=n) (hv:∀v∈vs,v.2.2.1.2.2.1.size<=20) (hn:n<=1048576):Sm (.sl ax) vs:=⟨Nat.le_trans h hn,fun v hm=>⟨trivial,trivial,⟨trivial,trivial,Nat.le_trans (hv v hm) (by decide),trivial⟩,trivial⟩⟩
def wP (w:List af.D):Prop:=w.length<=9/\∀v∈w,v.2.2.1.size<=20
def mT (t:az.D):Prop:=t.1.length<=6/\t.2.1.length<=6/\∀w∈t.2.1,wP w
def fZ (s:aa.D):Prop:=s.2.2.2.2.1.length<=81/\(∀v∈s.2.2.2.2.1,v.2.2.1.2.2.1.size<=20)/\s.2.2.2.2.2.1.length<=3
def gdD (g:mh.D):Prop:=g.2.1.length<=81/\∀v∈g.2.1,v.2.2.1.2.2.1.size<=20
theorem KE {w:List af.D} (h:w.length<=9) (h2:∀v∈w,v.2.2.1.size<=20):wP w:=⟨h,h2⟩
theorem JX {c:List ah.D} {r:List (List af.D)} (h:c.length<=6) (h2:r.length<=6) (h3:∀w∈r,wP w):mT (c,r,()):=⟨h,h2,h3⟩
theorem Jc {k a b n:Int} {e:List ax.D} {l:List Int} (h:e.length<=81) (h2:∀v∈e,v.2.2.1.2.2.1.size<=20) (h3:l.length<=3):fZ (k,a,b,n,e,l,()):=⟨h,h2,h3⟩
theorem HT {n:Int} {e:List ax.D} (h:e.length<=81) (h2:∀v∈e,v.2.2.1.2.2.1.size<=20):gdD (n,e,()):=⟨h,h2⟩
theorem vM {t:Ty} {P:t.D->Prop} {xs:List t.D} (h:∀x∈xs,P x) (hz:P t.zero) (i:Int):P (nth (t:=t) xs i):=by
 unfold nth
 rw[List.getD_eq_getElem?_getD]
 cases he:xs[i.toNat]? with
 | none=>exact hz
 | some x=>exact h x (List.mem_of_getElem? he)
theorem Bb {xs:List (List af.D)} (h:∀w∈xs,wP w) (i:Int):wP (nth (t:=.sl af) xs i):=vM (t:=.sl af) (P:=wP) h ⟨Nat.zero_le _,fun _ h=>by cases h⟩ i
theorem Le {w:List af.D} (h:wP w):Sm (.sl af) w:=De h.1 h.2 (by decide)
theorem qW {xs:List mh.D} (h:∀w∈xs,gdD w) (i:Int):gdD (nth (t:=mh) xs i):=vM (t:=mh) (P:=gdD) h ⟨Nat.zero_le _,fun _ h=>by cases h⟩ i
theorem kZ {xs:List (List ah.D)} (h:∀c∈xs,c.length<=6) (i:Int):(nth (t:=.sl ah) xs i:List ah.D).length<=6:=vM (t:=.sl ah) (P:=fun c:List ah.D=>c.length<=6) h (Nat.zero_le _) i
theorem Hi {α:Type} (xs:List α) (c:Option (Int×Int)):(aj xs c).length<=xs.length:=by
 cases c with
 | none=>exact Nat.le_refl _
 | some p=>
  unfold aj
  simp only[List.length_drop,List.length_take]
  omega
theorem Lb {α:Type} {xs:List α} {k:Int} (h0:0<=k) (h:k<=(xs.length:Int)):(aj xs (some ((0:Int),k))).length=k.toNat:=by
 unfold aj
 simp only[List.length_drop,List.length_take]
 omega
theorem Kq {α:Type} {P:α->Prop} {xs:List α} (h:∀x∈xs,P x) (c:Option (Int×Int)):∀x∈aj xs c,P x:=by
 intro x hx
 cases c with
 | none=>exact h x hx
 | some p=>exact h x (List.mem_of_mem_drop (List.mem_of_mem_take hx))
theorem Ke {ts:List az.D} (h:Sm (.sl az) ts) (i:Int):Sm (.sl ah) (nth (t:=az) ts i).1:=vM (t:=az) (P:=fun t:az.D=>Sm (.sl ah) t.1) (fun t hm=>(h.2 t hm).1) (iY _) i
theorem Di {xs:List (List ah.D)} {n:Nat} (h:xs.length<=n) (hc:∀c∈xs,c.length<=6) (hn:n<=1048576):Sm (.sl (.sl ah)) xs:=⟨Nat.le_trans h hn,fun c hm=>lG rfl (hc c hm) (by decide)⟩
theorem pT {xs:List aa.D} {n:Nat} (h:xs.length<=n) (hs:∀s∈xs,fZ s) (hn:n<=1048576):Sm (.sl aa) xs:=
 ⟨Nat.le_trans h hn,fun s hm=>⟨trivial,trivial,trivial,trivial,Fe (hs s hm).1 (hs s hm).2.1 (by decide),lG (t:=.int .i64) rfl (hs s hm).2.2 (by decide),trivial⟩⟩
theorem Hu {xs:List az.D} {n:Nat} (h:xs.length<=n) (hs:∀s∈xs,mT s) (hn:n<=1048576):Sm (.sl az) xs:=
 ⟨Nat.le_trans h hn,fun s hm=>⟨lG rfl (hs s hm).1 (by decide),⟨Nat.le_trans (hs s hm).2.1 (by decide),fun w hw=>De ((hs s hm).2.2 w hw).1 ((hs s hm).2.2 w hw).2 (by decide)⟩,trivial⟩⟩
theorem HF {xs:List mh.D} {n:Nat} (h:xs.length<=n) (hs:∀s∈xs,gdD s) (hn:n<=1048576):Sm (.sl mh) xs:=
 ⟨Nat.le_trans h hn,fun s hm=>⟨trivial,Fe (hs s hm).1 (hs s hm).2 (by decide),trivial⟩⟩
theorem jl1 {r:List (List ah.D)} (h:∀c∈r,c.length<=6) {i:Int}:(([]:List ah.D).length+(nth (t:=.sl ah) r i:List ah.D).length) * 16<=lim:=by
 have:=kZ h i
 simp only[List.length_nil,lim]
 omega
theorem jl2 {r:List (List ah.D)} (h:∀c∈r,c.length<=6) {i j:Int}:(([]++(nth (t:=.sl ah) r i:List ah.D)).length+(nth (t:=.sl ah) r j:List ah.D).length) * 16<=lim:=by
 have:=kZ h i
 have:=kZ h j
 simp only[List.nil_append,lim]
 omega
theorem jl3 {r:List (List ah.D)} (h:∀c∈r,c.length<=6) {i j:Int}:Sm (.sl ah) (([]++(nth (t:=.sl ah) r i:List ah.D))++(nth (t:=.sl ah) r j:List ah.D)):=by
 have:=kZ h i
 have:=kZ h j
 exact lG (n:=12) rfl (by simp only[List.nil_append,List.length_append];omega) (by decide)
theorem vB {a n:Int} (ha:0<=a) (hn:1<=n):0<=a.tmod n/\a.tmod n<n:=by
 rw[Int.tmod_eq_emod_of_nonneg ha]
 exact⟨Int.emod_nonneg _ (by omega),Int.emod_lt_of_pos _ (by omega)⟩
theorem GZ {a n:Int} (ha:0<=a) (hn:1<=n):0<=a.tdiv n/\a.tdiv n<=a:=by
 rw[Int.tdiv_eq_ediv_of_nonneg ha]
 exact⟨Int.ediv_nonneg ha (by omega),Int.ediv_le_self _ ha⟩
theorem HQ {u n:Int} (hu:0<=u/\u<=255) (hn:1<=n):0<=(wrap64 u).tmod n/\(wrap64 u).tmod n<n:=by
 rw[aH (n:=u) (by omega) (by omega)]
 exact vB hu.1 hn
theorem IQ {u v p q n:Int} (hu:0<=u/\u<=255) (hv:0<=v/\v<=255) (p0:0<=p) (p1:p<=1000000000000000) (hq:0<=q/\q<=p) (hn:1<=n) :
  0<=(ou .xor .i64 (wrap64 (wrap64 (wrap64 (wrap64 ((wrap64 u) * (131:Int))+wrap64 ((wrap64 v) * (1117:Int)))+wrap64 (p * (29:Int)))+wrap64 ((wrap64 q) * (53:Int)))) (wrap64 ((wrap64 (wrap64 (wrap64 (wrap64 ((wrap64 u) * (131:Int))+wrap64 ((wrap64 v) * (1117:Int)))+wrap64 (p * (29:Int)))+wrap64 ((wrap64 q) * (53:Int)))).tdiv (64:Int)))).tmod n ∧
  (ou .xor .i64 (wrap64 (wrap64 (wrap64 (wrap64 ((wrap64 u) * (131:Int))+wrap64 ((wrap64 v) * (1117:Int)))+wrap64 (p * (29:Int)))+wrap64 ((wrap64 q) * (53:Int)))) (wrap64 ((wrap64 (wrap64 (wrap64 (wrap64 ((wrap64 u) * (131:Int))+wrap64 ((wrap64 v) * (1117:Int)))+wrap64 (p * (29:Int)))+wrap64 ((wrap64 q) * (53:Int)))).tdiv (64:Int)))).tmod n<n:=by
 have e:wrap64 (wrap64 (wrap64 (wrap64 ((wrap64 u) * (131:Int))+wrap64 ((wrap64 v) * (1117:Int)))+wrap64 (p * (29:Int)))+wrap64 ((wrap64 q) * (53:Int)))=u * 131+v * 1117+p * 29+q * 53:=by
  rw[aH (n:=u) (by omega) (by omega),aH (n:=v) (by omega) (by omega),aH (n:=q) (by omega) (by omega),aH (n:=u * 131) (by omega) (by omega),aH (n:=v * 1117) (by omega) (by omega),aH (n:=p * 29) (by omega) (by omega),aH (n:=q * 53) (by omega) (by omega),aH (n:=u * 131+v * 1117) (by omega) (by omega),aH (n:=u * 131+v * 1117+p * 29) (by omega) (by omega),aH (by omega) (by omega)]
 rw[e]
 generalize hA:u * 131+v * 1117+p * 29+q * 53=A
 have a0:0<=A:=by omega
 have a1:A<9223372036854775808:=by omega
 obtain⟨d0,d1⟩:=GZ (n:=64) a0 (by decide)
 rw[aH (n:=A.tdiv 64) (by omega) (by omega)]
 exact vB (Gm a0 a1 d0 (by omega)) hn
theorem IX {xs:List ByteArray} {k:Nat} (h:xs.all (fun s=>decide (s.size<=k))=true) (i:Int):(nth (t:=Ty.str) xs i:ByteArray).size<=k:=by
 unfold nth
 rw[List.getD_eq_getElem?_getD]
 cases he:xs[i.toNat]? with
 | none=>exact Nat.zero_le _
 | some x=>exact of_decide_eq_true (List.all_eq_true.1 h x (List.mem_of_getElem? he))
theorem HE {b:List Int} (h:ay b) (c:Option (Int×Int)):ay (aj b c):=by
 intro x hx
 cases c with
 | none=>exact h x hx
 | some p=>exact h x (List.mem_of_mem_drop (List.mem_of_mem_take hx))
end M
theorem M.LJ {x n:Int} (h0:0<=x) (h1:1<=n) (h2:n<=6):0<=wrap64 ((1:Int)+x.tmod n)/\wrap64 ((1:Int)+x.tmod n)<=n:=by
 have:=M.vB h0 h1
 rw[aH (by omega) (by omega)]
 omega
theorem M.KV {x n:Int} (h0:0<=x) (h1:x<5) (n1:1<=n) (n6:n<=6):-1<=wrap64 (wrap64 (n-(1:Int))-(wrap64 (x.tdiv (4:Int))))/\wrap64 (wrap64 (n-(1:Int))-(wrap64 (x.tdiv (4:Int))))<=n-1:=by
 have:0<=x.tdiv 4/\x.tdiv 4<=1:=by
  rw[Int.tdiv_eq_ediv_of_nonneg h0]
  omega
 rw[aH (n:=x.tdiv 4) (by omega) (by omega),aH (n:=n-1) (by omega) (by omega),aH (by omega) (by omega)]
 omega
theorem cl {p:Prop} (h:p:=by ((try dsimp only);(repeat' (first | assumption | exact all_nil | refine all_cons ?_ ?_ | refine JW ?_ ?_ | refine Ku ?_ ?_ | refine JU ?_ | refine M.Kq ?_ _ | refine M.KE ?_ ?_ | refine M.JX ?_ ?_ ?_ | refine M.Jc ?_ ?_ ?_ | refine M.HT ?_ ?_ | exact M.Bb (by assumption) _ | exact M.qW (by assumption) _ | exact(M.qW (by assumption) _).1 | exact(M.qW (by assumption) _).2 | exact Nat.le_trans (M.Hi _ _) (by omega) | exact Nat.le_trans (M.Hi _ _) (M.qW (by assumption) _).1 | decide | omega | (dsimp only;first | assumption | omega | decide)));done)):p:=h
theorem au {p:Prop} (h:p:=by first | assumption | omega | decide | trivial | (dsimp only;first | assumption | omega | decide) | (simp only[AO,Ag,uG,List.size_toArray,List.length_cons,List.length_nil,List.length_append,List.length_take,List.length_set,List.length_replicate];omega) | (simp only[AO,Ag,uG,List.size_toArray,List.length_cons,List.length_nil,List.length_append,List.length_take,List.length_set,List.length_replicate,lim];omega) | (simp only[AO,Ag,uG,List.size_toArray,List.length_cons,List.length_nil,List.length_append,List.length_take,List.length_set,List.length_replicate,lim,wrap64];omega) | exact M.lG rfl (by assumption) (by decide) | exact M.De (by assumption) (by assumption) (by decide) | exact M.HE (by assumption) _ | exact jz (by assumption) _ | exact iY _ | exact Nat.le_trans (M.IX (k:=2) rfl _) (by decide) | exact(M.LJ (by assumption) (by omega) (by omega)).1 | exact(M.LJ (by assumption) (by omega) (by omega)).2 | exact jz (M.lG rfl (by assumption) (by decide)) _ | exact fun _=>rfl | (intro _;omega) | exact M.Le (M.Bb (by assumption) _) | exact M.Ke (by assumption) _ | exact M.jl1 (by assumption) | exact M.jl2 (by assumption) | exact M.jl3 (by assumption) | exact M.lG rfl (M.kZ (by assumption) _) (by decide) | exact M.Di (by assumption) (by assumption) (by decide) | exact M.Hu (by assumption) (by assumption) (by decide) | exact M.HF (by assumption) (by assumption) (by decide) | exact M.pT (n:=1000) (by first | omega | (simp only[List.length_append,List.length_cons,List.length_nil];omega)) (by exact cl) (by decide) | exact cl):p:=h
section
variable {α β σ ρ τ ε:Type} {K:α->Prop}
theorem okG {p:Prop} {x:Option α} (k:ok x K) (h:p:=by exact au):ok (ag p x) K:=by rw[ai h];exact k
theorem okL {γ:Type} {x:γ} {f:γ->Option α} (k:∀r,r=x->ok (f r) K):ok (aJ x f) K:=k x rfl
theorem okC {b:Bool} {x y:Option α} (h1:b=true->ok x K) (h2:b=false->ok y K):ok (cond b x y) K:=by
 cases b
 ·exact h2 rfl
 ·exact h1 rfl
theorem okD {p:Prop} [Decidable p] {x y:Option α} (h1:p->ok x K) (h2:¬p->ok y K):ok (cond (decide p) x y) K:=okC (fun h=>h1 (of_decide_eq_true h)) (fun h=>h2 (of_decide_eq_false h))
theorem Da {p:Prop} [Decidable p] {x y:Option α} (h1:p->ok x K) (h2:¬p->ok y K):ok (cond (decide p==true) x y) K:=okC (fun h=>h1 (by simpa using h)) (fun h=>h2 (by simpa using h))
theorem LH {p:Prop} [Decidable p] {x y:Option α} (h1:¬p->ok x K) (h2:p->ok y K):ok (cond (decide p==false) x y) K:=okC (fun h=>h1 (by simpa using h)) (fun h=>h2 (by simpa using h))
theorem okS {x:α} (h:K x):ok (some x) K:=h
theorem okN {K:α->Prop} (h:False:=by first | omega | simp_all):ok (none:Option α) K:=h.elim
theorem tB {x:α} {P Q R:α->Prop} (h0:P x:=by exact au) (h1:Q x:=by exact au) (h2:R x:=by exact au):ok (some x) (fun r=>P r/\Q r/\R r):=⟨h0,h1,h2⟩
theorem Fa {x:α} {P Q R S:α->Prop} (h0:P x:=by exact au) (h1:Q x:=by exact au) (h2:R x:=by exact au) (h3:S x:=by exact au):ok (some x) (fun r=>P r/\Q r/\R r/\S r):=⟨h0,h1,h2,h3⟩
theorem zF {x:α} {P Q R S T:α->Prop} (h0:P x:=by exact au) (h1:Q x:=by exact au) (h2:R x:=by exact au) (h3:S x:=by exact au) (h4:T x:=by exact au):ok (some x) (fun r=>P r/\Q r/\R r/\S r/\T r):=⟨h0,h1,h2,h3,h4⟩
theorem Lx {x:α} {P Q R S T U:α->Prop} (h0:P x:=by exact au) (h1:Q x:=by exact au) (h2:R x:=by exact au) (h3:S x:=by exact au) (h4:T x:=by exact au) (h5:U x:=by exact au):ok (some x) (fun r=>P r/\Q r/\R r/\S r/\T r/\U r):=⟨h0,h1,h2,h3,h4,h5⟩
theorem LF {x:α} {P Q R S T U V W:α->Prop} (h0:P x:=by exact au) (h1:Q x:=by exact au) (h2:R x:=by exact au) (h3:S x:=by exact au) (h4:T x:=by exact au) (h5:U x:=by exact au) (h6:V x:=by exact au) (h7:W x:=by exact au):ok (some x) (fun r=>P r/\Q r/\R r/\S r/\T r/\U r/\V r/\W r):=⟨h0,h1,h2,h3,h4,h5,h6,h7⟩
theorem eI {f:σ->Prop} {g:ρ->Prop} {s:σ} (h:f s):ok (some (.inl s:Sum σ ρ)) (bg f g):=h
theorem di {f:σ->Prop} {g:ρ->Prop} {r:ρ} (h:g r):ok (some (.inr r:Sum σ ρ)) (bg f g):=h
theorem Af {f:σ->Prop} {A:ε->Prop} {B:ρ->Prop} {r:ε} (h:A r):ok (some (.inr (.inl r):Sum σ (Sum ε ρ))) (bg f (bg A B)):=h
theorem FQ {f:σ->Prop} {A:ε->Prop} {B:ρ->Prop} {r:ρ} (h:B r):ok (some (.inr (.inr r):Sum σ (Sum ε ρ))) (bg f (bg A B)):=h
theorem okT {o:Option (Sum σ ρ)} {f:σ->Option α} {g:ρ->Option α} {A:σ->Prop} {B:ρ->Prop} (h:ok o (bg A B)) (ha:∀s,A s->ok (f s) K) (hb:∀r,B r->ok (g r) K):ok (bu o f g) K:=by
 cases o with
 | none=>exact h.elim
 | some z=>
  cases z with
  | inl s=>exact ha s h
  | inr r=>exact hb r h
theorem okB {γ:Type} {o:Option γ} {f:γ->Option α} {A:γ->Prop} (h:ok o A) (ha:∀x,A x->ok (f x) K):ok (Option.bind o f) K:=by
 cases o with
 | none=>exact h.elim
 | some z=>exact ha z h
theorem okW {f:σ->Option (Sum σ ρ)} {R:ρ->Prop} (I:Nat->σ->Prop) (h:∀n s,I n s->ok (f s) (bg (fun s'=>∃m,m<n/\I m s') R)):∀(n:Nat) (s:σ),I n s->ok (ck f s) R:=by
 intro n
 induction n using Nat.strongRecOn with
 | ind n ih=>
  intro s hs
  rw[ct]
  refine okT (h n s hs) (fun s' ⟨m,hm,hi⟩=>ih m hm s' hi) (fun r hr=>okS hr)
theorem okE {f:α->σ->Option (Sum σ ρ)} {R:ρ->Prop} (I:Nat->σ->Prop):∀(xs:List α) (n:Nat) (s:σ),I n s->(∀x∈xs,∀(k:Nat) (s:σ),n<=k->k<n+xs.length->I k s->ok (f x s) (bg (I (k+1)) R))->ok (aO f xs s) (bg (I (n+xs.length)) R)
 | [],n,s,hs,_=>hs
 | x::xs,n,s,hs,h=>by
  show ok (bu (f x s) _ _) _
  refine okT (h x List.mem_cons_self n s (Nat.le_refl _) (by simp) hs) (fun s' hs'=>?_) (fun r hr=>okS hr)
  have:=okE I xs (n+1) s' hs' (fun y hy k s hk hl hi=>h y (List.mem_cons_of_mem _ hy) k s (by omega) (by simp;omega) hi)
  rw[List.length_cons,show n+(xs.length+1)=n+1+xs.length by omega]
  exact this
theorem iQ {o:Option α} {d:α} (h:ok o K):o=some (o.getD d):=by
 cases o with
 | none=>exact h.elim
 | some x=>rfl
theorem iT {o:Option α} {d:α} (h:ok o K):K (o.getD d):=by
 cases o with
 | none=>exact h.elim
 | some x=>exact h
theorem Lg {f:α->σ->Option (Sum σ ρ)} {R:ρ->Prop} (I:Nat->σ->Prop) {xs:List α} {s:σ} (h0:I 0 s) (h:∀x∈xs,∀(k:Nat) (s:σ),k<xs.length->I k s->ok (f x s) (bg (I (k+1)) R)):ok (aO f xs s) (bg (I xs.length) R):=by
 have:=okE (R:=R) I xs 0 s h0 (fun x hx k s _ hk hi=>h x hx k s (by omega) hi)
 rw[Nat.zero_add] at this
 exact this
end
end Go.AE
end
section
namespace Go.AE
open Go Go.RowKit
set_option linter.unusedVariables false
namespace M
theorem DU {tables:List az.D} {ahead:List (List ah.D)} {s:aa.D} {c:List ah.D} (ht:∀t∈tables,mT t) (ha:∀x∈ahead,x.length<=6) (h:bF tables ahead s=some c):c.length<=6:=by
 have hn:=fun i=>kZ ha i
 unfold bF at h
 obtain⟨_,h⟩:=aG h
 cases h1:decide (s.1=(1:Int)) with
 | true=>
  rw[h1,cond_true] at h
  obtain⟨_,h⟩:=aG h
  cases h
  exact(vM (t:=az) (P:=mT) ht ⟨Nat.zero_le _,Nat.zero_le _,fun _ h=>by cases h⟩ _).1
 | false=>
  rw[h1,cond_false] at h
  obtain⟨_,h⟩:=aG h
  cases h2:decide (s.1=(2:Int)) with
  | true=>
   rw[h2,cond_true] at h
   obtain⟨_,h⟩:=aG h
   cases h
   exact hn _
  | false=>
   rw[h2,cond_false] at h
   cases h3:decide (s.1=(3:Int)) with
   | true=>
    rw[h3,cond_true] at h
    obtain⟨hb,h⟩:=aG h
    cases h
    have:=of_decide_eq_true (Bool.and_eq_true_iff.1 hb).2
    rw[List.length_map]
    omega
   | false=>
    rw[h3,cond_false] at h
    cases h4:decide (s.1=(4:Int)) with
    | true=>
     rw[h4,cond_true] at h
     obtain⟨hb,h⟩:=aG h
     cases h
     have:=of_decide_eq_true (Bool.and_eq_true_iff.1 hb).1
     omega
    | false=>
     rw[h4,cond_false] at h
     cases h5:decide (s.1=(5:Int)) with
     | true=>
      rw[h5,cond_true] at h
      unfold both at h
      obtain⟨_,h⟩:=aG h
      rw[jH h]
      exact hn _
     | false=>
      rw[h5,cond_false] at h
      obtain⟨_,h⟩:=aG h
      cases h
      exact hn _
theorem Cz {tables:List az.D} (ht:∀t∈tables,mT t):∀(xs:List aa.D) (st st':eP),(∀x∈st.1,x.length<=6)->cS (bH tables) xs st=some st'->∀x∈st'.1,x.length<=6
 | [],st,st',ha,h=>by cases h;exact ha
 | x::xs,st,st',ha,h=>by
  unfold cS at h
  cases hp:bH tables st x with
  | none=>rw[hp] at h;cases h
  | some st1=>
   rw[hp] at h
   obtain⟨c,hc,_,rfl⟩:=fK hp
   refine Cz ht xs _ st' (fun y hy=>?_) h
   rcases List.mem_append.1 hy with hy | hy
   ·exact ha y hy
   ·rw[List.mem_singleton.1 hy]
    exact DU ht ha hc
theorem yp {tables:List az.D}:∀(xs:List aa.D) (st st':eP),cS (bH tables) xs st=some st'->st'.1.length=st.1.length+xs.length
 | [],st,st',h=>by cases h;exact(Nat.add_zero _).symm
 | x::xs,st,st',h=>by
  unfold cS at h
  cases hp:bH tables st x with
  | none=>rw[hp] at h;cases h
  | some st1=>
   rw[hp] at h
   obtain⟨c,_,_,rfl⟩:=fK hp
   rw[yp xs _ st' h]
   simp
   omega
theorem yb {tables:List az.D} {plan:List aa.D} {r:List (List ah.D)×Bool} (e:r=aX tables plan) (h:(!r.2)=false):r.1.length=plan.length:=by
 subst e
 unfold aX fO at *
 cases hr:cS (bH tables) plan ([],[]) with
 | none=>rw[hr] at h;cases h
 | some st=>
  have:=yp plan _ st hr
  simpa using this
theorem vb {tables:List az.D} {plan:List aa.D} {r:List (List ah.D)×Bool} (ht:∀t∈tables,mT t) (e:r=aX tables plan):∀c∈r.1,c.length<=6:=by
 subst e
 unfold aX fO
 cases hr:cS (bH tables) plan ([],[]) with
 | none=>intro c h;cases h
 | some st=>exact Cz ht plan ([],[]) st (fun _ h=>by cases h) hr
end M
end Go.AE
end
