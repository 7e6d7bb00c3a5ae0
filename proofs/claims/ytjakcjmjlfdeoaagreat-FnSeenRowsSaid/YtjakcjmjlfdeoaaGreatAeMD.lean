/- How it is shown that a function's value is there, and what holds of it: plain Lean. -/
import Derived.Test.YtjakcjmjlfdeoaaGreatAeMQ
import Derived.Test.YtjakcjmjlfdeoaaGreatAeInl
section
namespace Go.AE
open Go Go.RowKit
set_option linter.unusedVariables false
def M.ay (b:List Int):Prop:=∀x∈b,0<=x/\x<=255
theorem ER {a b:Int} (ha:0<=a) (ha':a<9223372036854775808) (hb:0<=b) (hb':b<9223372036854775808):0<=nE .xor .i64 a b:=by
 have h1:(BitVec.ofInt 64 a).toNat<2 ^ 63:=by rw[BitVec.toNat_ofInt];omega
 have h2:(BitVec.ofInt 64 b).toNat<2 ^ 63:=by rw[BitVec.toNat_ofInt];omega
 have h3:(BitVec.ofInt 64 a ^^^ BitVec.ofInt 64 b).toNat<2 ^ 63:=by
  rw[BitVec.toNat_xor]
  exact Nat.xor_lt_two_pow h1 h2
 show 0<=IntKind.i64.wrap (((BitVec.ofInt 64 a ^^^ BitVec.ofInt 64 b).toNat:Nat):Int)
 generalize (BitVec.ofInt 64 a ^^^ BitVec.ofInt 64 b).toNat=m at h3
 have e:((m:Int) % 2 ^ 64)=(m:Int):=by omega
 unfold IntKind.wrap
 simp only[show IntKind.i64.bits=64 from rfl,e]
 split
 ·rename_i h
  simp only[Bool.and_eq_true,decide_eq_true_eq] at h
  omega
 ·omega
theorem uc (xs:List Int):(strOf xs).size=xs.length:=by
 unfold strOf
 show (List.toArray _).size=_
 simp
theorem Ay (a b:ByteArray):(a++b).size=a.size+b.size:=ByteArray.size_append
def M.eB (deep:Int):Nat:=if deep<=0 then 3 else if deep<=1 then 9 else if deep<=2 then 27 else 81
section
variable {α:Type} {P:α->Prop} {a b:List α} {x:α}
theorem all_nil:∀v∈([]:List α),P v:=fun _ h=>by cases h
theorem all_cons (h:P x) (hb:∀v∈b,P v):∀v∈x::b,P v:=fun v hv=>by
 rcases List.mem_cons.1 hv with rfl | hv
 ·exact h
 ·exact hb v hv
theorem IA (ha:∀v∈a,P v) (hb:∀v∈b,P v):∀v∈a++b,P v:=fun v hv=>(List.mem_append.1 hv).elim (ha v) (hb v)
theorem Io {n:Nat} (ha:∀v∈a,P v) (h:P x):∀v∈a.set n x,P v:=fun v hv=>by
 rcases List.mem_or_eq_of_mem_set hv with hv | rfl
 ·exact ha v hv
 ·exact h
theorem HU {n:Nat} (ha:∀v∈a,P v):∀v∈a.take n,P v:=fun v hv=>ha v (List.mem_of_mem_take hv)
theorem zC (l:Array UInt8):(⟨l⟩:ByteArray).size=l.size:=rfl
end
namespace M
theorem FM {d:Int}:3<=eB d/\eB d<=81:=by
 unfold eB
 repeat' split
 all_goals omega
theorem Fc {d:Int} (h1:1<=d) (h3:d<=3):3 * eB (d-1)=eB d/\eB (d-2)<=eB (d-1):=by
 have:d=1\/d=2\/d=3:=by omega
 rcases this with rfl | rfl | rfl<;>decide
theorem JG {d:Int} (h3:d<=3):1<=d->3 * eB (wrap64 (d-(1:Int)))<=eB d:=fun h1=>by
 rw[aJ (by omega) (by omega),(Fc h1 h3).1]
 exact Nat.le_refl _
theorem JL {d:Int} (h3:d<=3):1<=d->3 * eB (wrap64 (d-(2:Int)))<=eB d:=fun h1=>by
 rw[aJ (by omega) (by omega),<-(Fc h1 h3).1]
 exact Nat.mul_le_mul_left 3 (Fc h1 h3).2
theorem bytes_of_fine {x:List Int} (h:wP (.sl (.int .u8)) x):ay x:=fun n hn=>by
 have:=h.2 n hn
 unfold wP Lit.wf at this
 simp only[Bool.and_eq_true,decide_eq_true_eq] at this
 exact this
theorem xk {b:List Int} (h:ay b) (i:Int):0<=nth (t:=.int .u8) b i/\nth (t:=.int .u8) b i<=255:=by
 unfold nth
 rw[List.getD_eq_getElem?_getD]
 cases he:b[i.toNat]? with
 | none=>exact⟨Int.le_refl _,by decide⟩
 | some x=>exact h x (List.mem_of_getElem? he)
theorem lV {t:Ty} (ht:t.bare=true) {xs:List t.D} {n:Nat} (h:xs.length<=n) (hn:n<=1048576):Sm (.sl t) xs:=⟨Nat.le_trans h hn,fun x _=>yV ht x⟩
theorem CT {vs:List aa.D} {n:Nat} (h:vs.length<=n) (hv:∀v∈vs,v.2.2.1.size<=20) (hn:n<=1048576):Sm (.sl aa) vs:=⟨Nat.le_trans h hn,fun v hm=>⟨trivial,trivial,Nat.le_trans (hv v hm) (by decide),trivial⟩⟩
theorem DA {vs:List aC.D} {n:Nat} (h:vs.length<=n) (hv:∀v∈vs,v.2.2.1.2.2.1.size<=20) (hn:n<=1048576):Sm (.sl aC) vs:=⟨Nat.le_trans h hn,fun v hm=>⟨trivial,trivial,⟨trivial,trivial,Nat.le_trans (hv v hm) (by decide),trivial⟩,trivial⟩⟩
def wI (w:List aa.D):Prop:=w.length<=9/\∀v∈w,v.2.2.1.size<=20
def mc (t:aq.D):Prop:=t.1.length<=6/\t.2.1.length<=6/\∀w∈t.2.1,wI w
def iM (s:ah.D):Prop:=s.2.2.2.2.1.length<=81/\(∀v∈s.2.2.2.2.1,v.2.2.1.2.2.1.size<=20)/\s.2.2.2.2.2.1.length<=3
def gdD (g:aB.D):Prop:=g.2.1.length<=81/\∀v∈g.2.1,v.2.2.1.2.2.1.size<=20
theorem Iq {w:List aa.D} (h:w.length<=9) (h2:∀v∈w,v.2.2.1.size<=20):wI w:=⟨h,h2⟩
theorem Ij {c:List ag.D} {r:List (List aa.D)} (h:c.length<=6) (h2:r.length<=6) (h3:∀w∈r,wI w):mc (c,r,()):=⟨h,h2,h3⟩
theorem Hs {k a b n:Int} {e:List aC.D} {l:List Int} (h:e.length<=81) (h2:∀v∈e,v.2.2.1.2.2.1.size<=20) (h3:l.length<=3):iM (k,a,b,n,e,l,()):=⟨h,h2,h3⟩
theorem GG {n:Int} {e:List aC.D} (h:e.length<=81) (h2:∀v∈e,v.2.2.1.2.2.1.size<=20):gdD (n,e,()):=⟨h,h2⟩
theorem vB {t:Ty} {P:t.D->Prop} {xs:List t.D} (h:∀x∈xs,P x) (hz:P t.zero) (i:Int):P (nth (t:=t) xs i):=by
 unfold nth
 rw[List.getD_eq_getElem?_getD]
 cases he:xs[i.toNat]? with
 | none=>exact hz
 | some x=>exact h x (List.mem_of_getElem? he)
theorem Ah {xs:List (List aa.D)} (h:∀w∈xs,wI w) (i:Int):wI (nth (t:=.sl aa) xs i):=vB (t:=.sl aa) (P:=wI) h ⟨Nat.zero_le _,fun _ h=>by cases h⟩ i
theorem Jp {w:List aa.D} (h:wI w):Sm (.sl aa) w:=CT h.1 h.2 (by decide)
theorem qA {xs:List aB.D} (h:∀w∈xs,gdD w) (i:Int):gdD (nth (t:=aB) xs i):=vB (t:=aB) (P:=gdD) h ⟨Nat.zero_le _,fun _ h=>by cases h⟩ i
theorem lZ {xs:List (List ag.D)} (h:∀c∈xs,c.length<=6) (i:Int):(nth (t:=.sl ag) xs i:List ag.D).length<=6:=vB (t:=.sl ag) (P:=fun c:List ag.D=>c.length<=6) h (Nat.zero_le _) i
theorem CK {α:Type} (xs:List α) (c:Option (Int×Int)):(aj xs c).length<=xs.length:=by
 cases c with
 | none=>exact Nat.le_refl _
 | some p=>
  unfold aj
  simp only[List.length_drop,List.length_take]
  omega
theorem It {α:Type} {xs:List α} {k:Int} (h0:0<=k) (h:1<=xs.length) (hk:1<=k):1<=(aj xs (some ((0:Int),k))).length:=by
 unfold aj
 simp only[List.length_drop,List.length_take]
 omega
theorem IL {α:Type} {P:α->Prop} {xs:List α} (h:∀x∈xs,P x) (c:Option (Int×Int)):∀x∈aj xs c,P x:=by
 intro x hx
 cases c with
 | none=>exact h x hx
 | some p=>exact h x (List.mem_of_mem_drop (List.mem_of_mem_take hx))
theorem Is {ts:List aq.D} (h:Sm (.sl aq) ts) (i:Int):Sm (.sl ag) (nth (t:=aq) ts i).1:=vB (t:=aq) (P:=fun t:aq.D=>Sm (.sl ag) t.1) (fun t hm=>(h.2 t hm).1) (fY _) i
theorem Cz {xs:List (List ag.D)} {n:Nat} (h:xs.length<=n) (hc:∀c∈xs,c.length<=6) (hn:n<=1048576):Sm (.sl (.sl ag)) xs:=⟨Nat.le_trans h hn,fun c hm=>lV rfl (hc c hm) (by decide)⟩
theorem sj {xs:List ah.D} {n:Nat} (h:xs.length<=n) (hs:∀s∈xs,iM s) (hn:n<=1048576):Sm (.sl ah) xs:=
 ⟨Nat.le_trans h hn,fun s hm=>⟨trivial,trivial,trivial,trivial,DA (hs s hm).1 (hs s hm).2.1 (by decide),lV (t:=.int .i64) rfl (hs s hm).2.2 (by decide),trivial⟩⟩
theorem FR {xs:List aq.D} {n:Nat} (h:xs.length<=n) (hs:∀s∈xs,mc s) (hn:n<=1048576):Sm (.sl aq) xs:=
 ⟨Nat.le_trans h hn,fun s hm=>⟨lV rfl (hs s hm).1 (by decide),⟨Nat.le_trans (hs s hm).2.1 (by decide),fun w hw=>CT ((hs s hm).2.2 w hw).1 ((hs s hm).2.2 w hw).2 (by decide)⟩,trivial⟩⟩
theorem BU {xs:List aB.D} {n:Nat} (h:xs.length<=n) (hs:∀s∈xs,gdD s) (hn:n<=1048576):Sm (.sl aB) xs:=
 ⟨Nat.le_trans h hn,fun s hm=>⟨trivial,DA (hs s hm).1 (hs s hm).2 (by decide),trivial⟩⟩
theorem jl1 {r:List (List ag.D)} (h:∀c∈r,c.length<=6) {i:Int}:(([]:List ag.D).length+(nth (t:=.sl ag) r i:List ag.D).length) * 16<=lim:=by
 have:=lZ h i
 simp only[List.length_nil,lim]
 omega
theorem jl2 {r:List (List ag.D)} (h:∀c∈r,c.length<=6) {i j:Int}:(([]++(nth (t:=.sl ag) r i:List ag.D)).length+(nth (t:=.sl ag) r j:List ag.D).length) * 16<=lim:=by
 have:=lZ h i
 have:=lZ h j
 simp only[List.nil_append,lim]
 omega
theorem jl3 {r:List (List ag.D)} (h:∀c∈r,c.length<=6) {i j:Int}:Sm (.sl ag) (([]++(nth (t:=.sl ag) r i:List ag.D))++(nth (t:=.sl ag) r j:List ag.D)):=by
 have:=lZ h i
 have:=lZ h j
 exact lV (n:=12) rfl (by simp only[List.nil_append,List.length_append];omega) (by decide)
theorem vL {a n:Int} (ha:0<=a) (hn:1<=n):0<=a.tmod n/\a.tmod n<n:=by
 rw[Int.tmod_eq_emod_of_nonneg ha]
 exact⟨Int.emod_nonneg _ (by omega),Int.emod_lt_of_pos _ (by omega)⟩
theorem FG {a n:Int} (ha:0<=a) (hn:1<=n):0<=a.tdiv n/\a.tdiv n<=a:=by
 rw[Int.tdiv_eq_ediv_of_nonneg ha]
 exact⟨Int.ediv_nonneg ha (by omega),Int.ediv_le_self _ ha⟩
theorem Gk {u n:Int} (hu:0<=u/\u<=255) (hn:1<=n):0<=(wrap64 u).tmod n/\(wrap64 u).tmod n<n:=by
 rw[aJ (n:=u) (by omega) (by omega)]
 exact vL hu.1 hn
theorem HX {u v p q n:Int} (hu:0<=u/\u<=255) (hv:0<=v/\v<=255) (p0:0<=p) (p1:p<=1000000000000000) (hq:0<=q/\q<=p) (hn:1<=n) :
  0<=(nE .xor .i64 (wrap64 (wrap64 (wrap64 (wrap64 ((wrap64 u) * (131:Int))+wrap64 ((wrap64 v) * (1117:Int)))+wrap64 (p * (29:Int)))+wrap64 ((wrap64 q) * (53:Int)))) (wrap64 ((wrap64 (wrap64 (wrap64 (wrap64 ((wrap64 u) * (131:Int))+wrap64 ((wrap64 v) * (1117:Int)))+wrap64 (p * (29:Int)))+wrap64 ((wrap64 q) * (53:Int)))).tdiv (64:Int)))).tmod n ∧
  (nE .xor .i64 (wrap64 (wrap64 (wrap64 (wrap64 ((wrap64 u) * (131:Int))+wrap64 ((wrap64 v) * (1117:Int)))+wrap64 (p * (29:Int)))+wrap64 ((wrap64 q) * (53:Int)))) (wrap64 ((wrap64 (wrap64 (wrap64 (wrap64 ((wrap64 u) * (131:Int))+wrap64 ((wrap64 v) * (1117:Int)))+wrap64 (p * (29:Int)))+wrap64 ((wrap64 q) * (53:Int)))).tdiv (64:Int)))).tmod n<n:=by
 have e:wrap64 (wrap64 (wrap64 (wrap64 ((wrap64 u) * (131:Int))+wrap64 ((wrap64 v) * (1117:Int)))+wrap64 (p * (29:Int)))+wrap64 ((wrap64 q) * (53:Int)))=u * 131+v * 1117+p * 29+q * 53:=by
  rw[aJ (n:=u) (by omega) (by omega),aJ (n:=v) (by omega) (by omega),aJ (n:=q) (by omega) (by omega),aJ (n:=u * 131) (by omega) (by omega),aJ (n:=v * 1117) (by omega) (by omega),aJ (n:=p * 29) (by omega) (by omega),aJ (n:=q * 53) (by omega) (by omega),aJ (n:=u * 131+v * 1117) (by omega) (by omega),aJ (n:=u * 131+v * 1117+p * 29) (by omega) (by omega),aJ (by omega) (by omega)]
 rw[e]
 generalize hA:u * 131+v * 1117+p * 29+q * 53=A
 have a0:0<=A:=by omega
 have a1:A<9223372036854775808:=by omega
 obtain⟨d0,d1⟩:=FG (n:=64) a0 (by decide)
 rw[aJ (n:=A.tdiv 64) (by omega) (by omega)]
 exact vL (ER a0 a1 d0 (by omega)) hn
theorem HY {xs:List ByteArray} {k:Nat} (h:xs.all (fun s=>decide (s.size<=k))=true) (i:Int):(nth (t:=Ty.str) xs i:ByteArray).size<=k:=by
 unfold nth
 rw[List.getD_eq_getElem?_getD]
 cases he:xs[i.toNat]? with
 | none=>exact Nat.zero_le _
 | some x=>exact of_decide_eq_true (List.all_eq_true.1 h x (List.mem_of_getElem? he))
theorem Gg {b:List Int} (h:ay b) (c:Option (Int×Int)):ay (aj b c):=by
 intro x hx
 cases c with
 | none=>exact h x hx
 | some p=>exact h x (List.mem_of_mem_drop (List.mem_of_mem_take hx))
end M
theorem M.JF {x n:Int} (h0:0<=x) (h1:1<=n) (h2:n<=6):0<=wrap64 ((1:Int)+x.tmod n)/\wrap64 ((1:Int)+x.tmod n)<=n:=by
 have:=M.vL h0 h1
 rw[aJ (by omega) (by omega)]
 omega
theorem M.Jd {x n:Int} (h0:0<=x) (h1:x<5) (n1:1<=n) (n6:n<=6):-1<=wrap64 (wrap64 (n-(1:Int))-(wrap64 (x.tdiv (4:Int))))/\wrap64 (wrap64 (n-(1:Int))-(wrap64 (x.tdiv (4:Int))))<=n-1:=by
 have:0<=x.tdiv 4/\x.tdiv 4<=1:=by
  rw[Int.tdiv_eq_ediv_of_nonneg h0]
  omega
 rw[aJ (n:=x.tdiv 4) (by omega) (by omega),aJ (n:=n-1) (by omega) (by omega),aJ (by omega) (by omega)]
 omega
theorem M.JE {n:Int} (h:1<=n):1<=Bj n (4:Int)/\Bj n (4:Int)<=n/\Bj n (4:Int)<=4:=by
 unfold Bj
 split<;>omega
theorem cl {p:Prop} (h:p:=by ((try dsimp only);(repeat' (first | assumption | exact all_nil | refine all_cons ?_ ?_ | refine IA ?_ ?_ | refine Io ?_ ?_ | refine HU ?_ | refine M.IL ?_ _ | refine M.Iq ?_ ?_ | refine M.Ij ?_ ?_ ?_ | refine M.Hs ?_ ?_ ?_ | refine M.GG ?_ ?_ | exact M.Ah (by assumption) _ | exact M.qA (by assumption) _ | exact(M.qA (by assumption) _).1 | exact(M.qA (by assumption) _).2 | exact Nat.le_trans (M.CK _ _) (by omega) | exact Nat.le_trans (M.CK _ _) (M.qA (by assumption) _).1 | decide | omega | (dsimp only;first | assumption | omega | decide)));done)):p:=h
theorem au {p:Prop} (h:p:=by first | assumption | omega | decide | trivial | (dsimp only;first | assumption | omega | decide) | (simp only[Ay,zC,uc,List.size_toArray,List.length_cons,List.length_nil,List.length_append,List.length_take,List.length_set,List.length_replicate];omega) | (simp only[Ay,zC,uc,List.size_toArray,List.length_cons,List.length_nil,List.length_append,List.length_take,List.length_set,List.length_replicate,lim];omega) | (simp only[Ay,zC,uc,List.size_toArray,List.length_cons,List.length_nil,List.length_append,List.length_take,List.length_set,List.length_replicate,lim,wrap64];omega) | exact M.lV rfl (by assumption) (by decide) | exact M.CT (by assumption) (by assumption) (by decide) | exact M.Gg (by assumption) _ | exact CJ (by assumption) _ | exact fY _ | exact Nat.le_trans (M.HY (k:=2) rfl _) (by decide) | exact(M.JF (by assumption) (by omega) (by omega)).1 | exact(M.JF (by assumption) (by omega) (by omega)).2 | exact CJ (M.lV rfl (by assumption) (by decide)) _ | exact fun _=>rfl | (intro _;omega) | exact M.Jp (M.Ah (by assumption) _) | exact M.Is (by assumption) _ | exact M.jl1 (by assumption) | exact M.jl2 (by assumption) | exact M.jl3 (by assumption) | exact M.lV rfl (M.lZ (by assumption) _) (by decide) | exact M.Cz (by assumption) (by assumption) (by decide) | exact M.FR (by assumption) (by assumption) (by decide) | exact M.BU (by assumption) (by assumption) (by decide) | exact M.sj (n:=1000) (by first | omega | (simp only[List.length_append,List.length_cons,List.length_nil];omega)) (by exact cl) (by decide) | exact cl):p:=h
section
variable {α β σ ρ τ ε:Type} {K:α->Prop}
theorem okG {p:Prop} {x:Option α} (k:ok x K) (h:p:=by exact au):ok (af p x) K:=by rw[ai h];exact k
theorem okL {γ:Type} {x:γ} {f:γ->Option α} (k:∀r,r=x->ok (f r) K):ok (aK x f) K:=k x rfl
theorem okC {b:Bool} {x y:Option α} (h1:b=true->ok x K) (h2:b=false->ok y K):ok (cond b x y) K:=by
 cases b
 ·exact h2 rfl
 ·exact h1 rfl
theorem okD {p:Prop} [Decidable p] {x y:Option α} (h1:p->ok x K) (h2:¬p->ok y K):ok (cond (decide p) x y) K:=okC (fun h=>h1 (of_decide_eq_true h)) (fun h=>h2 (of_decide_eq_false h))
theorem EC {p:Prop} [Decidable p] {x y:Option α} (h1:p->ok x K) (h2:¬p->ok y K):ok (cond (decide p==true) x y) K:=okC (fun h=>h1 (by simpa using h)) (fun h=>h2 (by simpa using h))
theorem JN {p:Prop} [Decidable p] {x y:Option α} (h1:¬p->ok x K) (h2:p->ok y K):ok (cond (decide p==false) x y) K:=okC (fun h=>h1 (by simpa using h)) (fun h=>h2 (by simpa using h))
theorem okS {x:α} (h:K x):ok (some x) K:=h
theorem okN {K:α->Prop} (h:False:=by first | omega | simp_all):ok (none:Option α) K:=h.elim
theorem sN {x:α} {P Q R:α->Prop} (h0:P x:=by exact au) (h1:Q x:=by exact au) (h2:R x:=by exact au):ok (some x) (fun r=>P r/\Q r/\R r):=⟨h0,h1,h2⟩
theorem wz {x:α} {P Q R S:α->Prop} (h0:P x:=by exact au) (h1:Q x:=by exact au) (h2:R x:=by exact au) (h3:S x:=by exact au):ok (some x) (fun r=>P r/\Q r/\R r/\S r):=⟨h0,h1,h2,h3⟩
theorem zX {x:α} {P Q R S T:α->Prop} (h0:P x:=by exact au) (h1:Q x:=by exact au) (h2:R x:=by exact au) (h3:S x:=by exact au) (h4:T x:=by exact au):ok (some x) (fun r=>P r/\Q r/\R r/\S r/\T r):=⟨h0,h1,h2,h3,h4⟩
theorem JK {x:α} {P Q R S T U V W:α->Prop} (h0:P x:=by exact au) (h1:Q x:=by exact au) (h2:R x:=by exact au) (h3:S x:=by exact au) (h4:T x:=by exact au) (h5:U x:=by exact au) (h6:V x:=by exact au) (h7:W x:=by exact au):ok (some x) (fun r=>P r/\Q r/\R r/\S r/\T r/\U r/\V r/\W r):=⟨h0,h1,h2,h3,h4,h5,h6,h7⟩
theorem eY {f:σ->Prop} {g:ρ->Prop} {s:σ} (h:f s):ok (some (.inl s:Sum σ ρ)) (br f g):=h
theorem dx {f:σ->Prop} {g:ρ->Prop} {r:ρ} (h:g r):ok (some (.inr r:Sum σ ρ)) (br f g):=h
theorem EP {f:σ->Prop} {A:ε->Prop} {B:ρ->Prop} {r:ε} (h:A r):ok (some (.inr (.inl r):Sum σ (Sum ε ρ))) (br f (br A B)):=h
theorem HR {f:σ->Prop} {A:ε->Prop} {B:ρ->Prop} {r:ρ} (h:B r):ok (some (.inr (.inr r):Sum σ (Sum ε ρ))) (br f (br A B)):=h
theorem okT {o:Option (Sum σ ρ)} {f:σ->Option α} {g:ρ->Option α} {A:σ->Prop} {B:ρ->Prop} (h:ok o (br A B)) (ha:∀s,A s->ok (f s) K) (hb:∀r,B r->ok (g r) K):ok (bz o f g) K:=by
 cases o with
 | none=>exact h.elim
 | some z=>
  cases z with
  | inl s=>exact ha s h
  | inr r=>exact hb r h
theorem okB {γ:Type} {o:Option γ} {f:γ->Option α} {A:γ->Prop} (h:ok o A) (ha:∀x,A x->ok (f x) K):ok (Option.bind o f) K:=by
 cases o with
 | none=>exact h.elim
 | some z=>exact ha z h
theorem okW {f:σ->Option (Sum σ ρ)} {R:ρ->Prop} (I:Nat->σ->Prop) (h:∀n s,I n s->ok (f s) (br (fun s'=>∃m,m<n/\I m s') R)):∀(n:Nat) (s:σ),I n s->ok (cu f s) R:=by
 intro n
 induction n using Nat.strongRecOn with
 | ind n ih=>
  intro s hs
  rw[fT]
  refine okT (h n s hs) (fun s' ⟨m,hm,hi⟩=>ih m hm s' hi) (fun r hr=>okS hr)
theorem okE {f:α->σ->Option (Sum σ ρ)} {R:ρ->Prop} (I:Nat->σ->Prop):∀(xs:List α) (n:Nat) (s:σ),I n s->(∀x∈xs,∀(k:Nat) (s:σ),n<=k->k<n+xs.length->I k s->ok (f x s) (br (I (k+1)) R))->ok (aP f xs s) (br (I (n+xs.length)) R)
 | [],n,s,hs,_=>hs
 | x::xs,n,s,hs,h=>by
  show ok (bz (f x s) _ _) _
  refine okT (h x List.mem_cons_self n s (Nat.le_refl _) (by simp) hs) (fun s' hs'=>?_) (fun r hr=>okS hr)
  have:=okE I xs (n+1) s' hs' (fun y hy k s hk hl hi=>h y (List.mem_cons_of_mem _ hy) k s (by omega) (by simp;omega) hi)
  rw[List.length_cons,show n+(xs.length+1)=n+1+xs.length by omega]
  exact this
theorem gE {o:Option α} {d:α} (h:ok o K):o=some (o.getD d):=by
 cases o with
 | none=>exact h.elim
 | some x=>rfl
theorem gB {o:Option α} {d:α} (h:ok o K):K (o.getD d):=by
 cases o with
 | none=>exact h.elim
 | some x=>exact h
theorem IE {f:α->σ->Option (Sum σ ρ)} {R:ρ->Prop} (I:Nat->σ->Prop) {xs:List α} {s:σ} (h0:I 0 s) (h:∀x∈xs,∀(k:Nat) (s:σ),k<xs.length->I k s->ok (f x s) (br (I (k+1)) R)):ok (aP f xs s) (br (I xs.length) R):=by
 have:=okE (R:=R) I xs 0 s h0 (fun x hx k s _ hk hi=>h x hx k s (by omega) hi)
 rw[Nat.zero_add] at this
 exact this
end
end Go.AE
end
section
namespace Go.AE
open Go Go.RowKit
set_option linter.unusedVariables false
namespace M
theorem CE {tables:List aq.D} {ahead:List (List ag.D)} {s:ah.D} {c:List ag.D} (ht:∀t∈tables,mc t) (ha:∀x∈ahead,x.length<=6) (h:bO tables ahead s=some c):c.length<=6:=by
 have hn:=fun i=>lZ ha i
 unfold bO at h
 obtain⟨_,h⟩:=aS h
 cases h1:decide (s.1=(1:Int)) with
 | true=>
  rw[h1,cond_true] at h
  obtain⟨_,h⟩:=aS h
  cases h
  exact(vB (t:=aq) (P:=mc) ht ⟨Nat.zero_le _,Nat.zero_le _,fun _ h=>by cases h⟩ _).1
 | false=>
  rw[h1,cond_false] at h
  obtain⟨_,h⟩:=aS h
  cases h2:decide (s.1=(2:Int)) with
  | true=>
   rw[h2,cond_true] at h
   obtain⟨_,h⟩:=aS h
   cases h
   exact hn _
  | false=>
   rw[h2,cond_false] at h
   cases h3:decide (s.1=(3:Int)) with
   | true=>
    rw[h3,cond_true] at h
    obtain⟨hb,h⟩:=aS h
    cases h
    have:=of_decide_eq_true (Bool.and_eq_true_iff.1 hb).2
    rw[List.length_map]
    omega
   | false=>
    rw[h3,cond_false] at h
    cases h4:decide (s.1=(4:Int)) with
    | true=>
     rw[h4,cond_true] at h
     obtain⟨hb,h⟩:=aS h
     cases h
     have:=of_decide_eq_true (Bool.and_eq_true_iff.1 hb).1
     omega
    | false=>
     rw[h4,cond_false] at h
     cases h5:decide (s.1=(5:Int)) with
     | true=>
      rw[h5,cond_true] at h
      unfold both at h
      obtain⟨_,h⟩:=aS h
      rw[kZ h]
      exact hn _
     | false=>
      rw[h5,cond_false] at h
      obtain⟨_,h⟩:=aS h
      cases h
      exact hn _
theorem BK {tables:List aq.D} (ht:∀t∈tables,mc t):∀(xs:List ah.D) (st st':eW),(∀x∈st.1,x.length<=6)->cV (bC tables) xs st=some st'->∀x∈st'.1,x.length<=6
 | [],st,st',ha,h=>by cases h;exact ha
 | x::xs,st,st',ha,h=>by
  unfold cV at h
  cases hp:bC tables st x with
  | none=>rw[hp] at h;cases h
  | some st1=>
   rw[hp] at h
   obtain⟨c,hc,_,rfl⟩:=iY hp
   refine BK ht xs _ st' (fun y hy=>?_) h
   rcases List.mem_append.1 hy with hy | hy
   ·exact ha y hy
   ·rw[List.mem_singleton.1 hy]
    exact CE ht ha hc
theorem xV {tables:List aq.D}:∀(xs:List ah.D) (st st':eW),cV (bC tables) xs st=some st'->st'.1.length=st.1.length+xs.length
 | [],st,st',h=>by cases h;exact(Nat.add_zero _).symm
 | x::xs,st,st',h=>by
  unfold cV at h
  cases hp:bC tables st x with
  | none=>rw[hp] at h;cases h
  | some st1=>
   rw[hp] at h
   obtain⟨c,_,_,rfl⟩:=iY hp
   rw[xV xs _ st' h]
   simp
   omega
theorem DF {tables:List aq.D} {plan:List ah.D} {r:List (List ag.D)×Bool} (e:r=cT tables plan) (h:(!r.2)=false):r.1.length=plan.length:=by
 subst e
 unfold cT jf at *
 cases hr:cV (bC tables) plan ([],[]) with
 | none=>rw[hr] at h;cases h
 | some st=>
  have:=xV plan _ st hr
  simpa using this
theorem Cm {tables:List aq.D} {plan:List ah.D} {r:List (List ag.D)×Bool} (ht:∀t∈tables,mc t) (e:r=cT tables plan):∀c∈r.1,c.length<=6:=by
 subst e
 unfold cT jf
 cases hr:cV (bC tables) plan ([],[]) with
 | none=>intro c h;cases h
 | some st=>exact BK ht plan ([],[]) st (fun _ h=>by cases h) hr
end M
end Go.AE
end
section
namespace Go.AE
open Go Go.RowKit
set_option linter.unusedVariables false
namespace M
end M
end Go.AE
end
section
namespace Go.AE
open Go Go.RowKit
set_option linter.unusedVariables false
namespace M
theorem pZ (tables:List aq.D) (xs:List ah.D) (s:ah.D):cn tables (xs++[s])=cn tables xs++[bP tables (cn tables xs) s]:=by
 unfold cn
 rw[List.foldl_append]
 rfl
theorem xA (tables:List aq.D):∀(xs:List ah.D),(cn tables xs).length=xs.length:=by
 have key:∀(xs:List ah.D) (a:List (List (List aa.D))),(xs.foldl (eU tables) a).length=a.length+xs.length:=by
  intro xs
  induction xs with
  | nil=>intro a;simp
  | cons x xs ih=>intro a;rw[List.foldl_cons,ih];unfold eU;simp;omega
 intro xs
 have:=key xs []
 unfold cn
 simpa using this
theorem GS {k:Int} (h:two k=true):¬k=(1:Int):=fun z=>by rw[z] at h;cases h
theorem Fk {tables:List aq.D} {ahead ahead':List (List (List aa.D))} {s s':ah.D} (h1:s'.1=s.1) (h2:s'.2.2.2=s.2.2.2) (hA:¬s.1=(1:Int)->nth (t:=.sl (.sl aa)) ahead' s'.2.1=nth (t:=.sl (.sl aa)) ahead s.2.1)
  (hB:two s.1=true->nth (t:=.sl (.sl aa)) ahead' s'.2.2.1=nth (t:=.sl (.sl aa)) ahead s.2.2.1):bP tables ahead' s'=bP tables ahead s:=by
 unfold bP
 rw[h1,h2]
 by_cases k1:s.1=(1:Int)
 ·rw[decide_eq_true k1]
  rfl
 rw[hA k1]
 cases ht:two s.1 with
 | true=>rw[hB ht]
 | false=>
  unfold two at ht
  obtain⟨k4,k5⟩:=Bool.or_eq_false_iff.1 ht
  rw[k4,k5]
  rfl
theorem DT {tables:List aq.D} {ahead ahead':List (List (List aa.D))} {to:List Int} {s:ah.D} (hA:¬s.1=(1:Int)->nth (t:=.sl (.sl aa)) ahead' (nth (t:=.int .i64) to s.2.1)=nth (t:=.sl (.sl aa)) ahead s.2.1)
  (hB:two s.1=true->nth (t:=.sl (.sl aa)) ahead' (nth (t:=.int .i64) to s.2.2.1)=nth (t:=.sl (.sl aa)) ahead s.2.2.1):bP tables ahead' (ren to s)=bP tables ahead s:=by
 refine Fk rfl rfl (fun k1=>?_) (fun ht=>?_)
 ·rw[<-hA k1]
  unfold ren
  rw[decide_eq_false k1]
  rfl
 ·rw[<-hB ht]
  unfold ren
  rw[ht]
  rfl
theorem take_one {plan:List ah.D} {n:Nat} (h:n<plan.length):plan.take (n+1)=plan.take n++[nth (t:=ah) plan (n:Int)]:=xj (t:=ah) h
theorem DE (n:Nat):aV 0 ((n+1:Nat):Int)=aV 0 (n:Int)++[(n:Int)]:=by
 unfold aV
 have e1:(((n+1:Nat):Int)-0).toNat=n+1:=by omega
 have e2:((n:Int)-0).toNat=n:=by omega
 rw[e1,e2,List.range_succ,List.map_append]
 simp
end M
end Go.AE
end
