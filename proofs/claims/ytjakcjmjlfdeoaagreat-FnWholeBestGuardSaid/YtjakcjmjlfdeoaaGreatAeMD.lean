/- How it is shown that a function's value is there, and what holds of it: plain Lean. -/
import Derived.Test.YtjakcjmjlfdeoaaGreatAeMQ
section
namespace Go.AE
open Go Go.RowKit
set_option linter.unusedVariables false
def M.ay (b:List Int):Prop:=∀x∈b,0<=x/\x<=255
theorem Fb {a b:Int} (ha:0<=a) (ha':a<9223372036854775808) (hb:0<=b) (hb':b<9223372036854775808):0<=nJ .xor .i64 a b:=by
 have h1:(BitVec.ofInt 64 a).toNat<2 ^ 63:=by rw[BitVec.toNat_ofInt];omega
 have h2:(BitVec.ofInt 64 b).toNat<2 ^ 63:=by rw[BitVec.toNat_ofInt];omega
 have h3:(BitVec.ofInt 64 a ^^^ BitVec.ofInt 64 b).toNat<2 ^ 63:=by
  rw[BitVec.toNat_xor]
  exact Nat.xor_lt_two_pow h1 h2
 show 0<=IntKind.i64.wrap (((BitVec.ofInt 64 a ^^^ BitVec.ofInt 64 b).toNat:Nat):Int)
 generalize (BitVec.ofInt 64 a ^^^ BitVec.ofInt 64 b).toNat=m at h3
 have e:((m:Int) % 2 ^ 64)=(m:Int):=by omega
 unfold IntKind.wrap
 simp only[show IntKind.i64.bits=64 from rfl,e]
 split
 ·rename_i h
  simp only[Bool.and_eq_true,decide_eq_true_eq] at h
  omega
 ·omega
theorem tT (xs:List Int):(strOf xs).size=xs.length:=by
 unfold strOf
 show (List.toArray _).size=_
 simp
theorem zQ (a b:ByteArray):(a++b).size=a.size+b.size:=ByteArray.size_append
def M.eB (deep:Int):Nat:=if deep<=0 then 3 else if deep<=1 then 9 else if deep<=2 then 27 else 81
section
variable {α:Type} {P:α->Prop} {a b:List α} {x:α}
theorem all_nil:∀v∈([]:List α),P v:=fun _ h=>by cases h
theorem all_cons (h:P x) (hb:∀v∈b,P v):∀v∈x::b,P v:=fun v hv=>by
 rcases List.mem_cons.1 hv with rfl | hv
 ·exact h
 ·exact hb v hv
theorem JJ (ha:∀v∈a,P v) (hb:∀v∈b,P v):∀v∈a++b,P v:=fun v hv=>(List.mem_append.1 hv).elim (ha v) (hb v)
theorem JG {n:Nat} (ha:∀v∈a,P v) (h:P x):∀v∈a.set n x,P v:=fun v hv=>by
 rcases List.mem_or_eq_of_mem_set hv with hv | rfl
 ·exact ha v hv
 ·exact h
theorem Iy {n:Nat} (ha:∀v∈a,P v):∀v∈a.take n,P v:=fun v hv=>ha v (List.mem_of_mem_take hv)
theorem Ad (l:Array UInt8):(⟨l⟩:ByteArray).size=l.size:=rfl
end
namespace M
theorem Gv {d:Int}:3<=eB d/\eB d<=81:=by
 unfold eB
 repeat' split
 all_goals omega
theorem ET {d:Int} (h1:1<=d) (h3:d<=3):3 * eB (d-1)=eB d/\eB (d-2)<=eB (d-1):=by
 have:d=1\/d=2\/d=3:=by omega
 rcases this with rfl | rfl | rfl<;>decide
theorem La {d:Int} (h3:d<=3):1<=d->3 * eB (wrap64 (d-(1:Int)))<=eB d:=fun h1=>by
 rw[aI (by omega) (by omega),(ET h1 h3).1]
 exact Nat.le_refl _
theorem KY {d:Int} (h3:d<=3):1<=d->3 * eB (wrap64 (d-(2:Int)))<=eB d:=fun h1=>by
 rw[aI (by omega) (by omega),<-(ET h1 h3).1]
 exact Nat.mul_le_mul_left 3 (ET h1 h3).2
theorem bytes_of_fine {x:List Int} (h:wk (.sl (.int .u8)) x):ay x:=fun n hn=>by
 have:=h.2 n hn
 unfold wk Lit.wf at this
 simp only[Bool.and_eq_true,decide_eq_true_eq] at this
 exact this
theorem wZ {b:List Int} (h:ay b) (i:Int):0<=nth (t:=.int .u8) b i/\nth (t:=.int .u8) b i<=255:=by
 unfold nth
 rw[List.getD_eq_getElem?_getD]
 cases he:b[i.toNat]? with
 | none=>exact⟨Int.le_refl _,by decide⟩
 | some x=>exact h x (List.mem_of_getElem? he)
theorem mj {t:Ty} (ht:t.bare=true) {xs:List t.D} {n:Nat} (h:xs.length<=n) (hn:n<=1048576):Sm (.sl t) xs:=⟨Nat.le_trans h hn,fun x _=>yM ht x⟩
theorem CQ {vs:List aa.D} {n:Nat} (h:vs.length<=n) (hv:∀v∈vs,v.2.2.1.size<=20) (hn:n<=1048576):Sm (.sl aa) vs:=⟨Nat.le_trans h hn,fun v hm=>⟨trivial,trivial,Nat.le_trans (hv v hm) (by decide),trivial⟩⟩
theorem EE {vs:List az.D} {n:Nat} (h:vs.length<=n) (hv:∀v∈vs,v.2.2.1.2.2.1.size<=20) (hn:n<=1048576):Sm (.sl az) vs:=⟨Nat.le_trans h hn,fun v hm=>⟨trivial,trivial,⟨trivial,trivial,Nat.le_trans (hv v hm) (by decide),trivial⟩,trivial⟩⟩
def wM (w:List aa.D):Prop:=w.length<=9/\∀v∈w,v.2.2.1.size<=20
def iS (t:aq.D):Prop:=t.1.length<=6/\t.2.1.length<=6/\∀w∈t.2.1,wM w
def iQ (s:ag.D):Prop:=s.2.2.2.2.1.length<=81/\(∀v∈s.2.2.2.2.1,v.2.2.1.2.2.1.size<=20)/\s.2.2.2.2.2.1.length<=3
def gdD (g:aL.D):Prop:=g.2.1.length<=81/\∀v∈g.2.1,v.2.2.1.2.2.1.size<=20
def qS (t:aq.D):Prop:=t.1.length<=4/\∀w∈t.2.1,w.length<=4
theorem JB {w:List aa.D} (h:w.length<=9) (h2:∀v∈w,v.2.2.1.size<=20):wM w:=⟨h,h2⟩
theorem Jv {c:List ai.D} {r:List (List aa.D)} (h:c.length<=6) (h2:r.length<=6) (h3:∀w∈r,wM w):iS (c,r,()):=⟨h,h2,h3⟩
theorem IY {k a b n:Int} {e:List az.D} {l:List Int} (h:e.length<=81) (h2:∀v∈e,v.2.2.1.2.2.1.size<=20) (h3:l.length<=3):iQ (k,a,b,n,e,l,()):=⟨h,h2,h3⟩
theorem GG {n:Int} {e:List az.D} (h:e.length<=81) (h2:∀v∈e,v.2.2.1.2.2.1.size<=20):gdD (n,e,()):=⟨h,h2⟩
theorem vI {t:Ty} {P:t.D->Prop} {xs:List t.D} (h:∀x∈xs,P x) (hz:P t.zero) (i:Int):P (nth (t:=t) xs i):=by
 unfold nth
 rw[List.getD_eq_getElem?_getD]
 cases he:xs[i.toNat]? with
 | none=>exact hz
 | some x=>exact h x (List.mem_of_getElem? he)
theorem zq {xs:List (List aa.D)} (h:∀w∈xs,wM w) (i:Int):wM (nth (t:=.sl aa) xs i):=vI (t:=.sl aa) (P:=wM) h ⟨Nat.zero_le _,fun _ h=>by cases h⟩ i
theorem KE {w:List aa.D} (h:wM w):Sm (.sl aa) w:=CQ h.1 h.2 (by decide)
theorem pS {xs:List aL.D} (h:∀w∈xs,gdD w) (i:Int):gdD (nth (t:=aL) xs i):=vI (t:=aL) (P:=gdD) h ⟨Nat.zero_le _,fun _ h=>by cases h⟩ i
theorem mz {xs:List (List ai.D)} (h:∀c∈xs,c.length<=6) (i:Int):(nth (t:=.sl ai) xs i:List ai.D).length<=6:=vI (t:=.sl ai) (P:=fun c:List ai.D=>c.length<=6) h (Nat.zero_le _) i
theorem Db {α:Type} (xs:List α) (c:Option (Int×Int)):(ah xs c).length<=xs.length:=by
 cases c with
 | none=>exact Nat.le_refl _
 | some p=>
  unfold ah
  simp only[List.length_drop,List.length_take]
  omega
theorem Jz {α:Type} {xs:List α} {k:Int} (h0:0<=k) (h:1<=xs.length) (hk:1<=k):1<=(ah xs (some ((0:Int),k))).length:=by
 unfold ah
 simp only[List.length_drop,List.length_take]
 omega
theorem KD {α:Type} {xs:List α} {k:Int} (h:k<=2):(ah xs (some ((0:Int),k))).length<=2:=by
 unfold ah
 simp only[List.length_drop,List.length_take]
 omega
theorem JK {α:Type} {P:α->Prop} {xs:List α} (h:∀x∈xs,P x) (c:Option (Int×Int)):∀x∈ah xs c,P x:=by
 intro x hx
 cases c with
 | none=>exact h x hx
 | some p=>exact h x (List.mem_of_mem_drop (List.mem_of_mem_take hx))
theorem Jr {ts:List aq.D} (h:Sm (.sl aq) ts) (i:Int):Sm (.sl ai) (nth (t:=aq) ts i).1:=vI (t:=aq) (P:=fun t:aq.D=>Sm (.sl ai) t.1) (fun t hm=>(h.2 t hm).1) (kF _) i
theorem Cu {xs:List (List ai.D)} {n:Nat} (h:xs.length<=n) (hc:∀c∈xs,c.length<=6) (hn:n<=1048576):Sm (.sl (.sl ai)) xs:=⟨Nat.le_trans h hn,fun c hm=>mj rfl (hc c hm) (by decide)⟩
theorem qZ {xs:List ag.D} {n:Nat} (h:xs.length<=n) (hs:∀s∈xs,iQ s) (hn:n<=1048576):Sm (.sl ag) xs:=
 ⟨Nat.le_trans h hn,fun s hm=>⟨trivial,trivial,trivial,trivial,EE (hs s hm).1 (hs s hm).2.1 (by decide),mj (t:=.int .i64) rfl (hs s hm).2.2 (by decide),trivial⟩⟩
theorem Gh {xs:List aq.D} {n:Nat} (h:xs.length<=n) (hs:∀s∈xs,iS s) (hn:n<=1048576):Sm (.sl aq) xs:=
 ⟨Nat.le_trans h hn,fun s hm=>⟨mj rfl (hs s hm).1 (by decide),⟨Nat.le_trans (hs s hm).2.1 (by decide),fun w hw=>CQ ((hs s hm).2.2 w hw).1 ((hs s hm).2.2 w hw).2 (by decide)⟩,trivial⟩⟩
theorem BS {xs:List aL.D} {n:Nat} (h:xs.length<=n) (hs:∀s∈xs,gdD s) (hn:n<=1048576):Sm (.sl aL) xs:=
 ⟨Nat.le_trans h hn,fun s hm=>⟨trivial,EE (hs s hm).1 (hs s hm).2 (by decide),trivial⟩⟩
theorem jl1 {r:List (List ai.D)} (h:∀c∈r,c.length<=6) {i:Int}:(([]:List ai.D).length+(nth (t:=.sl ai) r i:List ai.D).length) * 16<=lim:=by
 have:=mz h i
 simp only[List.length_nil,lim]
 omega
theorem jl2 {r:List (List ai.D)} (h:∀c∈r,c.length<=6) {i j:Int}:(([]++(nth (t:=.sl ai) r i:List ai.D)).length+(nth (t:=.sl ai) r j:List ai.D).length) * 16<=lim:=by
 have:=mz h i
 have:=mz h j
 simp only[List.nil_append,lim]
 omega
theorem jl3 {r:List (List ai.D)} (h:∀c∈r,c.length<=6) {i j:Int}:Sm (.sl ai) (([]++(nth (t:=.sl ai) r i:List ai.D))++(nth (t:=.sl ai) r j:List ai.D)):=by
 have:=mz h i
 have:=mz h j
 exact mj (n:=12) rfl (by simp only[List.nil_append,List.length_append];omega) (by decide)
theorem sM {a n:Int} (ha:0<=a) (hn:1<=n):0<=a.tmod n/\a.tmod n<n:=by
 rw[Int.tmod_eq_emod_of_nonneg ha]
 exact⟨Int.emod_nonneg _ (by omega),Int.emod_lt_of_pos _ (by omega)⟩
theorem FZ {a n:Int} (ha:0<=a) (hn:1<=n):0<=a.tdiv n/\a.tdiv n<=a:=by
 rw[Int.tdiv_eq_ediv_of_nonneg ha]
 exact⟨Int.ediv_nonneg ha (by omega),Int.ediv_le_self _ ha⟩
theorem GK {u n:Int} (hu:0<=u/\u<=255) (hn:1<=n):0<=(wrap64 u).tmod n/\(wrap64 u).tmod n<n:=by
 rw[aI (n:=u) (by omega) (by omega)]
 exact sM hu.1 hn
theorem Iw {u v p q n:Int} (hu:0<=u/\u<=255) (hv:0<=v/\v<=255) (p0:0<=p) (p1:p<=1000000000000000) (hq:0<=q/\q<=p) (hn:1<=n) :
  0<=(nJ .xor .i64 (wrap64 (wrap64 (wrap64 (wrap64 ((wrap64 u) * (131:Int))+wrap64 ((wrap64 v) * (1117:Int)))+wrap64 (p * (29:Int)))+wrap64 ((wrap64 q) * (53:Int)))) (wrap64 ((wrap64 (wrap64 (wrap64 (wrap64 ((wrap64 u) * (131:Int))+wrap64 ((wrap64 v) * (1117:Int)))+wrap64 (p * (29:Int)))+wrap64 ((wrap64 q) * (53:Int)))).tdiv (64:Int)))).tmod n ∧
  (nJ .xor .i64 (wrap64 (wrap64 (wrap64 (wrap64 ((wrap64 u) * (131:Int))+wrap64 ((wrap64 v) * (1117:Int)))+wrap64 (p * (29:Int)))+wrap64 ((wrap64 q) * (53:Int)))) (wrap64 ((wrap64 (wrap64 (wrap64 (wrap64 ((wrap64 u) * (131:Int))+wrap64 ((wrap64 v) * (1117:Int)))+wrap64 (p * (29:Int)))+wrap64 ((wrap64 q) * (53:Int)))).tdiv (64:Int)))).tmod n<n:=by
 have e:wrap64 (wrap64 (wrap64 (wrap64 ((wrap64 u) * (131:Int))+wrap64 ((wrap64 v) * (1117:Int)))+wrap64 (p * (29:Int)))+wrap64 ((wrap64 q) * (53:Int)))=u * 131+v * 1117+p * 29+q * 53:=by
  rw[aI (n:=u) (by omega) (by omega),aI (n:=v) (by omega) (by omega),aI (n:=q) (by omega) (by omega),aI (n:=u * 131) (by omega) (by omega),aI (n:=v * 1117) (by omega) (by omega),aI (n:=p * 29) (by omega) (by omega),aI (n:=q * 53) (by omega) (by omega),aI (n:=u * 131+v * 1117) (by omega) (by omega),aI (n:=u * 131+v * 1117+p * 29) (by omega) (by omega),aI (by omega) (by omega)]
 rw[e]
 generalize hA:u * 131+v * 1117+p * 29+q * 53=A
 have a0:0<=A:=by omega
 have a1:A<9223372036854775808:=by omega
 obtain⟨d0,d1⟩:=FZ (n:=64) a0 (by decide)
 rw[aI (n:=A.tdiv 64) (by omega) (by omega)]
 exact sM (Fb a0 a1 d0 (by omega)) hn
theorem Ja {xs:List ByteArray} {k:Nat} (h:xs.all (fun s=>decide (s.size<=k))=true) (i:Int):(nth (t:=Ty.str) xs i:ByteArray).size<=k:=by
 unfold nth
 rw[List.getD_eq_getElem?_getD]
 cases he:xs[i.toNat]? with
 | none=>exact Nat.zero_le _
 | some x=>exact of_decide_eq_true (List.all_eq_true.1 h x (List.mem_of_getElem? he))
theorem He {b:List Int} (h:ay b) (c:Option (Int×Int)):ay (ah b c):=by
 intro x hx
 cases c with
 | none=>exact h x hx
 | some p=>exact h x (List.mem_of_mem_drop (List.mem_of_mem_take hx))
end M
theorem M.KT {x n:Int} (h0:0<=x) (h1:1<=n) (h2:n<=6):0<=wrap64 ((1:Int)+x.tmod n)/\wrap64 ((1:Int)+x.tmod n)<=n:=by
 have:=M.sM h0 h1
 rw[aI (by omega) (by omega)]
 omega
theorem M.Lf {x n:Int} (h0:0<=x) (h2:x<2) (h1:1<=n):wrap64 ((1:Int)+x.tmod n)<=2:=by
 have:=M.sM h0 h1
 have h3:x.tmod n<=x:=by
  rw[Int.tmod_eq_emod_of_nonneg h0]
  have:=Int.emod_add_mul_ediv x n
  have q:=Int.mul_nonneg (show 0<=n by omega) (Int.ediv_nonneg h0 (show 0<=n by omega))
  omega
 rw[aI (by omega) (by omega)]
 omega
theorem M.Kx {x n:Int} (h0:0<=x) (h1:x<5) (n1:1<=n) (n6:n<=6):-1<=wrap64 (wrap64 (n-(1:Int))-(wrap64 (x.tdiv (4:Int))))/\wrap64 (wrap64 (n-(1:Int))-(wrap64 (x.tdiv (4:Int))))<=n-1:=by
 have:0<=x.tdiv 4/\x.tdiv 4<=1:=by
  rw[Int.tdiv_eq_ediv_of_nonneg h0]
  omega
 rw[aI (n:=x.tdiv 4) (by omega) (by omega),aI (n:=n-1) (by omega) (by omega),aI (by omega) (by omega)]
 omega
theorem M.Lb {n:Int} (h:1<=n):1<=GJ n (4:Int)/\GJ n (4:Int)<=n/\GJ n (4:Int)<=4:=by
 unfold GJ
 split<;>omega
theorem cl {p:Prop} (h:p:=by ((try dsimp only);(repeat' (first | assumption | exact all_nil | refine all_cons ?_ ?_ | refine JJ ?_ ?_ | refine JG ?_ ?_ | refine Iy ?_ | refine M.JK ?_ _ | refine M.JB ?_ ?_ | refine M.Jv ?_ ?_ ?_ | refine M.IY ?_ ?_ ?_ | refine M.GG ?_ ?_ | exact M.zq (by assumption) _ | exact M.pS (by assumption) _ | exact(M.pS (by assumption) _).1 | exact(M.pS (by assumption) _).2 | exact Nat.le_trans (M.Db _ _) (by omega) | exact Nat.le_trans (M.Db _ _) (M.pS (by assumption) _).1 | decide | omega | (dsimp only;first | assumption | omega | decide)));done)):p:=h
theorem au {p:Prop} (h:p:=by first | assumption | omega | decide | trivial | (dsimp only;first | assumption | omega | decide) | (simp only[zQ,Ad,tT,List.size_toArray,List.length_cons,List.length_nil,List.length_append,List.length_take,List.length_set,List.length_replicate];omega) | (simp only[zQ,Ad,tT,List.size_toArray,List.length_cons,List.length_nil,List.length_append,List.length_take,List.length_set,List.length_replicate,lim];omega) | (simp only[zQ,Ad,tT,List.size_toArray,List.length_cons,List.length_nil,List.length_append,List.length_take,List.length_set,List.length_replicate,lim,wrap64];omega) | exact M.mj rfl (by assumption) (by decide) | exact M.CQ (by assumption) (by assumption) (by decide) | exact M.He (by assumption) _ | exact iu (by assumption) _ | exact kF _ | exact Nat.le_trans (M.Ja (k:=2) rfl _) (by decide) | exact(M.KT (by assumption) (by omega) (by omega)).1 | exact(M.KT (by assumption) (by omega) (by omega)).2 | exact iu (M.mj rfl (by assumption) (by decide)) _ | exact fun _=>rfl | (intro _;omega) | exact M.KE (M.zq (by assumption) _) | exact M.Jr (by assumption) _ | exact M.jl1 (by assumption) | exact M.jl2 (by assumption) | exact M.jl3 (by assumption) | exact M.mj rfl (M.mz (by assumption) _) (by decide) | exact M.Cu (by assumption) (by assumption) (by decide) | exact M.Gh (by assumption) (by assumption) (by decide) | exact M.BS (by assumption) (by assumption) (by decide) | exact M.qZ (n:=1000) (by first | omega | (simp only[List.length_append,List.length_cons,List.length_nil];omega)) (by exact cl) (by decide) | exact cl):p:=h
section
variable {α β σ ρ τ ε:Type} {K:α->Prop}
theorem okG {p:Prop} {x:Option α} (k:ok x K) (h:p:=by exact au):ok (af p x) K:=by rw[aj h];exact k
theorem okL {γ:Type} {x:γ} {f:γ->Option α} (k:∀r,r=x->ok (f r) K):ok (aH x f) K:=k x rfl
theorem okC {b:Bool} {x y:Option α} (h1:b=true->ok x K) (h2:b=false->ok y K):ok (cond b x y) K:=by
 cases b
 ·exact h2 rfl
 ·exact h1 rfl
theorem okD {p:Prop} [Decidable p] {x y:Option α} (h1:p->ok x K) (h2:¬p->ok y K):ok (cond (decide p) x y) K:=okC (fun h=>h1 (of_decide_eq_true h)) (fun h=>h2 (of_decide_eq_false h))
theorem Fp {p:Prop} [Decidable p] {x y:Option α} (h1:p->ok x K) (h2:¬p->ok y K):ok (cond (decide p==true) x y) K:=okC (fun h=>h1 (by simpa using h)) (fun h=>h2 (by simpa using h))
theorem KW {p:Prop} [Decidable p] {x y:Option α} (h1:¬p->ok x K) (h2:p->ok y K):ok (cond (decide p==false) x y) K:=okC (fun h=>h1 (by simpa using h)) (fun h=>h2 (by simpa using h))
theorem okS {x:α} (h:K x):ok (some x) K:=h
theorem okN {K:α->Prop} (h:False:=by first | omega | simp_all):ok (none:Option α) K:=h.elim
theorem sU {x:α} {P Q R:α->Prop} (h0:P x:=by exact au) (h1:Q x:=by exact au) (h2:R x:=by exact au):ok (some x) (fun r=>P r/\Q r/\R r):=⟨h0,h1,h2⟩
theorem ua {x:α} {P Q R S:α->Prop} (h0:P x:=by exact au) (h1:Q x:=by exact au) (h2:R x:=by exact au) (h3:S x:=by exact au):ok (some x) (fun r=>P r/\Q r/\R r/\S r):=⟨h0,h1,h2,h3⟩
theorem sV {x:α} {P Q R S T:α->Prop} (h0:P x:=by exact au) (h1:Q x:=by exact au) (h2:R x:=by exact au) (h3:S x:=by exact au) (h4:T x:=by exact au):ok (some x) (fun r=>P r/\Q r/\R r/\S r/\T r):=⟨h0,h1,h2,h3,h4⟩
theorem Lc {x:α} {P Q R S T U:α->Prop} (h0:P x:=by exact au) (h1:Q x:=by exact au) (h2:R x:=by exact au) (h3:S x:=by exact au) (h4:T x:=by exact au) (h5:U x:=by exact au):ok (some x) (fun r=>P r/\Q r/\R r/\S r/\T r/\U r):=⟨h0,h1,h2,h3,h4,h5⟩
theorem KR {x:α} {P Q R S T U V W:α->Prop} (h0:P x:=by exact au) (h1:Q x:=by exact au) (h2:R x:=by exact au) (h3:S x:=by exact au) (h4:T x:=by exact au) (h5:U x:=by exact au) (h6:V x:=by exact au) (h7:W x:=by exact au):ok (some x) (fun r=>P r/\Q r/\R r/\S r/\T r/\U r/\V r/\W r):=⟨h0,h1,h2,h3,h4,h5,h6,h7⟩
theorem fq {f:σ->Prop} {g:ρ->Prop} {s:σ} (h:f s):ok (some (.inl s:Sum σ ρ)) (bA f g):=h
theorem dG {f:σ->Prop} {g:ρ->Prop} {r:ρ} (h:g r):ok (some (.inr r:Sum σ ρ)) (bA f g):=h
theorem Fv {f:σ->Prop} {A:ε->Prop} {B:ρ->Prop} {r:ε} (h:A r):ok (some (.inr (.inl r):Sum σ (Sum ε ρ))) (bA f (bA A B)):=h
theorem Ix {f:σ->Prop} {A:ε->Prop} {B:ρ->Prop} {r:ρ} (h:B r):ok (some (.inr (.inr r):Sum σ (Sum ε ρ))) (bA f (bA A B)):=h
theorem okT {o:Option (Sum σ ρ)} {f:σ->Option α} {g:ρ->Option α} {A:σ->Prop} {B:ρ->Prop} (h:ok o (bA A B)) (ha:∀s,A s->ok (f s) K) (hb:∀r,B r->ok (g r) K):ok (bD o f g) K:=by
 cases o with
 | none=>exact h.elim
 | some z=>
  cases z with
  | inl s=>exact ha s h
  | inr r=>exact hb r h
theorem okB {γ:Type} {o:Option γ} {f:γ->Option α} {A:γ->Prop} (h:ok o A) (ha:∀x,A x->ok (f x) K):ok (Option.bind o f) K:=by
 cases o with
 | none=>exact h.elim
 | some z=>exact ha z h
theorem okW {f:σ->Option (Sum σ ρ)} {R:ρ->Prop} (I:Nat->σ->Prop) (h:∀n s,I n s->ok (f s) (bA (fun s'=>∃m,m<n/\I m s') R)):∀(n:Nat) (s:σ),I n s->ok (cN f s) R:=by
 intro n
 induction n using Nat.strongRecOn with
 | ind n ih=>
  intro s hs
  rw[eV]
  refine okT (h n s hs) (fun s' ⟨m,hm,hi⟩=>ih m hm s' hi) (fun r hr=>okS hr)
theorem okE {f:α->σ->Option (Sum σ ρ)} {R:ρ->Prop} (I:Nat->σ->Prop):∀(xs:List α) (n:Nat) (s:σ),I n s->(∀x∈xs,∀(k:Nat) (s:σ),n<=k->k<n+xs.length->I k s->ok (f x s) (bA (I (k+1)) R))->ok (aQ f xs s) (bA (I (n+xs.length)) R)
 | [],n,s,hs,_=>hs
 | x::xs,n,s,hs,h=>by
  show ok (bD (f x s) _ _) _
  refine okT (h x List.mem_cons_self n s (Nat.le_refl _) (by simp) hs) (fun s' hs'=>?_) (fun r hr=>okS hr)
  have:=okE I xs (n+1) s' hs' (fun y hy k s hk hl hi=>h y (List.mem_cons_of_mem _ hy) k s (by omega) (by simp;omega) hi)
  rw[List.length_cons,show n+(xs.length+1)=n+1+xs.length by omega]
  exact this
theorem gq {o:Option α} {d:α} (h:ok o K):o=some (o.getD d):=by
 cases o with
 | none=>exact h.elim
 | some x=>rfl
theorem gn {o:Option α} {d:α} (h:ok o K):K (o.getD d):=by
 cases o with
 | none=>exact h.elim
 | some x=>exact h
theorem JR {f:α->σ->Option (Sum σ ρ)} {R:ρ->Prop} (I:Nat->σ->Prop) {xs:List α} {s:σ} (h0:I 0 s) (h:∀x∈xs,∀(k:Nat) (s:σ),k<xs.length->I k s->ok (f x s) (bA (I (k+1)) R)):ok (aQ f xs s) (bA (I xs.length) R):=by
 have:=okE (R:=R) I xs 0 s h0 (fun x hx k s _ hk hi=>h x hx k s (by omega) hi)
 rw[Nat.zero_add] at this
 exact this
end
end Go.AE
end
section
namespace Go.AE
open Go Go.RowKit
set_option linter.unusedVariables false
namespace M
theorem CR {tables:List aq.D} {ahead:List (List ai.D)} {s:ag.D} {c:List ai.D} (ht:∀t∈tables,iS t) (ha:∀x∈ahead,x.length<=6) (h:aV tables ahead s=some c):c.length<=6:=by
 have hn:=fun i=>mz ha i
 unfold aV at h
 obtain⟨_,h⟩:=aG h
 cases h1:decide (s.1=(1:Int)) with
 | true=>
  rw[h1,cond_true] at h
  obtain⟨_,h⟩:=aG h
  cases h
  exact(vI (t:=aq) (P:=iS) ht ⟨Nat.zero_le _,Nat.zero_le _,fun _ h=>by cases h⟩ _).1
 | false=>
  rw[h1,cond_false] at h
  obtain⟨_,h⟩:=aG h
  cases h2:decide (s.1=(2:Int)) with
  | true=>
   rw[h2,cond_true] at h
   obtain⟨_,h⟩:=aG h
   cases h
   exact hn _
  | false=>
   rw[h2,cond_false] at h
   cases h3:decide (s.1=(3:Int)) with
   | true=>
    rw[h3,cond_true] at h
    obtain⟨hb,h⟩:=aG h
    cases h
    have:=of_decide_eq_true (Bool.and_eq_true_iff.1 hb).2
    rw[List.length_map]
    omega
   | false=>
    rw[h3,cond_false] at h
    cases h4:decide (s.1=(4:Int)) with
    | true=>
     rw[h4,cond_true] at h
     obtain⟨hb,h⟩:=aG h
     cases h
     have:=of_decide_eq_true (Bool.and_eq_true_iff.1 hb).1
     omega
    | false=>
     rw[h4,cond_false] at h
     cases h5:decide (s.1=(5:Int)) with
     | true=>
      rw[h5,cond_true] at h
      unfold both at h
      obtain⟨_,h⟩:=aG h
      rw[jw h]
      exact hn _
     | false=>
      rw[h5,cond_false] at h
      obtain⟨_,h⟩:=aG h
      cases h
      exact hn _
theorem BH {tables:List aq.D} (ht:∀t∈tables,iS t):∀(xs:List ag.D) (st st':dy),(∀x∈st.1,x.length<=6)->cC (aS tables) xs st=some st'->∀x∈st'.1,x.length<=6
 | [],st,st',ha,h=>by cases h;exact ha
 | x::xs,st,st',ha,h=>by
  unfold cC at h
  cases hp:aS tables st x with
  | none=>rw[hp] at h;cases h
  | some st1=>
   rw[hp] at h
   obtain⟨c,hc,_,rfl⟩:=dQ hp
   refine BH ht xs _ st' (fun y hy=>?_) h
   rcases List.mem_append.1 hy with hy | hy
   ·exact ha y hy
   ·rw[List.mem_singleton.1 hy]
    exact CR ht ha hc
theorem xz {tables:List aq.D}:∀(xs:List ag.D) (st st':dy),cC (aS tables) xs st=some st'->st'.1.length=st.1.length+xs.length
 | [],st,st',h=>by cases h;exact(Nat.add_zero _).symm
 | x::xs,st,st',h=>by
  unfold cC at h
  cases hp:aS tables st x with
  | none=>rw[hp] at h;cases h
  | some st1=>
   rw[hp] at h
   obtain⟨c,_,_,rfl⟩:=dQ hp
   rw[xz xs _ st' h]
   simp
   omega
theorem Dv {tables:List aq.D} {plan:List ag.D} {r:List (List ai.D)×Bool} (e:r=cz tables plan) (h:(!r.2)=false):r.1.length=plan.length:=by
 subst e
 unfold cz fE at *
 cases hr:cC (aS tables) plan ([],[]) with
 | none=>rw[hr] at h;cases h
 | some st=>
  have:=xz plan _ st hr
  simpa using this
theorem CW {tables:List aq.D} {plan:List ag.D} {r:List (List ai.D)×Bool} (ht:∀t∈tables,iS t) (e:r=cz tables plan):∀c∈r.1,c.length<=6:=by
 subst e
 unfold cz fE
 cases hr:cC (aS tables) plan ([],[]) with
 | none=>intro c h;cases h
 | some st=>exact BH ht plan ([],[]) st (fun _ h=>by cases h) hr
end M
end Go.AE
end
