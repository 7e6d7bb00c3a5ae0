/- How it is shown that a function's value is there, and what holds of it: plain Lean. -/
import Derived.Test.YtgfopdekfopmcaaGreatAeMN
namespace Go.AE
open Go Go.RowKit
set_option linter.unusedVariables false
def M.ak (b:List Int):Prop:=∀x∈b,0<=x/\x<=255
theorem wD {a b:Int} (ha:0<=a) (ha':a<9223372036854775808) (hb:0<=b) (hb':b<9223372036854775808):0<=iZ .xor .i64 a b:=by
 have h1:(BitVec.ofInt 64 a).toNat<2 ^ 63:=by rw[BitVec.toNat_ofInt];omega
 have h2:(BitVec.ofInt 64 b).toNat<2 ^ 63:=by rw[BitVec.toNat_ofInt];omega
 have h3:(BitVec.ofInt 64 a ^^^ BitVec.ofInt 64 b).toNat<2 ^ 63:=by
  rw[BitVec.toNat_xor]
  exact Nat.xor_lt_two_pow h1 h2
 show 0<=IntKind.i64.wrap (((BitVec.ofInt 64 a ^^^ BitVec.ofInt 64 b).toNat:Nat):Int)
 generalize (BitVec.ofInt 64 a ^^^ BitVec.ofInt 64 b).toNat=m at h3
 have e:((m:Int) % 2 ^ 64)=(m:Int):=by omega
 unfold IntKind.wrap
 simp only[show IntKind.i64.bits=64 from rfl,e]
 split
 ·rename_i h
  simp only[Bool.and_eq_true,decide_eq_true_eq] at h
  omega
 ·omega
theorem mR (xs:List Int):(strOf xs).size=xs.length:=by
 unfold strOf
 show (List.toArray _).size=_
 simp
theorem rI (a b:ByteArray):(a++b).size=a.size+b.size:=ByteArray.size_append
def M.eB (deep:Int):Nat:=if deep<=0 then 3 else if deep<=1 then 9 else if deep<=2 then 27 else 81
section
variable {α:Type} {P:α->Prop} {a b:List α} {x:α}
theorem all_nil:∀v∈([]:List α),P v:=fun _ h=>by cases h
theorem all_cons (h:P x) (hb:∀v∈b,P v):∀v∈x::b,P v:=fun v hv=>by
 rcases List.mem_cons.1 hv with rfl | hv
 ·exact h
 ·exact hb v hv
theorem wX (ha:∀v∈a,P v) (hb:∀v∈b,P v):∀v∈a++b,P v:=fun v hv=>(List.mem_append.1 hv).elim (ha v) (hb v)
theorem oB {n:Nat} (ha:∀v∈a,P v) (h:P x):∀v∈a.set n x,P v:=fun v hv=>by
 rcases List.mem_or_eq_of_mem_set hv with hv | rfl
 ·exact ha v hv
 ·exact h
theorem zv {n:Nat} (ha:∀v∈a,P v):∀v∈a.take n,P v:=fun v hv=>ha v (List.mem_of_mem_take hv)
theorem sq (l:Array UInt8):(⟨l⟩:ByteArray).size=l.size:=rfl
end
namespace M
theorem bytes_of_fine {x:List Int} (h:pK (.sl (.int .u8)) x):ak x:=fun n hn=>by
 have:=h.2 n hn
 unfold pK Lit.wf at this
 simp only[Bool.and_eq_true,decide_eq_true_eq] at this
 exact this
theorem pS {b:List Int} (h:ak b) (i:Int):0<=nth (t:=.int .u8) b i/\nth (t:=.int .u8) b i<=255:=by
 unfold nth
 rw[List.getD_eq_getElem?_getD]
 cases he:b[i.toNat]? with
 | none=>exact⟨Int.le_refl _,by decide⟩
 | some x=>exact h x (List.mem_of_getElem? he)
theorem jQ {t:Ty} (ht:t.bare=true) {xs:List t.D} {n:Nat} (h:xs.length<=n) (hn:n<=1048576):Sm (.sl t) xs:=⟨Nat.le_trans h hn,fun x _=>tM ht x⟩
theorem ug {vs:List ag.D} {n:Nat} (h:vs.length<=n) (hv:∀v∈vs,v.2.2.1.size<=20) (hn:n<=1048576):Sm (.sl ag) vs:=⟨Nat.le_trans h hn,fun v hm=>⟨trivial,trivial,Nat.le_trans (hv v hm) (by decide),trivial⟩⟩
theorem uY {vs:List dy.D} {n:Nat} (h:vs.length<=n) (hv:∀v∈vs,v.2.2.1.2.2.1.size<=20) (hn:n<=1048576):Sm (.sl dy) vs:=⟨Nat.le_trans h hn,fun v hm=>⟨trivial,trivial,⟨trivial,trivial,Nat.le_trans (hv v hm) (by decide),trivial⟩,trivial⟩⟩
def oP (w:List ag.D):Prop:=w.length<=9/\∀v∈w,v.2.2.1.size<=20
def ki (t:aj.D):Prop:=t.1.length<=6/\t.2.1.length<=7/\∀w∈t.2.1,oP w
def mF (s:de.D):Prop:=s.2.2.2.2.1.length<=81/\(∀v∈s.2.2.2.2.1,v.2.2.1.2.2.1.size<=20)/\s.2.2.2.2.2.1.length<=3
def gdD (g:gQ.D):Prop:=g.2.1.length<=81/\∀v∈g.2.1,v.2.2.1.2.2.1.size<=20
def qG (t:aj.D):Prop:=t.1.length<=4/\t.2.1.length<=6/\∀w∈t.2.1,w.length<=4
theorem zL {w:List ag.D} (h:w.length<=9) (h2:∀v∈w,v.2.2.1.size<=20):oP w:=⟨h,h2⟩
theorem zJ {c:List ai.D} {r:List (List ag.D)} (h:c.length<=6) (h2:r.length<=7) (h3:∀w∈r,oP w):ki (c,r,()):=⟨h,h2,h3⟩
theorem zm {k a b n:Int} {e:List dy.D} {l:List Int} (h:e.length<=81) (h2:∀v∈e,v.2.2.1.2.2.1.size<=20) (h3:l.length<=3):mF (k,a,b,n,e,l,()):=⟨h,h2,h3⟩
theorem xz {n:Int} {e:List dy.D} (h:e.length<=81) (h2:∀v∈e,v.2.2.1.2.2.1.size<=20):gdD (n,e,()):=⟨h,h2⟩
theorem mq {t:Ty} {P:t.D->Prop} {xs:List t.D} (h:∀x∈xs,P x) (hz:P t.zero) (i:Int):P (nth (t:=t) xs i):=by
 unfold nth
 rw[List.getD_eq_getElem?_getD]
 cases he:xs[i.toNat]? with
 | none=>exact hz
 | some x=>exact h x (List.mem_of_getElem? he)
theorem so {xs:List (List ag.D)} (h:∀w∈xs,oP w) (i:Int):oP (nth (t:=.sl ag) xs i):=mq (t:=.sl ag) (P:=oP) h ⟨Nat.zero_le _,fun _ h=>by cases h⟩ i
theorem Ax {w:List ag.D} (h:oP w):Sm (.sl ag) w:=ug h.1 h.2 (by decide)
theorem ko {xs:List gQ.D} (h:∀w∈xs,gdD w) (i:Int):gdD (nth (t:=gQ) xs i):=mq (t:=gQ) (P:=gdD) h ⟨Nat.zero_le _,fun _ h=>by cases h⟩ i
theorem mg {xs:List (List ai.D)} (h:∀c∈xs,c.length<=6) (i:Int):(nth (t:=.sl ai) xs i:List ai.D).length<=6:=mq (t:=.sl ai) (P:=fun c:List ai.D=>c.length<=6) h (Nat.zero_le _) i
theorem og {xs:List aj.D} (h:∀w∈xs,ki w) (i:Int):ki (nth (t:=aj) xs i):=mq (t:=aj) (P:=ki) h ⟨Nat.zero_le _,Nat.zero_le _,fun _ h=>by cases h⟩ i
theorem qW {xs:List aj.D} (h:∀w∈xs,qG w) (i:Int):qG (nth (t:=aj) xs i):=mq (t:=aj) (P:=qG) h ⟨Nat.zero_le _,Nat.zero_le _,fun _ h=>by cases h⟩ i
theorem xH {xs:List aj.D} {i:Int} {k:Nat} {w:List (List ag.D)} (h:∀t∈xs,ki t) (he:∀t∈xs,qG t) (hw:∀r∈w,oP r) (hl:w.length<=1) :
  ∀t∈((xs.set k ((nth (t:=aj) xs i).1,([],()))).set k ((nth (t:=aj) (xs.set k ((nth (t:=aj) xs i).1,([],()))) i).1,((((nth (t:=aj) xs i).2).1++w),()))),ki t:=by
 have h1:=og h i
 have h2:=qW he i
 have h3:∀t∈xs.set k ((nth (t:=aj) xs i).1,([],())),ki t:=oB h ⟨h1.1,Nat.zero_le _,fun _ h=>by cases h⟩
 refine oB h3 ⟨(og h3 i).1,?_,wX h1.2.2 hw⟩
 have:=h2.2.1
 show (((nth (t:=aj) xs i).2).1++w).length<=7
 rw[List.length_append]
 omega
theorem xC {xs:List aj.D} {i:Int} {k:Nat} {w:List ai.D} (h:∀t∈xs,ki t) (he:∀t∈xs,qG t) (hl:w.length<=1) :
  ∀t∈((xs.set k ([],(nth (t:=aj) xs i).2)).set k (((nth (t:=aj) xs i).1++w),(nth (t:=aj) (xs.set k ([],(nth (t:=aj) xs i).2)) i).2)),ki t:=by
 have h1:=og h i
 have h2:=qW he i
 have h3:∀t∈xs.set k ([],(nth (t:=aj) xs i).2),ki t:=oB h ⟨Nat.zero_le _,h1.2⟩
 refine oB h3 ⟨?_,(og h3 i).2⟩
 have:=h2.1
 show ((nth (t:=aj) xs i).1++w).length<=6
 rw[List.length_append]
 omega
theorem wY {α:Type} (xs:List α) (c:Option (Int×Int)):(ax xs c).length<=xs.length:=by
 cases c with
 | none=>exact Nat.le_refl _
 | some p=>
  unfold ax
  simp only[List.length_drop,List.length_take]
  omega
theorem Aw {α:Type} {xs:List α} {k:Int} (h:k<=2):(ax xs (some ((0:Int),k))).length<=2:=by
 unfold ax
 simp only[List.length_drop,List.length_take]
 omega
theorem zy {α:Type} {P:α->Prop} {xs:List α} (h:∀x∈xs,P x) (c:Option (Int×Int)):∀x∈ax xs c,P x:=by
 intro x hx
 cases c with
 | none=>exact h x hx
 | some p=>exact h x (List.mem_of_mem_drop (List.mem_of_mem_take hx))
theorem zT {ts:List aj.D} (h:Sm (.sl aj) ts) (i:Int):Sm (.sl ai) (nth (t:=aj) ts i).1:=mq (t:=aj) (P:=fun t:aj.D=>Sm (.sl ai) t.1) (fun t hm=>(h.2 t hm).1) (lK _) i
theorem zV {xs:List (List ai.D)} {n:Nat} (h:xs.length<=n) (hc:∀c∈xs,c.length<=6) (hn:n<=1048576):Sm (.sl (.sl ai)) xs:=⟨Nat.le_trans h hn,fun c hm=>jQ rfl (hc c hm) (by decide)⟩
theorem yR {xs:List de.D} {n:Nat} (h:xs.length<=n) (hs:∀s∈xs,mF s) (hn:n<=1048576):Sm (.sl de) xs:=
 ⟨Nat.le_trans h hn,fun s hm=>⟨trivial,trivial,trivial,trivial,uY (hs s hm).1 (hs s hm).2.1 (by decide),jQ (t:=.int .i64) rfl (hs s hm).2.2 (by decide),trivial⟩⟩
theorem wR {xs:List aj.D} {n:Nat} (h:xs.length<=n) (hs:∀s∈xs,ki s) (hn:n<=1048576):Sm (.sl aj) xs:=
 ⟨Nat.le_trans h hn,fun s hm=>⟨jQ rfl (hs s hm).1 (by decide),⟨Nat.le_trans (hs s hm).2.1 (by decide),fun w hw=>ug ((hs s hm).2.2 w hw).1 ((hs s hm).2.2 w hw).2 (by decide)⟩,trivial⟩⟩
theorem xV {xs:List gQ.D} {n:Nat} (h:xs.length<=n) (hs:∀s∈xs,gdD s) (hn:n<=1048576):Sm (.sl gQ) xs:=
 ⟨Nat.le_trans h hn,fun s hm=>⟨trivial,uY (hs s hm).1 (hs s hm).2 (by decide),trivial⟩⟩
theorem jl1 {r:List (List ai.D)} (h:∀c∈r,c.length<=6) {i:Int}:(([]:List ai.D).length+(nth (t:=.sl ai) r i:List ai.D).length) * 16<=lim:=by
 have:=mg h i
 simp only[List.length_nil,lim]
 omega
theorem jl2 {r:List (List ai.D)} (h:∀c∈r,c.length<=6) {i j:Int}:(([]++(nth (t:=.sl ai) r i:List ai.D)).length+(nth (t:=.sl ai) r j:List ai.D).length) * 16<=lim:=by
 have:=mg h i
 have:=mg h j
 simp only[List.nil_append,lim]
 omega
theorem jl3 {r:List (List ai.D)} (h:∀c∈r,c.length<=6) {i j:Int}:Sm (.sl ai) (([]++(nth (t:=.sl ai) r i:List ai.D))++(nth (t:=.sl ai) r j:List ai.D)):=by
 have:=mg h i
 have:=mg h j
 exact jQ (n:=12) rfl (by simp only[List.nil_append,List.length_append];omega) (by decide)
theorem mb {a n:Int} (ha:0<=a) (hn:1<=n):0<=a.tmod n/\a.tmod n<n:=by
 rw[Int.tmod_eq_emod_of_nonneg ha]
 exact⟨Int.emod_nonneg _ (by omega),Int.emod_lt_of_pos _ (by omega)⟩
theorem xq {a n:Int} (ha:0<=a) (hn:1<=n):0<=a.tdiv n/\a.tdiv n<=a:=by
 rw[Int.tdiv_eq_ediv_of_nonneg ha]
 exact⟨Int.ediv_nonneg ha (by omega),Int.ediv_le_self _ ha⟩
theorem xI {u n:Int} (hu:0<=u/\u<=255) (hn:1<=n):0<=(wrap64 u).tmod n/\(wrap64 u).tmod n<n:=by
 rw[aO (n:=u) (by omega) (by omega)]
 exact mb hu.1 hn
theorem yV {u v p q n:Int} (hu:0<=u/\u<=255) (hv:0<=v/\v<=255) (p0:0<=p) (p1:p<=1000000000000000) (hq:0<=q/\q<=p) (hn:1<=n) :
  0<=(iZ .xor .i64 (wrap64 (wrap64 (wrap64 (wrap64 ((wrap64 u) * (131:Int))+wrap64 ((wrap64 v) * (1117:Int)))+wrap64 (p * (29:Int)))+wrap64 ((wrap64 q) * (53:Int)))) (wrap64 ((wrap64 (wrap64 (wrap64 (wrap64 ((wrap64 u) * (131:Int))+wrap64 ((wrap64 v) * (1117:Int)))+wrap64 (p * (29:Int)))+wrap64 ((wrap64 q) * (53:Int)))).tdiv (64:Int)))).tmod n ∧
  (iZ .xor .i64 (wrap64 (wrap64 (wrap64 (wrap64 ((wrap64 u) * (131:Int))+wrap64 ((wrap64 v) * (1117:Int)))+wrap64 (p * (29:Int)))+wrap64 ((wrap64 q) * (53:Int)))) (wrap64 ((wrap64 (wrap64 (wrap64 (wrap64 ((wrap64 u) * (131:Int))+wrap64 ((wrap64 v) * (1117:Int)))+wrap64 (p * (29:Int)))+wrap64 ((wrap64 q) * (53:Int)))).tdiv (64:Int)))).tmod n<n:=by
 have e:wrap64 (wrap64 (wrap64 (wrap64 ((wrap64 u) * (131:Int))+wrap64 ((wrap64 v) * (1117:Int)))+wrap64 (p * (29:Int)))+wrap64 ((wrap64 q) * (53:Int)))=u * 131+v * 1117+p * 29+q * 53:=by
  rw[aO (n:=u) (by omega) (by omega),aO (n:=v) (by omega) (by omega),aO (n:=q) (by omega) (by omega),aO (n:=u * 131) (by omega) (by omega),aO (n:=v * 1117) (by omega) (by omega),aO (n:=p * 29) (by omega) (by omega),aO (n:=q * 53) (by omega) (by omega),aO (n:=u * 131+v * 1117) (by omega) (by omega),aO (n:=u * 131+v * 1117+p * 29) (by omega) (by omega),aO (by omega) (by omega)]
 rw[e]
 generalize hA:u * 131+v * 1117+p * 29+q * 53=A
 have a0:0<=A:=by omega
 have a1:A<9223372036854775808:=by omega
 obtain⟨d0,d1⟩:=xq (n:=64) a0 (by decide)
 rw[aO (n:=A.tdiv 64) (by omega) (by omega)]
 exact mb (wD a0 a1 d0 (by omega)) hn
theorem yN {xs:List ByteArray} {k:Nat} (h:xs.all (fun s=>decide (s.size<=k))=true) (i:Int):(nth (t:=Ty.str) xs i:ByteArray).size<=k:=by
 unfold nth
 rw[List.getD_eq_getElem?_getD]
 cases he:xs[i.toNat]? with
 | none=>exact Nat.zero_le _
 | some x=>exact of_decide_eq_true (List.all_eq_true.1 h x (List.mem_of_getElem? he))
theorem xY {b:List Int} (h:ak b) (c:Option (Int×Int)):ak (ax b c):=by
 intro x hx
 cases c with
 | none=>exact h x hx
 | some p=>exact h x (List.mem_of_mem_drop (List.mem_of_mem_take hx))
end M
theorem M.AS {x n:Int} (h0:0<=x) (h1:1<=n) (h2:n<=6):0<=wrap64 ((1:Int)+x.tmod n)/\wrap64 ((1:Int)+x.tmod n)<=n:=by
 have:=M.mb h0 h1
 rw[aO (by omega) (by omega)]
 omega
theorem M.Bl {x n:Int} (h0:0<=x) (h2:x<2) (h1:1<=n):wrap64 ((1:Int)+x.tmod n)<=2:=by
 have:=M.mb h0 h1
 have h3:x.tmod n<=x:=by
  rw[Int.tmod_eq_emod_of_nonneg h0]
  have:=Int.emod_add_mul_ediv x n
  have q:=Int.mul_nonneg (show 0<=n by omega) (Int.ediv_nonneg h0 (show 0<=n by omega))
  omega
 rw[aO (by omega) (by omega)]
 omega
theorem cl {p:Prop} (h:p:=by ((try dsimp only);(repeat' (first | assumption | exact all_nil | refine all_cons ?_ ?_ | refine wX ?_ ?_ | refine oB ?_ ?_ | refine zv ?_ | refine M.zy ?_ _ | refine M.zL ?_ ?_ | refine M.zJ ?_ ?_ ?_ | refine M.zm ?_ ?_ ?_ | refine M.xz ?_ ?_ | exact M.so (by assumption) _ | exact M.ko (by assumption) _ | exact(M.ko (by assumption) _).1 | exact(M.ko (by assumption) _).2 | exact Nat.le_trans (M.wY _ _) (by omega) | exact Nat.le_trans (M.wY _ _) (M.ko (by assumption) _).1 | decide | omega | (dsimp only;first | assumption | omega | decide)));done)):p:=h
theorem au {p:Prop} (h:p:=by first | assumption | omega | decide | trivial | (dsimp only;first | assumption | omega | decide) | (simp only[rI,sq,mR,List.size_toArray,List.length_cons,List.length_nil,List.length_append,List.length_take,List.length_set,List.length_replicate];omega) | (simp only[rI,sq,mR,List.size_toArray,List.length_cons,List.length_nil,List.length_append,List.length_take,List.length_set,List.length_replicate,lim];omega) | (simp only[rI,sq,mR,List.size_toArray,List.length_cons,List.length_nil,List.length_append,List.length_take,List.length_set,List.length_replicate,lim,wrap64];omega) | exact M.jQ rfl (by assumption) (by decide) | exact M.ug (by assumption) (by assumption) (by decide) | exact M.xY (by assumption) _ | exact wg (by assumption) _ | exact lK _ | exact Nat.le_trans (M.yN (k:=2) rfl _) (by decide) | exact(M.AS (by assumption) (by omega) (by omega)).1 | exact(M.AS (by assumption) (by omega) (by omega)).2 | exact wg (M.jQ rfl (by assumption) (by decide)) _ | exact fun _=>rfl | (intro _;omega) | exact M.Ax (M.so (by assumption) _) | exact M.zT (by assumption) _ | exact M.jl1 (by assumption) | exact M.jl2 (by assumption) | exact M.jl3 (by assumption) | exact M.jQ rfl (M.mg (by assumption) _) (by decide) | exact M.zV (by assumption) (by assumption) (by decide) | exact M.wR (by assumption) (by assumption) (by decide) | exact M.xV (by assumption) (by assumption) (by decide) | exact M.yR (n:=1000) (by first | omega | (simp only[List.length_append,List.length_cons,List.length_nil];omega)) (by exact cl) (by decide) | exact cl):p:=h
section
variable {α β σ ρ τ ε:Type} {K:α->Prop}
theorem okG {p:Prop} {x:Option α} (k:ok x K) (h:p:=by exact au):ok (ah p x) K:=by rw[aF h];exact k
theorem okL {γ:Type} {x:γ} {f:γ->Option α} (k:∀r,r=x->ok (f r) K):ok (aY x f) K:=k x rfl
theorem okC {b:Bool} {x y:Option α} (h1:b=true->ok x K) (h2:b=false->ok y K):ok (cond b x y) K:=by
 cases b
 ·exact h2 rfl
 ·exact h1 rfl
theorem okD {p:Prop} [Decidable p] {x y:Option α} (h1:p->ok x K) (h2:¬p->ok y K):ok (cond (decide p) x y) K:=okC (fun h=>h1 (of_decide_eq_true h)) (fun h=>h2 (of_decide_eq_false h))
theorem AZ {p:Prop} [Decidable p] {x y:Option α} (h1:p->ok x K) (h2:¬p->ok y K):ok (cond (decide p==true) x y) K:=okC (fun h=>h1 (by simpa using h)) (fun h=>h2 (by simpa using h))
theorem Bg {p:Prop} [Decidable p] {x y:Option α} (h1:¬p->ok x K) (h2:p->ok y K):ok (cond (decide p==false) x y) K:=okC (fun h=>h1 (by simpa using h)) (fun h=>h2 (by simpa using h))
theorem okS {x:α} (h:K x):ok (some x) K:=h
theorem AP {x:α} {P Q:α->Prop} (h0:P x:=by exact au) (h1:Q x:=by exact au):ok (some x) (fun r=>P r/\Q r):=⟨h0,h1⟩
theorem ot {x:α} {P Q R:α->Prop} (h0:P x:=by exact au) (h1:Q x:=by exact au) (h2:R x:=by exact au):ok (some x) (fun r=>P r/\Q r/\R r):=⟨h0,h1,h2⟩
theorem AW {x:α} {P Q R S:α->Prop} (h0:P x:=by exact au) (h1:Q x:=by exact au) (h2:R x:=by exact au) (h3:S x:=by exact au):ok (some x) (fun r=>P r/\Q r/\R r/\S r):=⟨h0,h1,h2,h3⟩
theorem xD {x:α} {P Q R S T:α->Prop} (h0:P x:=by exact au) (h1:Q x:=by exact au) (h2:R x:=by exact au) (h3:S x:=by exact au) (h4:T x:=by exact au):ok (some x) (fun r=>P r/\Q r/\R r/\S r/\T r):=⟨h0,h1,h2,h3,h4⟩
theorem zM {x:α} {P Q R S T U V:α->Prop} (h0:P x:=by exact au) (h1:Q x:=by exact au) (h2:R x:=by exact au) (h3:S x:=by exact au) (h4:T x:=by exact au) (h5:U x:=by exact au) (h6:V x:=by exact au):ok (some x) (fun r=>P r/\Q r/\R r/\S r/\T r/\U r/\V r):=⟨h0,h1,h2,h3,h4,h5,h6⟩
theorem lB {f:σ->Prop} {g:ρ->Prop} {s:σ} (h:f s):ok (some (.inl s:Sum σ ρ)) (bO f g):=h
theorem iH {f:σ->Prop} {g:ρ->Prop} {r:ρ} (h:g r):ok (some (.inr r:Sum σ ρ)) (bO f g):=h
theorem okT {o:Option (Sum σ ρ)} {f:σ->Option α} {g:ρ->Option α} {A:σ->Prop} {B:ρ->Prop} (h:ok o (bO A B)) (ha:∀s,A s->ok (f s) K) (hb:∀r,B r->ok (g r) K):ok (bG o f g) K:=by
 cases o with
 | none=>exact h.elim
 | some z=>
  cases z with
  | inl s=>exact ha s h
  | inr r=>exact hb r h
theorem okB {γ:Type} {o:Option γ} {f:γ->Option α} {A:γ->Prop} (h:ok o A) (ha:∀x,A x->ok (f x) K):ok (Option.bind o f) K:=by
 cases o with
 | none=>exact h.elim
 | some z=>exact ha z h
theorem okW {f:σ->Option (Sum σ ρ)} {R:ρ->Prop} (I:Nat->σ->Prop) (h:∀n s,I n s->ok (f s) (bO (fun s'=>∃m,m<n/\I m s') R)):∀(n:Nat) (s:σ),I n s->ok (bM f s) R:=by
 intro n
 induction n using Nat.strongRecOn with
 | ind n ih=>
  intro s hs
  rw[fC]
  refine okT (h n s hs) (fun s' ⟨m,hm,hi⟩=>ih m hm s' hi) (fun r hr=>okS hr)
theorem okE {f:α->σ->Option (Sum σ ρ)} {R:ρ->Prop} (I:Nat->σ->Prop):∀(xs:List α) (n:Nat) (s:σ),I n s->(∀x∈xs,∀(k:Nat) (s:σ),n<=k->k<n+xs.length->I k s->ok (f x s) (bO (I (k+1)) R))->ok (aU f xs s) (bO (I (n+xs.length)) R)
 | [],n,s,hs,_=>hs
 | x::xs,n,s,hs,h=>by
  show ok (bG (f x s) _ _) _
  refine okT (h x List.mem_cons_self n s (Nat.le_refl _) (by simp) hs) (fun s' hs'=>?_) (fun r hr=>okS hr)
  have:=okE I xs (n+1) s' hs' (fun y hy k s hk hl hi=>h y (List.mem_cons_of_mem _ hy) k s (by omega) (by simp;omega) hi)
  rw[List.length_cons,show n+(xs.length+1)=n+1+xs.length by omega]
  exact this
theorem hG {o:Option α} {d:α} (h:ok o K):o=some (o.getD d):=by
 cases o with
 | none=>exact h.elim
 | some x=>rfl
theorem hO {o:Option α} {d:α} (h:ok o K):K (o.getD d):=by
 cases o with
 | none=>exact h.elim
 | some x=>exact h
theorem Bk {f:α->σ->Option (Sum σ ρ)} {R:ρ->Prop} (I:Nat->σ->Prop) {xs:List α} {s:σ} (h0:I 0 s) (h:∀x∈xs,∀(k:Nat) (s:σ),k<xs.length->I k s->ok (f x s) (bO (I (k+1)) R)):ok (aU f xs s) (bO (I xs.length) R):=by
 have:=okE (R:=R) I xs 0 s h0 (fun x hx k s _ hk hi=>h x hx k s (by omega) hi)
 rw[Nat.zero_add] at this
 exact this
end
end Go.AE
