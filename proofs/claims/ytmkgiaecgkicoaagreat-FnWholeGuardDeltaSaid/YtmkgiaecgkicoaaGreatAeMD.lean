/- How it is shown that a function's value is there, and what holds of it: plain Lean. -/
import Derived.Test.YtmkgiaecgkicoaaGreatAeMP
import Derived.Test.YtmkgiaecgkicoaaGreatAeInl
section
namespace Go.AE
open Go Go.RowKit
set_option linter.unusedVariables false
def M.ay (b:List Int):Prop:=∀x∈b,0<=x/\x<=255
theorem EJ {a b:Int} (ha:0<=a) (ha':a<9223372036854775808) (hb:0<=b) (hb':b<9223372036854775808):0<=nY .xor .i64 a b:=by
 have h1:(BitVec.ofInt 64 a).toNat<2 ^ 63:=by rw[BitVec.toNat_ofInt];omega
 have h2:(BitVec.ofInt 64 b).toNat<2 ^ 63:=by rw[BitVec.toNat_ofInt];omega
 have h3:(BitVec.ofInt 64 a ^^^ BitVec.ofInt 64 b).toNat<2 ^ 63:=by
  rw[BitVec.toNat_xor]
  exact Nat.xor_lt_two_pow h1 h2
 show 0<=IntKind.i64.wrap (((BitVec.ofInt 64 a ^^^ BitVec.ofInt 64 b).toNat:Nat):Int)
 generalize (BitVec.ofInt 64 a ^^^ BitVec.ofInt 64 b).toNat=m at h3
 have e:((m:Int) % 2 ^ 64)=(m:Int):=by omega
 unfold IntKind.wrap
 simp only[show IntKind.i64.bits=64 from rfl,e]
 split
 ·rename_i h
  simp only[Bool.and_eq_true,decide_eq_true_eq] at h
  omega
 ·omega
theorem tE (xs:List Int):(strOf xs).size=xs.length:=by
 unfold strOf
 show (List.toArray _).size=_
 simp
theorem Al (a b:ByteArray):(a++b).size=a.size+b.size:=ByteArray.size_append
def M.eB (deep:Int):Nat:=if deep<=0 then 3 else if deep<=1 then 9 else if deep<=2 then 27 else 81
section
variable {α:Type} {P:α->Prop} {a b:List α} {x:α}
theorem all_nil:∀v∈([]:List α),P v:=fun _ h=>by cases h
theorem all_cons (h:P x) (hb:∀v∈b,P v):∀v∈x::b,P v:=fun v hv=>by
 rcases List.mem_cons.1 hv with rfl | hv
 ·exact h
 ·exact hb v hv
theorem CO (ha:∀v∈a,P v) (hb:∀v∈b,P v):∀v∈a++b,P v:=fun v hv=>(List.mem_append.1 hv).elim (ha v) (hb v)
theorem Jw {n:Nat} (ha:∀v∈a,P v) (h:P x):∀v∈a.set n x,P v:=fun v hv=>by
 rcases List.mem_or_eq_of_mem_set hv with hv | rfl
 ·exact ha v hv
 ·exact h
theorem HL {n:Nat} (ha:∀v∈a,P v):∀v∈a.take n,P v:=fun v hv=>ha v (List.mem_of_mem_take hv)
theorem AG (l:Array UInt8):(⟨l⟩:ByteArray).size=l.size:=rfl
end
namespace M
theorem Gk {d:Int}:3<=eB d/\eB d<=81:=by
 unfold eB
 repeat' split
 all_goals omega
theorem EL {d:Int} (h1:1<=d) (h3:d<=3):3 * eB (d-1)=eB d/\eB (d-2)<=eB (d-1):=by
 have:d=1\/d=2\/d=3:=by omega
 rcases this with rfl | rfl | rfl<;>decide
theorem Lj {d:Int} (h3:d<=3):1<=d->3 * eB (wrap64 (d-(1:Int)))<=eB d:=fun h1=>by
 rw[aF (by omega) (by omega),(EL h1 h3).1]
 exact Nat.le_refl _
theorem Lg {d:Int} (h3:d<=3):1<=d->3 * eB (wrap64 (d-(2:Int)))<=eB d:=fun h1=>by
 rw[aF (by omega) (by omega),<-(EL h1 h3).1]
 exact Nat.mul_le_mul_left 3 (EL h1 h3).2
theorem bytes_of_fine {x:List Int} (h:wv (.sl (.int .u8)) x):ay x:=fun n hn=>by
 have:=h.2 n hn
 unfold wv Lit.wf at this
 simp only[Bool.and_eq_true,decide_eq_true_eq] at this
 exact this
theorem wM {b:List Int} (h:ay b) (i:Int):0<=nth (t:=.int .u8) b i/\nth (t:=.int .u8) b i<=255:=by
 unfold nth
 rw[List.getD_eq_getElem?_getD]
 cases he:b[i.toNat]? with
 | none=>exact⟨Int.le_refl _,by decide⟩
 | some x=>exact h x (List.mem_of_getElem? he)
theorem jK {t:Ty} (ht:t.bare=true) {xs:List t.D} {n:Nat} (h:xs.length<=n) (hn:n<=1048576):Sm (.sl t) xs:=⟨Nat.le_trans h hn,fun x _=>yO ht x⟩
theorem yR {vs:List af.D} {n:Nat} (h:vs.length<=n) (hv:∀v∈vs,v.2.2.1.size<=20) (hn:n<=1048576):Sm (.sl af) vs:=⟨Nat.le_trans h hn,fun v hm=>⟨trivial,trivial,Nat.le_trans (hv v hm) (by decide),trivial⟩⟩
theorem zm {vs:List aD.D} {n:Nat} (h:vs.length<=n) (hv:∀v∈vs,v.2.2.1.2.2.1.size<=20) (hn:n<=1048576):Sm (.sl aD) vs:=⟨Nat.le_trans h hn,fun v hm=>⟨trivial,trivial,⟨trivial,trivial,Nat.le_trans (hv v hm) (by decide),trivial⟩,trivial⟩⟩
def wZ (w:List af.D):Prop:=w.length<=9/\∀v∈w,v.2.2.1.size<=20
def iY (t:ai.D):Prop:=t.1.length<=6/\t.2.1.length<=7/\∀w∈t.2.1,wZ w
def iD (s:ah.D):Prop:=s.2.2.2.2.1.length<=81/\(∀v∈s.2.2.2.2.1,v.2.2.1.2.2.1.size<=20)/\s.2.2.2.2.2.1.length<=3
def gdD (g:aI.D):Prop:=g.2.1.length<=81/\∀v∈g.2.1,v.2.2.1.2.2.1.size<=20
def nH (t:ai.D):Prop:=t.1.length<=4/\t.2.1.length<=6/\∀w∈t.2.1,w.length<=4
def Fg (t:ai.D):Prop:=1<=t.1.length
def bdD (b:jy.D):Prop:=b.2.2.1.length<=3/\b.2.2.2.2.1.length<=3/\b.2.2.2.2.2.2.1.length<=27/\∀v∈b.2.2.2.2.2.2.1,v.2.2.1.2.2.1.size<=20
def chD (c:aK.D):Prop:=c.2.1.length<=5/\∀v∈c.2.1,v.2.2.1.size<=20
theorem KE {k i n:Int} {l t:List Int} {f:Bool} {e:List aD.D} (h1:l.length<=3) (h2:t.length<=3) (h3:e.length<=27) (h4:∀v∈e,v.2.2.1.2.2.1.size<=20):bdD (k,i,l,n,t,f,e,()):=⟨h1,h2,h3,h4⟩
theorem Kz {i:Int} {w:List af.D} {b:Bool} (h1:w.length<=5) (h2:∀v∈w,v.2.2.1.size<=20):chD (i,w,b,()):=⟨h1,h2⟩
theorem Jy {w:List af.D} (h:w.length<=9) (h2:∀v∈w,v.2.2.1.size<=20):wZ w:=⟨h,h2⟩
theorem JF {c:List ag.D} {r:List (List af.D)} (h:c.length<=6) (h2:r.length<=7) (h3:∀w∈r,wZ w):iY (c,r,()):=⟨h,h2,h3⟩
theorem IV {k a b n:Int} {e:List aD.D} {l:List Int} (h:e.length<=81) (h2:∀v∈e,v.2.2.1.2.2.1.size<=20) (h3:l.length<=3):iD (k,a,b,n,e,l,()):=⟨h,h2,h3⟩
theorem GO {n:Int} {e:List aD.D} (h:e.length<=81) (h2:∀v∈e,v.2.2.1.2.2.1.size<=20):gdD (n,e,()):=⟨h,h2⟩
theorem qO {t:Ty} {P:t.D->Prop} {xs:List t.D} (h:∀x∈xs,P x) (hz:P t.zero) (i:Int):P (@nth t xs i):=by
 unfold nth
 rw[List.getD_eq_getElem?_getD]
 cases he:xs[i.toNat]? with
 | none=>exact hz
 | some x=>exact h x (List.mem_of_getElem? he)
theorem zW {xs:List (List af.D)} (h:∀w∈xs,wZ w) (i:Int):wZ (nth (t:=.sl af) xs i):=qO (t:=.sl af) (P:=wZ) h ⟨Nat.zero_le _,fun _ h=>by cases h⟩ i
theorem KO {w:List af.D} (h:wZ w):Sm (.sl af) w:=yR h.1 h.2 (by decide)
theorem qu {xs:List aI.D} (h:∀w∈xs,gdD w) (i:Int):gdD (@nth aI xs i):=qO (t:=aI) (P:=gdD) h ⟨Nat.zero_le _,fun _ h=>by cases h⟩ i
theorem mD {xs:List (List ag.D)} (h:∀c∈xs,c.length<=6) (i:Int):(nth (t:=.sl ag) xs i:List ag.D).length<=6:=qO (t:=.sl ag) (P:=fun c:List ag.D=>c.length<=6) h (Nat.zero_le _) i
theorem Ic {xs:List ai.D} (h:∀w∈xs,nH w) (i:Int):nH (@nth ai xs i):=qO (t:=ai) (P:=nH) h ⟨Nat.zero_le _,Nat.zero_le _,fun _ h=>by cases h⟩ i
theorem Cx {xs:List jy.D} (h:∀w∈xs,bdD w) (i:Int):bdD (@nth jy xs i):=qO (t:=jy) (P:=bdD) h ⟨Nat.zero_le _,Nat.zero_le _,Nat.zero_le _,fun _ h=>by cases h⟩ i
theorem FA {b:jy.D} (h:bdD b) (f:Bool):bdD (b.1,(b.2.1,(b.2.2.1,(b.2.2.2.1,(b.2.2.2.2.1,(f,b.2.2.2.2.2.2)))))):=h
theorem GB {b:jy.D} (h:bdD b):Sm jy b:=⟨trivial,trivial,jK (t:=.int .i64) rfl h.1 (by decide),trivial,jK (t:=.int .i64) rfl h.2.1 (by decide),trivial,zm h.2.2.1 h.2.2.2 (by decide),trivial⟩
theorem IN {xs:List jy.D} {n:Nat} (h:xs.length<=n) (hs:∀s∈xs,bdD s) (hn:n<=1048576):Sm (.sl jy) xs:=⟨Nat.le_trans h hn,fun s hm=>GB (hs s hm)⟩
theorem Hr {c:aK.D} (h:chD c):Sm aK c:=⟨trivial,yR h.1 h.2 (by decide),trivial,trivial⟩
theorem Cg {α:Type} (xs:List α) (c:Option (Int×Int)):(aj xs c).length<=xs.length:=by
 cases c with
 | none=>exact Nat.le_refl _
 | some p=>
  unfold aj
  simp only[List.length_drop,List.length_take]
  omega
theorem Gv {α:Type} {xs:List α} {k:Int} (h0:0<=k) (h:1<=xs.length) (hk:1<=k):1<=(aj xs (some ((0:Int),k))).length:=by
 unfold aj
 simp only[List.length_drop,List.length_take]
 omega
theorem KP {α:Type} {xs:List α} {k:Int} (h:k<=2):(aj xs (some ((0:Int),k))).length<=2:=by
 unfold aj
 simp only[List.length_drop,List.length_take]
 omega
theorem JV {α:Type} {P:α->Prop} {xs:List α} (h:∀x∈xs,P x) (c:Option (Int×Int)):∀x∈aj xs c,P x:=by
 intro x hx
 cases c with
 | none=>exact h x hx
 | some p=>exact h x (List.mem_of_mem_drop (List.mem_of_mem_take hx))
theorem JN {ts:List ai.D} (h:Sm (.sl ai) ts) (i:Int):Sm (.sl ag) (@nth ai ts i).1:=qO (t:=ai) (P:=fun t:ai.D=>Sm (.sl ag) t.1) (fun t hm=>(h.2 t hm).1) (kJ _) i
theorem CV {xs:List (List ag.D)} {n:Nat} (h:xs.length<=n) (hc:∀c∈xs,c.length<=6) (hn:n<=1048576):Sm (.sl (.sl ag)) xs:=⟨Nat.le_trans h hn,fun c hm=>jK rfl (hc c hm) (by decide)⟩
theorem rC {xs:List ah.D} {n:Nat} (h:xs.length<=n) (hs:∀s∈xs,iD s) (hn:n<=1048576):Sm (.sl ah) xs:=
 ⟨Nat.le_trans h hn,fun s hm=>⟨trivial,trivial,trivial,trivial,zm (hs s hm).1 (hs s hm).2.1 (by decide),jK (t:=.int .i64) rfl (hs s hm).2.2 (by decide),trivial⟩⟩
theorem Gd {xs:List ai.D} {n:Nat} (h:xs.length<=n) (hs:∀s∈xs,iY s) (hn:n<=1048576):Sm (.sl ai) xs:=
 ⟨Nat.le_trans h hn,fun s hm=>⟨jK rfl (hs s hm).1 (by decide),⟨Nat.le_trans (hs s hm).2.1 (by decide),fun w hw=>yR ((hs s hm).2.2 w hw).1 ((hs s hm).2.2 w hw).2 (by decide)⟩,trivial⟩⟩
theorem BQ {xs:List aI.D} {n:Nat} (h:xs.length<=n) (hs:∀s∈xs,gdD s) (hn:n<=1048576):Sm (.sl aI) xs:=
 ⟨Nat.le_trans h hn,fun s hm=>⟨trivial,zm (hs s hm).1 (hs s hm).2 (by decide),trivial⟩⟩
theorem jl1 {r:List (List ag.D)} (h:∀c∈r,c.length<=6) {i:Int}:(([]:List ag.D).length+(nth (t:=.sl ag) r i:List ag.D).length) * 16<=lim:=by
 have:=mD h i
 simp only[List.length_nil,lim]
 omega
theorem jl2 {r:List (List ag.D)} (h:∀c∈r,c.length<=6) {i j:Int}:(([]++(nth (t:=.sl ag) r i:List ag.D)).length+(nth (t:=.sl ag) r j:List ag.D).length) * 16<=lim:=by
 have:=mD h i
 have:=mD h j
 simp only[List.nil_append,lim]
 omega
theorem jl3 {r:List (List ag.D)} (h:∀c∈r,c.length<=6) {i j:Int}:Sm (.sl ag) (([]++(nth (t:=.sl ag) r i:List ag.D))++(nth (t:=.sl ag) r j:List ag.D)):=by
 have:=mD h i
 have:=mD h j
 exact jK (n:=12) rfl (by simp only[List.nil_append,List.length_append];omega) (by decide)
theorem qc {a n:Int} (ha:0<=a) (hn:1<=n):0<=a.tmod n/\a.tmod n<n:=by
 rw[Int.tmod_eq_emod_of_nonneg ha]
 exact⟨Int.emod_nonneg _ (by omega),Int.emod_lt_of_pos _ (by omega)⟩
theorem FQ {a n:Int} (ha:0<=a) (hn:1<=n):0<=a.tdiv n/\a.tdiv n<=a:=by
 rw[Int.tdiv_eq_ediv_of_nonneg ha]
 exact⟨Int.ediv_nonneg ha (by omega),Int.ediv_le_self _ ha⟩
theorem Hu {u n:Int} (hu:0<=u/\u<=255) (hn:1<=n):0<=(wrap64 u).tmod n/\(wrap64 u).tmod n<n:=by
 rw[aF (n:=u) (by omega) (by omega)]
 exact qc hu.1 hn
theorem Iw {u v p q n:Int} (hu:0<=u/\u<=255) (hv:0<=v/\v<=255) (p0:0<=p) (p1:p<=1000000000000000) (hq:0<=q/\q<=p) (hn:1<=n) :
  0<=(nY .xor .i64 (wrap64 (wrap64 (wrap64 (wrap64 ((wrap64 u) * (131:Int))+wrap64 ((wrap64 v) * (1117:Int)))+wrap64 (p * (29:Int)))+wrap64 ((wrap64 q) * (53:Int)))) (wrap64 ((wrap64 (wrap64 (wrap64 (wrap64 ((wrap64 u) * (131:Int))+wrap64 ((wrap64 v) * (1117:Int)))+wrap64 (p * (29:Int)))+wrap64 ((wrap64 q) * (53:Int)))).tdiv (64:Int)))).tmod n ∧
  (nY .xor .i64 (wrap64 (wrap64 (wrap64 (wrap64 ((wrap64 u) * (131:Int))+wrap64 ((wrap64 v) * (1117:Int)))+wrap64 (p * (29:Int)))+wrap64 ((wrap64 q) * (53:Int)))) (wrap64 ((wrap64 (wrap64 (wrap64 (wrap64 ((wrap64 u) * (131:Int))+wrap64 ((wrap64 v) * (1117:Int)))+wrap64 (p * (29:Int)))+wrap64 ((wrap64 q) * (53:Int)))).tdiv (64:Int)))).tmod n<n:=by
 have e:wrap64 (wrap64 (wrap64 (wrap64 ((wrap64 u) * (131:Int))+wrap64 ((wrap64 v) * (1117:Int)))+wrap64 (p * (29:Int)))+wrap64 ((wrap64 q) * (53:Int)))=u * 131+v * 1117+p * 29+q * 53:=by
  rw[aF (n:=u) (by omega) (by omega),aF (n:=v) (by omega) (by omega),aF (n:=q) (by omega) (by omega),aF (n:=u * 131) (by omega) (by omega),aF (n:=v * 1117) (by omega) (by omega),aF (n:=p * 29) (by omega) (by omega),aF (n:=q * 53) (by omega) (by omega),aF (n:=u * 131+v * 1117) (by omega) (by omega),aF (n:=u * 131+v * 1117+p * 29) (by omega) (by omega),aF (by omega) (by omega)]
 rw[e]
 generalize hA:u * 131+v * 1117+p * 29+q * 53=A
 have a0:0<=A:=by omega
 have a1:A<9223372036854775808:=by omega
 obtain⟨d0,d1⟩:=FQ (n:=64) a0 (by decide)
 rw[aF (n:=A.tdiv 64) (by omega) (by omega)]
 exact qc (EJ a0 a1 d0 (by omega)) hn
theorem IX {xs:List ByteArray} {k:Nat} (h:xs.all (fun s=>decide (s.size<=k))=true) (i:Int):(@nth Ty.str xs i:ByteArray).size<=k:=by
 unfold nth
 rw[List.getD_eq_getElem?_getD]
 cases he:xs[i.toNat]? with
 | none=>exact Nat.zero_le _
 | some x=>exact of_decide_eq_true (List.all_eq_true.1 h x (List.mem_of_getElem? he))
theorem GF {b:List Int} (h:ay b) (c:Option (Int×Int)):ay (aj b c):=by
 intro x hx
 cases c with
 | none=>exact h x hx
 | some p=>exact h x (List.mem_of_mem_drop (List.mem_of_mem_take hx))
end M
theorem M.KR {x n:Int} (h0:0<=x) (h1:1<=n) (h2:n<=6):0<=wrap64 ((1:Int)+x.tmod n)/\wrap64 ((1:Int)+x.tmod n)<=n:=by
 have:=M.qc h0 h1
 rw[aF (by omega) (by omega)]
 omega
theorem M.Lu {x n:Int} (h0:0<=x) (h2:x<2) (h1:1<=n):wrap64 ((1:Int)+x.tmod n)<=2:=by
 have:=M.qc h0 h1
 have h3:x.tmod n<=x:=by
  rw[Int.tmod_eq_emod_of_nonneg h0]
  have:=Int.emod_add_mul_ediv x n
  have q:=Int.mul_nonneg (show 0<=n by omega) (Int.ediv_nonneg h0 (show 0<=n by omega))
  omega
 rw[aF (by omega) (by omega)]
 omega
theorem M.Lw {x n:Int} (h0:0<=x) (h1:1<=n) (h2:n<=6):1<=wrap64 ((1:Int)+x.tmod n):=by
 have:=M.qc h0 h1
 rw[aF (by omega) (by omega)]
 omega
theorem M.Kt {x n:Int} (h0:0<=x) (h1:x<5) (n1:1<=n) (n6:n<=6):-1<=wrap64 (wrap64 (n-(1:Int))-(wrap64 (x.tdiv (4:Int))))/\wrap64 (wrap64 (n-(1:Int))-(wrap64 (x.tdiv (4:Int))))<=n-1:=by
 have:0<=x.tdiv 4/\x.tdiv 4<=1:=by
  rw[Int.tdiv_eq_ediv_of_nonneg h0]
  omega
 rw[aF (n:=x.tdiv 4) (by omega) (by omega),aF (n:=n-1) (by omega) (by omega),aF (by omega) (by omega)]
 omega
theorem M.Lm {n:Int} (h:1<=n):1<=Hs n (4:Int)/\Hs n (4:Int)<=n/\Hs n (4:Int)<=4:=by
 unfold Hs
 split<;>omega
abbrev M.mid (a b:Int):Int:=wrap64 (((rG .u64 (wrap64 (a+b))).fdiv (2 ^ (min (1:Int).toNat 64))))
theorem M.zC {a b:Int} (h0:0<=a) (h1:a<=1048577) (h2:0<=b) (h3:b<=1048577):2 * M.mid a b<=a+b/\a+b<=2 * M.mid a b+1:=by
 have e:wrap64 (a+b)=a+b:=aF (by omega) (by omega)
 have e2:rG .u64 (a+b)=a+b:=by
  show IntKind.u64.wrap (a+b)=a+b
  unfold IntKind.wrap
  simp only[show IntKind.u64.bits=64 from rfl,show ((a+b) % 2 ^ 64)=a+b by omega]
  rfl
 unfold M.mid
 rw[e,e2,show (2:Int) ^ (min (1:Int).toNat 64)=2 from rfl,Int.fdiv_eq_ediv_of_nonneg _ (by decide),aF (by omega) (by omega)]
 omega
theorem M.JP {xs:List (List af.D)} (h:Sm (.sl (.sl af)) xs) {i j:Nat} {a b:Int}:Sm (.sl (.sl af)) ((xs.set i (nth (t:=.sl af) xs a)).set j (nth (t:=.sl af) xs b)):=by
 refine⟨by rw[List.length_set,List.length_set];exact h.1,fun x hx=>?_⟩
 rcases List.mem_or_eq_of_mem_set hx with hx | rfl
 ·rcases List.mem_or_eq_of_mem_set hx with hx | rfl
  ·exact h.2 x hx
  ·exact aO (t:=.sl af) h a
 ·exact aO (t:=.sl af) h b
theorem cl {p:Prop} (h:p:=by ((try dsimp only);(repeat' (first | assumption | exact all_nil | refine all_cons ?_ ?_ | refine CO ?_ ?_ | refine Jw ?_ ?_ | refine HL ?_ | refine M.JV ?_ _ | refine M.Jy ?_ ?_ | refine M.JF ?_ ?_ ?_ | refine M.IV ?_ ?_ ?_ | refine M.GO ?_ ?_ | exact M.Cx (by assumption) _ | exact M.FA (M.Cx (by assumption) _) _ | refine M.KE ?_ ?_ ?_ ?_ | refine M.Kz ?_ ?_ | exact M.zW (by assumption) _ | exact M.qu (by assumption) _ | exact(M.qu (by assumption) _).1 | exact(M.qu (by assumption) _).2 | exact Nat.le_trans (M.Cg _ _) (by omega) | exact Nat.le_trans (M.Cg _ _) (M.qu (by assumption) _).1 | decide | omega | (simp only[List.length_append,List.length_cons,List.length_nil];omega) | (dsimp only;first | assumption | omega | decide)));done)):p:=h
theorem au {p:Prop} (h:p:=by first | assumption | omega | decide | trivial | (dsimp only;first | assumption | omega | decide) | (simp only[Al,AG,tE,List.size_toArray,List.length_cons,List.length_nil,List.length_append,List.length_take,List.length_set,List.length_replicate];omega) | (simp only[Al,AG,tE,List.size_toArray,List.length_cons,List.length_nil,List.length_append,List.length_take,List.length_set,List.length_replicate,lim];omega) | (simp only[Al,AG,tE,List.size_toArray,List.length_cons,List.length_nil,List.length_append,List.length_take,List.length_set,List.length_replicate,lim,wrap64];omega) | exact M.jK rfl (by assumption) (by decide) | exact M.yR (by assumption) (by assumption) (by decide) | exact M.GF (by assumption) _ | exact tV (by assumption) _ | exact kJ _ | exact Nat.le_trans (M.IX (k:=2) rfl _) (by decide) | exact(M.KR (by assumption) (by omega) (by omega)).1 | exact(M.KR (by assumption) (by omega) (by omega)).2 | exact tV (M.jK rfl (by assumption) (by decide)) _ | exact fun _=>rfl | (intro _;omega) | exact M.KO (M.zW (by assumption) _) | exact M.JN (by assumption) _ | exact M.jl1 (by assumption) | exact M.jl2 (by assumption) | exact M.jl3 (by assumption) | exact M.jK rfl (M.mD (by assumption) _) (by decide) | exact M.CV (by assumption) (by assumption) (by decide) | exact M.Gd (by assumption) (by assumption) (by decide) | exact M.BQ (by assumption) (by assumption) (by decide) | exact M.IN (by assumption) (by assumption) (by decide) | exact M.GB (M.Cx (by assumption) _) | exact M.rC (n:=1000) (by first | omega | (simp only[List.length_append,List.length_cons,List.length_nil];omega)) (by exact cl) (by decide) | exact(fun h=>Bool.noConfusion h) | exact M.JP (by assumption) | exact aO (t:=.sl af) (by assumption) _ | exact cl):p:=h
section
variable {α β σ ρ τ ε:Type} {K:α->Prop}
theorem okG {p:Prop} {x:Option α} (k:ok x K) (h:p:=by exact au):ok (aa p x) K:=by rw[aq h];exact k
theorem okL {γ:Type} {x:γ} {f:γ->Option α} (k:∀r,r=x->ok (f r) K):ok (aG x f) K:=k x rfl
theorem okC {b:Bool} {x y:Option α} (h1:b=true->ok x K) (h2:b=false->ok y K):ok (cond b x y) K:=by
 cases b
 ·exact h2 rfl
 ·exact h1 rfl
theorem okD {p:Prop} [Decidable p] {x y:Option α} (h1:p->ok x K) (h2:¬p->ok y K):ok (cond (decide p) x y) K:=okC (fun h=>h1 (of_decide_eq_true h)) (fun h=>h2 (of_decide_eq_false h))
theorem GC {p:Prop} [Decidable p] {x y:Option α} (h1:¬p->ok x K) (h2:p->ok y K):ok (cond (!decide p) x y) K:=okC (fun h=>h1 (by simpa using h)) (fun h=>h2 (by simpa using h))
theorem iG {p:Prop} [Decidable p] {x y:Option α} (h1:p->ok x K) (h2:¬p->ok y K):ok (cond (decide p==true) x y) K:=okC (fun h=>h1 (by simpa using h)) (fun h=>h2 (by simpa using h))
theorem Lk {p:Prop} [Decidable p] {x y:Option α} (h1:¬p->ok x K) (h2:p->ok y K):ok (cond (decide p==false) x y) K:=okC (fun h=>h1 (by simpa using h)) (fun h=>h2 (by simpa using h))
theorem okS {x:α} (h:K x):ok (some x) K:=h
theorem okN {K:α->Prop} (h:False:=by first | omega | simp_all):ok (none:Option α) K:=h.elim
theorem JL {x:α} {P:α->Prop} (h0:P x:=by exact au):ok (some x) (fun r=>P r):=h0
theorem dG {x:α} {P Q:α->Prop} (h0:P x:=by exact au) (h1:Q x:=by exact au):ok (some x) (fun r=>P r/\Q r):=⟨h0,h1⟩
theorem tc {x:α} {P Q R:α->Prop} (h0:P x:=by exact au) (h1:Q x:=by exact au) (h2:R x:=by exact au):ok (some x) (fun r=>P r/\Q r/\R r):=⟨h0,h1,h2⟩
theorem Fs {x:α} {P Q R S:α->Prop} (h0:P x:=by exact au) (h1:Q x:=by exact au) (h2:R x:=by exact au) (h3:S x:=by exact au):ok (some x) (fun r=>P r/\Q r/\R r/\S r):=⟨h0,h1,h2,h3⟩
theorem tf {x:α} {P Q R S T:α->Prop} (h0:P x:=by exact au) (h1:Q x:=by exact au) (h2:R x:=by exact au) (h3:S x:=by exact au) (h4:T x:=by exact au):ok (some x) (fun r=>P r/\Q r/\R r/\S r/\T r):=⟨h0,h1,h2,h3,h4⟩
theorem DA {x:α} {P Q R S T U:α->Prop} (h0:P x:=by exact au) (h1:Q x:=by exact au) (h2:R x:=by exact au) (h3:S x:=by exact au) (h4:T x:=by exact au) (h5:U x:=by exact au):ok (some x) (fun r=>P r/\Q r/\R r/\S r/\T r/\U r):=⟨h0,h1,h2,h3,h4,h5⟩
theorem Lx {x:α} {P Q R S T U V W:α->Prop} (h0:P x:=by exact au) (h1:Q x:=by exact au) (h2:R x:=by exact au) (h3:S x:=by exact au) (h4:T x:=by exact au) (h5:U x:=by exact au) (h6:V x:=by exact au) (h7:W x:=by exact au):ok (some x) (fun r=>P r/\Q r/\R r/\S r/\T r/\U r/\V r/\W r):=⟨h0,h1,h2,h3,h4,h5,h6,h7⟩
theorem cn {f:σ->Prop} {g:ρ->Prop} {s:σ} (h:f s):ok (some (.inl s:Sum σ ρ)) (bz f g):=h
theorem cL {f:σ->Prop} {g:ρ->Prop} {r:ρ} (h:g r):ok (some (.inr r:Sum σ ρ)) (bz f g):=h
theorem FH {f:σ->Prop} {A:ε->Prop} {B:ρ->Prop} {r:ε} (h:A r):ok (some (.inr (.inl r):Sum σ (Sum ε ρ))) (bz f (bz A B)):=h
theorem IZ {f:σ->Prop} {A:ε->Prop} {B:ρ->Prop} {r:ρ} (h:B r):ok (some (.inr (.inr r):Sum σ (Sum ε ρ))) (bz f (bz A B)):=h
theorem okT {o:Option (Sum σ ρ)} {f:σ->Option α} {g:ρ->Option α} {A:σ->Prop} {B:ρ->Prop} (h:ok o (bz A B)) (ha:∀s,A s->ok (f s) K) (hb:∀r,B r->ok (g r) K):ok (bH o f g) K:=by
 cases o with
 | none=>exact h.elim
 | some z=>
  cases z with
  | inl s=>exact ha s h
  | inr r=>exact hb r h
theorem okB {γ:Type} {o:Option γ} {f:γ->Option α} {A:γ->Prop} (h:ok o A) (ha:∀x,A x->ok (f x) K):ok (Option.bind o f) K:=by
 cases o with
 | none=>exact h.elim
 | some z=>exact ha z h
theorem okW {f:σ->Option (Sum σ ρ)} {R:ρ->Prop} (I:Nat->σ->Prop) (h:∀n s,I n s->ok (f s) (bz (fun s'=>∃m,m<n/\I m s') R)):∀(n:Nat) (s:σ),I n s->ok (cF f s) R:=by
 intro n
 induction n using Nat.strongRecOn with
 | ind n ih=>
  intro s hs
  rw[jz]
  refine okT (h n s hs) (fun s' ⟨m,hm,hi⟩=>ih m hm s' hi) (fun r hr=>okS hr)
theorem okE {f:α->σ->Option (Sum σ ρ)} {R:ρ->Prop} (I:Nat->σ->Prop):∀(xs:List α) (n:Nat) (s:σ),I n s->(∀x∈xs,∀(k:Nat) (s:σ),n<=k->k<n+xs.length->I k s->ok (f x s) (bz (I (k+1)) R))->ok (aU f xs s) (bz (I (n+xs.length)) R)
 | [],n,s,hs,_=>hs
 | x::xs,n,s,hs,h=>by
  show ok (bH (f x s) _ _) _
  refine okT (h x List.mem_cons_self n s (Nat.le_refl _) (by simp) hs) (fun s' hs'=>?_) (fun r hr=>okS hr)
  have:=okE I xs (n+1) s' hs' (fun y hy k s hk hl hi=>h y (List.mem_cons_of_mem _ hy) k s (by omega) (by simp;omega) hi)
  rw[List.length_cons,show n+(xs.length+1)=n+1+xs.length by omega]
  exact this
theorem dD {o:Option α} {d:α} (h:ok o K):o=some (o.getD d):=by
 cases o with
 | none=>exact h.elim
 | some x=>rfl
theorem dF {o:Option α} {d:α} (h:ok o K):K (o.getD d):=by
 cases o with
 | none=>exact h.elim
 | some x=>exact h
theorem CY {f:α->σ->Option (Sum σ ρ)} {R:ρ->Prop} (I:Nat->σ->Prop) {xs:List α} {s:σ} (h0:I 0 s) (h:∀x∈xs,∀(k:Nat) (s:σ),k<xs.length->I k s->ok (f x s) (bz (I (k+1)) R)):ok (aU f xs s) (bz (I xs.length) R):=by
 have:=okE (R:=R) I xs 0 s h0 (fun x hx k s _ hk hi=>h x hx k s (by omega) hi)
 rw[Nat.zero_add] at this
 exact this
end
end Go.AE
end
section
namespace Go.AE
open Go Go.RowKit
set_option linter.unusedVariables false
namespace M
theorem CP {LK:List ai.D} {LN:List (List ag.D)} {s:ah.D} {c:List ag.D} (ht:∀t∈LK,iY t) (ha:∀x∈LN,x.length<=6) (h:bF LK LN s=some c):c.length<=6:=by
 have hn:=fun i=>mD ha i
 unfold bF at h
 obtain⟨_,h⟩:=aQ h
 cases h1:decide (s.1=(1:Int)) with
 | true=>
  rw[h1,cond_true] at h
  obtain⟨_,h⟩:=aQ h
  cases h
  exact(qO (t:=ai) (P:=iY) ht ⟨Nat.zero_le _,Nat.zero_le _,fun _ h=>by cases h⟩ _).1
 | false=>
  rw[h1,cond_false] at h
  obtain⟨_,h⟩:=aQ h
  cases h2:decide (s.1=(2:Int)) with
  | true=>
   rw[h2,cond_true] at h
   obtain⟨_,h⟩:=aQ h
   cases h
   exact hn _
  | false=>
   rw[h2,cond_false] at h
   cases h3:decide (s.1=(3:Int)) with
   | true=>
    rw[h3,cond_true] at h
    obtain⟨hb,h⟩:=aQ h
    cases h
    have:=of_decide_eq_true (Bool.and_eq_true_iff.1 hb).2
    rw[List.length_map]
    omega
   | false=>
    rw[h3,cond_false] at h
    cases h4:decide (s.1=(4:Int)) with
    | true=>
     rw[h4,cond_true] at h
     obtain⟨hb,h⟩:=aQ h
     cases h
     have:=of_decide_eq_true (Bool.and_eq_true_iff.1 hb).1
     omega
    | false=>
     rw[h4,cond_false] at h
     cases h5:decide (s.1=(5:Int)) with
     | true=>
      rw[h5,cond_true] at h
      unfold both at h
      obtain⟨_,h⟩:=aQ h
      rw[lz h]
      exact hn _
     | false=>
      rw[h5,cond_false] at h
      obtain⟨_,h⟩:=aQ h
      cases h
      exact hn _
theorem BD {LK:List ai.D} (ht:∀t∈LK,iY t):∀(xs:List ah.D) (st st':fC),(∀x∈st.1,x.length<=6)->dH (bg LK) xs st=some st'->∀x∈st'.1,x.length<=6
 | [],st,st',ha,h=>by cases h;exact ha
 | x::xs,st,st',ha,h=>by
  unfold dH at h
  cases hp:bg LK st x with
  | none=>rw[hp] at h;cases h
  | some st1=>
   rw[hp] at h
   obtain⟨c,hc,_,rfl⟩:=jl hp
   refine BD ht xs _ st' (fun y hy=>?_) h
   rcases List.mem_append.1 hy with hy | hy
   ·exact ha y hy
   ·rw[List.mem_singleton.1 hy]
    exact CP ht ha hc
theorem xN {LK:List ai.D}:∀(xs:List ah.D) (st st':fC),dH (bg LK) xs st=some st'->st'.1.length=st.1.length+xs.length
 | [],st,st',h=>by cases h;exact(Nat.add_zero _).symm
 | x::xs,st,st',h=>by
  unfold dH at h
  cases hp:bg LK st x with
  | none=>rw[hp] at h;cases h
  | some st1=>
   rw[hp] at h
   obtain⟨c,_,_,rfl⟩:=jl hp
   rw[xN xs _ st' h]
   simp
   omega
theorem Dl {LK:List ai.D} {plan:List ah.D} {r:List (List ag.D)×Bool} (e:r=dM LK plan) (h:(!r.2)=false):r.1.length=plan.length:=by
 subst e
 unfold dM iM at *
 cases hr:dH (bg LK) plan ([],[]) with
 | none=>rw[hr] at h;cases h
 | some st=>
  have:=xN plan _ st hr
  simpa using this
theorem CT {LK:List ai.D} {plan:List ah.D} {r:List (List ag.D)×Bool} (ht:∀t∈LK,iY t) (e:r=dM LK plan):∀c∈r.1,c.length<=6:=by
 subst e
 unfold dM iM
 cases hr:dH (bg LK) plan ([],[]) with
 | none=>intro c h;cases h
 | some st=>exact BD ht plan ([],[]) st (fun _ h=>by cases h) hr
end M
end Go.AE
end
section
namespace Go.AE
open Go Go.RowKit
set_option linter.unusedVariables false
def M.rowAt (rows:List (List af.D)) (row:List af.D):Int:=M.idx (t:=.sl af) (fun e=>decide (e=row)) rows
def M.cJ (LK:List ai.D) (c:aK.D):Bool:=M.bw LK&&(M.inR c.1 0 ((LK.length:Int)-1)&&(M.cA (@nth ai LK c.1).1 c.2.1 &&
 cond c.2.2.1 (decide (((@nth ai LK c.1).2.1.length:Int)<(6:Int))) (decide ((0:Int)<=M.rowAt (@nth ai LK c.1).2.1 c.2.1))))
def M.gJ (rows:List (List af.D)) (c:aK.D):List (List af.D):=cond c.2.2.1 (rows++[c.2.1]) (rows.take (M.rowAt rows c.2.1).toNat++rows.drop ((M.rowAt rows c.2.1).toNat+1))
def M.bP (LK:List ai.D) (c:aK.D):List ai.D:=LK.set c.1.toNat ((@nth ai LK c.1).1,(M.gJ (@nth ai LK c.1).2.1 c,()))
def M.sC (bonds:List jy.D) (now:List ai.D) (c:aK.D):List ai.D:=cond (M.cJ now c&&M.mL (M.bP now c) bonds) (M.bP now c) now
def M.JZ (ts:List ai.D) (i n:Int):List ai.D:=ts.set i.toNat ((@nth ai ts i).1,((@nth ai ts i).2.1.take n.toNat++(@nth ai ts i).2.1.drop (n.toNat+1),()))
def M.loose (now:List ai.D) (b:jy.D):Bool:=b.2.2.2.2.2.1&&decide (0<=M.broken now b)
def M.follow (bonds:List jy.D):Nat->List ai.D->List ai.D
 | 0,now=>now
 | n+1,now=>match bonds.find? (M.loose now) with
  | none=>now
  | some b=>M.follow bonds n (M.JZ now b.2.1 (M.broken now b))
abbrev M.any (x:Int):Prop:=True
def M.ld (LJ:List ag.D) (row:List af.D) (e:List aD.D):Bool:=decide (M.bR LJ e=3)&&(M.cA LJ row&&M.holds row e)
namespace M
theorem sE {ts:List ai.D} {i:Int} {z:ai.D} (h0:0<=i) (h1:i<(ts.length:Int)):@nth ai (ts.set i.toNat z) i=z:=by
 unfold nth
 rw[List.getD_eq_getElem?_getD,List.getElem?_set_self (by omega)]
 rfl
theorem vT {ts:List ai.D} {i j:Int} {z:ai.D} (h0:0<=i) (h1:0<=j) (h:i≠j):@nth ai (ts.set i.toNat z) j=@nth ai ts j:=by
 unfold nth
 rw[List.getD_eq_getElem?_getD,List.getD_eq_getElem?_getD,List.getElem?_set_ne (by omega)]
theorem Ld {ts:List ai.D} {i:Int} {w:List (List af.D)} (h0:0<=i) (h1:i<(ts.length:Int)) :
  ((ts.set i.toNat ((@nth ai ts i).1,([],()))).set i.toNat ((@nth ai (ts.set i.toNat ((@nth ai ts i).1,([],()))) i).1,(w,())))=ts.set i.toNat ((@nth ai ts i).1,(w,())):=by
 rw[List.set_set,sE h0 h1]
theorem Lq {ts:List ai.D} {i:Int} {w:List (List af.D)} (h0:0<=i) (h1:i<(ts.length:Int)) :
  ((ts.set i.toNat ((@nth ai ts i).1,(w,()))).set i.toNat ((@nth ai (ts.set i.toNat ((@nth ai ts i).1,(w,()))) i).1,((@nth ai (ts.set i.toNat ((@nth ai ts i).1,(w,()))) i).2.1,())))=ts.set i.toNat ((@nth ai ts i).1,(w,())):=by
 rw[List.set_set,sE h0 h1]
end M
end Go.AE
end
