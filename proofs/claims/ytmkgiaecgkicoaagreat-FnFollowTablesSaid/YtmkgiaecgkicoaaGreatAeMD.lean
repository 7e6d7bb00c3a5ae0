/- How it is shown that a function's value is there, and what holds of it: plain Lean. -/
import Derived.Test.YtmkgiaecgkicoaaGreatAeLem
namespace Go.AE
open Go Go.RowKit
set_option linter.unusedVariables false
def M.ak (b:List Int):Prop:=∀x∈b,0<=x/\x<=255
theorem EG {a b:Int} (ha:0<=a) (ha':a<9223372036854775808) (hb:0<=b) (hb':b<9223372036854775808):0<=nJ .xor .i64 a b:=by
 have h1:(BitVec.ofInt 64 a).toNat<2 ^ 63:=by rw[BitVec.toNat_ofInt];omega
 have h2:(BitVec.ofInt 64 b).toNat<2 ^ 63:=by rw[BitVec.toNat_ofInt];omega
 have h3:(BitVec.ofInt 64 a ^^^ BitVec.ofInt 64 b).toNat<2 ^ 63:=by
  rw[BitVec.toNat_xor]
  exact Nat.xor_lt_two_pow h1 h2
 show 0<=IntKind.i64.wrap (((BitVec.ofInt 64 a ^^^ BitVec.ofInt 64 b).toNat:Nat):Int)
 generalize (BitVec.ofInt 64 a ^^^ BitVec.ofInt 64 b).toNat=m at h3
 have e:((m:Int) % 2 ^ 64)=(m:Int):=by omega
 unfold IntKind.wrap
 simp only[show IntKind.i64.bits=64 from rfl,e]
 split
 ·rename_i h
  simp only[Bool.and_eq_true,decide_eq_true_eq] at h
  omega
 ·omega
theorem tQ (xs:List Int):(strOf xs).size=xs.length:=by
 unfold strOf
 show (List.toArray _).size=_
 simp
theorem zl (a b:ByteArray):(a++b).size=a.size+b.size:=ByteArray.size_append
def M.eB (deep:Int):Nat:=if deep<=0 then 3 else if deep<=1 then 9 else if deep<=2 then 27 else 81
section
variable {α:Type} {P:α->Prop} {a b:List α} {x:α}
theorem all_nil:∀v∈([]:List α),P v:=fun _ h=>by cases h
theorem all_cons (h:P x) (hb:∀v∈b,P v):∀v∈x::b,P v:=fun v hv=>by
 rcases List.mem_cons.1 hv with rfl | hv
 ·exact h
 ·exact hb v hv
theorem Fx (ha:∀v∈a,P v) (hb:∀v∈b,P v):∀v∈a++b,P v:=fun v hv=>(List.mem_append.1 hv).elim (ha v) (hb v)
theorem uL {n:Nat} (ha:∀v∈a,P v) (h:P x):∀v∈a.set n x,P v:=fun v hv=>by
 rcases List.mem_or_eq_of_mem_set hv with hv | rfl
 ·exact ha v hv
 ·exact h
theorem HC {n:Nat} (ha:∀v∈a,P v):∀v∈a.take n,P v:=fun v hv=>ha v (List.mem_of_mem_take hv)
theorem Ai (l:Array UInt8):(⟨l⟩:ByteArray).size=l.size:=rfl
end
namespace M
theorem HJ {d:Int}:3<=eB d/\eB d<=81:=by
 unfold eB
 repeat' split
 all_goals omega
theorem EN {d:Int} (h1:1<=d) (h3:d<=3):3 * eB (d-1)=eB d/\eB (d-2)<=eB (d-1):=by
 have:d=1\/d=2\/d=3:=by omega
 rcases this with rfl | rfl | rfl<;>decide
theorem Kl {d:Int} (h3:d<=3):1<=d->3 * eB (wrap64 (d-(1:Int)))<=eB d:=fun h1=>by
 rw[aO (by omega) (by omega),(EN h1 h3).1]
 exact Nat.le_refl _
theorem Kq {d:Int} (h3:d<=3):1<=d->3 * eB (wrap64 (d-(2:Int)))<=eB d:=fun h1=>by
 rw[aO (by omega) (by omega),<-(EN h1 h3).1]
 exact Nat.mul_le_mul_left 3 (EN h1 h3).2
theorem bytes_of_fine {x:List Int} (h:wD (.sl (.int .u8)) x):ak x:=fun n hn=>by
 have:=h.2 n hn
 unfold wD Lit.wf at this
 simp only[Bool.and_eq_true,decide_eq_true_eq] at this
 exact this
theorem wF {b:List Int} (h:ak b) (i:Int):0<=nth (t:=.int .u8) b i/\nth (t:=.int .u8) b i<=255:=by
 unfold nth
 rw[List.getD_eq_getElem?_getD]
 cases he:b[i.toNat]? with
 | none=>exact⟨Int.le_refl _,by decide⟩
 | some x=>exact h x (List.mem_of_getElem? he)
theorem mz {t:Ty} (ht:t.bare=true) {xs:List t.D} {n:Nat} (h:xs.length<=n) (hn:n<=1048576):Sm (.sl t) xs:=⟨Nat.le_trans h hn,fun x _=>Cs ht x⟩
theorem yI {vs:List aa.D} {n:Nat} (h:vs.length<=n) (hv:∀v∈vs,v.2.2.1.size<=20) (hn:n<=1048576):Sm (.sl aa) vs:=⟨Nat.le_trans h hn,fun v hm=>⟨trivial,trivial,Nat.le_trans (hv v hm) (by decide),trivial⟩⟩
theorem Aq {vs:List aE.D} {n:Nat} (h:vs.length<=n) (hv:∀v∈vs,v.2.2.1.2.2.1.size<=20) (hn:n<=1048576):Sm (.sl aE) vs:=⟨Nat.le_trans h hn,fun v hm=>⟨trivial,trivial,⟨trivial,trivial,Nat.le_trans (hv v hm) (by decide),trivial⟩,trivial⟩⟩
def vV (w:List aa.D):Prop:=w.length<=9/\∀v∈w,v.2.2.1.size<=20
def eC (t:ag.D):Prop:=t.1.length<=6/\t.2.1.length<=7/\∀w∈t.2.1,vV w
def rZ (s:sk.D):Prop:=s.2.2.2.2.1.length<=81/\(∀v∈s.2.2.2.2.1,v.2.2.1.2.2.1.size<=20)/\s.2.2.2.2.2.1.length<=3
def gdD (g:lQ.D):Prop:=g.2.1.length<=81/\∀v∈g.2.1,v.2.2.1.2.2.1.size<=20
def fu (t:ag.D):Prop:=t.1.length<=4/\t.2.1.length<=6/\∀w∈t.2.1,w.length<=4
def jC (t:ag.D):Prop:=1<=t.1.length
def bdD (b:ah.D):Prop:=b.2.2.1.length<=3/\b.2.2.2.2.1.length<=3/\b.2.2.2.2.2.2.1.length<=27/\∀v∈b.2.2.2.2.2.2.1,v.2.2.1.2.2.1.size<=20
def chD (c:ay.D):Prop:=c.2.1.length<=5/\∀v∈c.2.1,v.2.2.1.size<=20
theorem JI {k i n:Int} {l t:List Int} {f:Bool} {e:List aE.D} (h1:l.length<=3) (h2:t.length<=3) (h3:e.length<=27) (h4:∀v∈e,v.2.2.1.2.2.1.size<=20):bdD (k,i,l,n,t,f,e,()):=⟨h1,h2,h3,h4⟩
theorem Kc {i:Int} {w:List aa.D} {b:Bool} (h1:w.length<=5) (h2:∀v∈w,v.2.2.1.size<=20):chD (i,w,b,()):=⟨h1,h2⟩
theorem IW {w:List aa.D} (h:w.length<=9) (h2:∀v∈w,v.2.2.1.size<=20):vV w:=⟨h,h2⟩
theorem IL {c:List ax.D} {r:List (List aa.D)} (h:c.length<=6) (h2:r.length<=7) (h3:∀w∈r,vV w):eC (c,r,()):=⟨h,h2,h3⟩
theorem Ho {k a b n:Int} {e:List aE.D} {l:List Int} (h:e.length<=81) (h2:∀v∈e,v.2.2.1.2.2.1.size<=20) (h3:l.length<=3):rZ (k,a,b,n,e,l,()):=⟨h,h2,h3⟩
theorem GJ {n:Int} {e:List aE.D} (h:e.length<=81) (h2:∀v∈e,v.2.2.1.2.2.1.size<=20):gdD (n,e,()):=⟨h,h2⟩
theorem qi {t:Ty} {P:t.D->Prop} {xs:List t.D} (h:∀x∈xs,P x) (hz:P t.zero) (i:Int):P (nth (t:=t) xs i):=by
 unfold nth
 rw[List.getD_eq_getElem?_getD]
 cases he:xs[i.toNat]? with
 | none=>exact hz
 | some x=>exact h x (List.mem_of_getElem? he)
theorem zy {xs:List (List aa.D)} (h:∀w∈xs,vV w) (i:Int):vV (nth (t:=.sl aa) xs i):=qi (t:=.sl aa) (P:=vV) h ⟨Nat.zero_le _,fun _ h=>by cases h⟩ i
theorem JN {w:List aa.D} (h:vV w):Sm (.sl aa) w:=yI h.1 h.2 (by decide)
theorem qa {xs:List lQ.D} (h:∀w∈xs,gdD w) (i:Int):gdD (nth (t:=lQ) xs i):=qi (t:=lQ) (P:=gdD) h ⟨Nat.zero_le _,fun _ h=>by cases h⟩ i
theorem sL {xs:List (List ax.D)} (h:∀c∈xs,c.length<=6) (i:Int):(nth (t:=.sl ax) xs i:List ax.D).length<=6:=qi (t:=.sl ax) (P:=fun c:List ax.D=>c.length<=6) h (Nat.zero_le _) i
theorem vC {xs:List ag.D} (h:∀w∈xs,eC w) (i:Int):eC (nth (t:=ag) xs i):=qi (t:=ag) (P:=eC) h ⟨Nat.zero_le _,Nat.zero_le _,fun _ h=>by cases h⟩ i
theorem Af {xs:List ag.D} (h:∀w∈xs,fu w) (i:Int):fu (nth (t:=ag) xs i):=qi (t:=ag) (P:=fu) h ⟨Nat.zero_le _,Nat.zero_le _,fun _ h=>by cases h⟩ i
theorem FW {xs:List ag.D} {i:Int} {k:Nat} {w:List (List aa.D)} (h:∀t∈xs,eC t) (he:∀t∈xs,fu t) (hw:∀r∈w,vV r) (hl:w.length<=1) :
  ∀t∈((xs.set k ((nth (t:=ag) xs i).1,([],()))).set k ((nth (t:=ag) (xs.set k ((nth (t:=ag) xs i).1,([],()))) i).1,((((nth (t:=ag) xs i).2).1++w),()))),eC t:=by
 have h1:=vC h i
 have h2:=Af he i
 have h3:∀t∈xs.set k ((nth (t:=ag) xs i).1,([],())),eC t:=uL h ⟨h1.1,Nat.zero_le _,fun _ h=>by cases h⟩
 refine uL h3 ⟨(vC h3 i).1,?_,Fx h1.2.2 hw⟩
 have:=h2.2.1
 show (((nth (t:=ag) xs i).2).1++w).length<=7
 rw[List.length_append]
 omega
theorem Gf {xs:List ag.D} {i:Int} {k:Nat} {w:List ax.D} (h:∀t∈xs,eC t) (he:∀t∈xs,fu t) (hl:w.length<=1) :
  ∀t∈((xs.set k ([],(nth (t:=ag) xs i).2)).set k (((nth (t:=ag) xs i).1++w),(nth (t:=ag) (xs.set k ([],(nth (t:=ag) xs i).2)) i).2)),eC t:=by
 have h1:=vC h i
 have h2:=Af he i
 have h3:∀t∈xs.set k ([],(nth (t:=ag) xs i).2),eC t:=uL h ⟨Nat.zero_le _,h1.2⟩
 refine uL h3 ⟨?_,(vC h3 i).2⟩
 have:=h2.1
 show ((nth (t:=ag) xs i).1++w).length<=6
 rw[List.length_append]
 omega
theorem Cv {xs:List ah.D} (h:∀w∈xs,bdD w) (i:Int):bdD (nth (t:=ah) xs i):=qi (t:=ah) (P:=bdD) h ⟨Nat.zero_le _,Nat.zero_le _,Nat.zero_le _,fun _ h=>by cases h⟩ i
theorem EB {b:ah.D} (h:bdD b) (f:Bool):bdD (b.1,(b.2.1,(b.2.2.1,(b.2.2.2.1,(b.2.2.2.2.1,(f,b.2.2.2.2.2.2)))))):=h
theorem FV {b:ah.D} (h:bdD b):Sm ah b:=⟨trivial,trivial,mz (t:=.int .i64) rfl h.1 (by decide),trivial,mz (t:=.int .i64) rfl h.2.1 (by decide),trivial,Aq h.2.2.1 h.2.2.2 (by decide),trivial⟩
theorem Dm {xs:List ah.D} {n:Nat} (h:xs.length<=n) (hs:∀s∈xs,bdD s) (hn:n<=1048576):Sm (.sl ah) xs:=⟨Nat.le_trans h hn,fun s hm=>FV (hs s hm)⟩
theorem Gs {c:ay.D} (h:chD c):Sm ay c:=⟨trivial,yI h.1 h.2 (by decide),trivial,trivial⟩
theorem yM {α:Type} (xs:List α) (c:Option (Int×Int)):(aC xs c).length<=xs.length:=by
 cases c with
 | none=>exact Nat.le_refl _
 | some p=>
  unfold aC
  simp only[List.length_drop,List.length_take]
  omega
theorem IB {α:Type} {xs:List α} {k:Int} (h0:0<=k) (h:1<=xs.length) (hk:1<=k):1<=(aC xs (some ((0:Int),k))).length:=by
 unfold aC
 simp only[List.length_drop,List.length_take]
 omega
theorem JP {α:Type} {xs:List α} {k:Int} (h:k<=2):(aC xs (some ((0:Int),k))).length<=2:=by
 unfold aC
 simp only[List.length_drop,List.length_take]
 omega
theorem Jj {α:Type} {P:α->Prop} {xs:List α} (h:∀x∈xs,P x) (c:Option (Int×Int)):∀x∈aC xs c,P x:=by
 intro x hx
 cases c with
 | none=>exact h x hx
 | some p=>exact h x (List.mem_of_mem_drop (List.mem_of_mem_take hx))
theorem IQ {ts:List ag.D} (h:Sm (.sl ag) ts) (i:Int):Sm (.sl ax) (nth (t:=ag) ts i).1:=qi (t:=ag) (P:=fun t:ag.D=>Sm (.sl ax) t.1) (fun t hm=>(h.2 t hm).1) (jh _) i
theorem Je {xs:List (List ax.D)} {n:Nat} (h:xs.length<=n) (hc:∀c∈xs,c.length<=6) (hn:n<=1048576):Sm (.sl (.sl ax)) xs:=⟨Nat.le_trans h hn,fun c hm=>mz rfl (hc c hm) (by decide)⟩
theorem HQ {xs:List sk.D} {n:Nat} (h:xs.length<=n) (hs:∀s∈xs,rZ s) (hn:n<=1048576):Sm (.sl sk) xs:=
 ⟨Nat.le_trans h hn,fun s hm=>⟨trivial,trivial,trivial,trivial,Aq (hs s hm).1 (hs s hm).2.1 (by decide),mz (t:=.int .i64) rfl (hs s hm).2.2 (by decide),trivial⟩⟩
theorem FK {xs:List ag.D} {n:Nat} (h:xs.length<=n) (hs:∀s∈xs,eC s) (hn:n<=1048576):Sm (.sl ag) xs:=
 ⟨Nat.le_trans h hn,fun s hm=>⟨mz rfl (hs s hm).1 (by decide),⟨Nat.le_trans (hs s hm).2.1 (by decide),fun w hw=>yI ((hs s hm).2.2 w hw).1 ((hs s hm).2.2 w hw).2 (by decide)⟩,trivial⟩⟩
theorem Gg {xs:List lQ.D} {n:Nat} (h:xs.length<=n) (hs:∀s∈xs,gdD s) (hn:n<=1048576):Sm (.sl lQ) xs:=
 ⟨Nat.le_trans h hn,fun s hm=>⟨trivial,Aq (hs s hm).1 (hs s hm).2 (by decide),trivial⟩⟩
theorem jl1 {r:List (List ax.D)} (h:∀c∈r,c.length<=6) {i:Int}:(([]:List ax.D).length+(nth (t:=.sl ax) r i:List ax.D).length) * 16<=lim:=by
 have:=sL h i
 simp only[List.length_nil,lim]
 omega
theorem jl2 {r:List (List ax.D)} (h:∀c∈r,c.length<=6) {i j:Int}:(([]++(nth (t:=.sl ax) r i:List ax.D)).length+(nth (t:=.sl ax) r j:List ax.D).length) * 16<=lim:=by
 have:=sL h i
 have:=sL h j
 simp only[List.nil_append,lim]
 omega
theorem jl3 {r:List (List ax.D)} (h:∀c∈r,c.length<=6) {i j:Int}:Sm (.sl ax) (([]++(nth (t:=.sl ax) r i:List ax.D))++(nth (t:=.sl ax) r j:List ax.D)):=by
 have:=sL h i
 have:=sL h j
 exact mz (n:=12) rfl (by simp only[List.nil_append,List.length_append];omega) (by decide)
theorem qH {a n:Int} (ha:0<=a) (hn:1<=n):0<=a.tmod n/\a.tmod n<n:=by
 rw[Int.tmod_eq_emod_of_nonneg ha]
 exact⟨Int.emod_nonneg _ (by omega),Int.emod_lt_of_pos _ (by omega)⟩
theorem FJ {a n:Int} (ha:0<=a) (hn:1<=n):0<=a.tdiv n/\a.tdiv n<=a:=by
 rw[Int.tdiv_eq_ediv_of_nonneg ha]
 exact⟨Int.ediv_nonneg ha (by omega),Int.ediv_le_self _ ha⟩
theorem GM {u n:Int} (hu:0<=u/\u<=255) (hn:1<=n):0<=(wrap64 u).tmod n/\(wrap64 u).tmod n<n:=by
 rw[aO (n:=u) (by omega) (by omega)]
 exact qH hu.1 hn
theorem Iv {u v p q n:Int} (hu:0<=u/\u<=255) (hv:0<=v/\v<=255) (p0:0<=p) (p1:p<=1000000000000000) (hq:0<=q/\q<=p) (hn:1<=n) :
  0<=(nJ .xor .i64 (wrap64 (wrap64 (wrap64 (wrap64 ((wrap64 u) * (131:Int))+wrap64 ((wrap64 v) * (1117:Int)))+wrap64 (p * (29:Int)))+wrap64 ((wrap64 q) * (53:Int)))) (wrap64 ((wrap64 (wrap64 (wrap64 (wrap64 ((wrap64 u) * (131:Int))+wrap64 ((wrap64 v) * (1117:Int)))+wrap64 (p * (29:Int)))+wrap64 ((wrap64 q) * (53:Int)))).tdiv (64:Int)))).tmod n ∧
  (nJ .xor .i64 (wrap64 (wrap64 (wrap64 (wrap64 ((wrap64 u) * (131:Int))+wrap64 ((wrap64 v) * (1117:Int)))+wrap64 (p * (29:Int)))+wrap64 ((wrap64 q) * (53:Int)))) (wrap64 ((wrap64 (wrap64 (wrap64 (wrap64 ((wrap64 u) * (131:Int))+wrap64 ((wrap64 v) * (1117:Int)))+wrap64 (p * (29:Int)))+wrap64 ((wrap64 q) * (53:Int)))).tdiv (64:Int)))).tmod n<n:=by
 have e:wrap64 (wrap64 (wrap64 (wrap64 ((wrap64 u) * (131:Int))+wrap64 ((wrap64 v) * (1117:Int)))+wrap64 (p * (29:Int)))+wrap64 ((wrap64 q) * (53:Int)))=u * 131+v * 1117+p * 29+q * 53:=by
  rw[aO (n:=u) (by omega) (by omega),aO (n:=v) (by omega) (by omega),aO (n:=q) (by omega) (by omega),aO (n:=u * 131) (by omega) (by omega),aO (n:=v * 1117) (by omega) (by omega),aO (n:=p * 29) (by omega) (by omega),aO (n:=q * 53) (by omega) (by omega),aO (n:=u * 131+v * 1117) (by omega) (by omega),aO (n:=u * 131+v * 1117+p * 29) (by omega) (by omega),aO (by omega) (by omega)]
 rw[e]
 generalize hA:u * 131+v * 1117+p * 29+q * 53=A
 have a0:0<=A:=by omega
 have a1:A<9223372036854775808:=by omega
 obtain⟨d0,d1⟩:=FJ (n:=64) a0 (by decide)
 rw[aO (n:=A.tdiv 64) (by omega) (by omega)]
 exact qH (EG a0 a1 d0 (by omega)) hn
theorem GU {xs:List ByteArray} {k:Nat} (h:xs.all (fun s=>decide (s.size<=k))=true) (i:Int):(nth (t:=Ty.str) xs i:ByteArray).size<=k:=by
 unfold nth
 rw[List.getD_eq_getElem?_getD]
 cases he:xs[i.toNat]? with
 | none=>exact Nat.zero_le _
 | some x=>exact of_decide_eq_true (List.all_eq_true.1 h x (List.mem_of_getElem? he))
theorem Gn {b:List Int} (h:ak b) (c:Option (Int×Int)):ak (aC b c):=by
 intro x hx
 cases c with
 | none=>exact h x hx
 | some p=>exact h x (List.mem_of_mem_drop (List.mem_of_mem_take hx))
end M
theorem M.JY {x n:Int} (h0:0<=x) (h1:1<=n) (h2:n<=6):0<=wrap64 ((1:Int)+x.tmod n)/\wrap64 ((1:Int)+x.tmod n)<=n:=by
 have:=M.qH h0 h1
 rw[aO (by omega) (by omega)]
 omega
theorem M.Kv {x n:Int} (h0:0<=x) (h2:x<2) (h1:1<=n):wrap64 ((1:Int)+x.tmod n)<=2:=by
 have:=M.qH h0 h1
 have h3:x.tmod n<=x:=by
  rw[Int.tmod_eq_emod_of_nonneg h0]
  have:=Int.emod_add_mul_ediv x n
  have q:=Int.mul_nonneg (show 0<=n by omega) (Int.ediv_nonneg h0 (show 0<=n by omega))
  omega
 rw[aO (by omega) (by omega)]
 omega
theorem M.Ku {x n:Int} (h0:0<=x) (h1:1<=n) (h2:n<=6):1<=wrap64 ((1:Int)+x.tmod n):=by
 have:=M.qH h0 h1
 rw[aO (by omega) (by omega)]
 omega
abbrev M.mid (a b:Int):Int:=wrap64 (((tD .u64 (wrap64 (a+b))).fdiv (2 ^ (min (1:Int).toNat 64))))
theorem M.IG {xs:List (List aa.D)} (h:Sm (.sl (.sl aa)) xs) {i j:Nat} {a b:Int}:Sm (.sl (.sl aa)) ((xs.set i (nth (t:=.sl aa) xs a)).set j (nth (t:=.sl aa) xs b)):=by
 refine⟨by rw[List.length_set,List.length_set];exact h.1,fun x hx=>?_⟩
 rcases List.mem_or_eq_of_mem_set hx with hx | rfl
 ·rcases List.mem_or_eq_of_mem_set hx with hx | rfl
  ·exact h.2 x hx
  ·exact aH (t:=.sl aa) h a
 ·exact aH (t:=.sl aa) h b
theorem cl {p:Prop} (h:p:=by ((try dsimp only);(repeat' (first | assumption | exact all_nil | refine all_cons ?_ ?_ | refine Fx ?_ ?_ | refine uL ?_ ?_ | refine HC ?_ | refine M.Jj ?_ _ | refine M.IW ?_ ?_ | refine M.IL ?_ ?_ ?_ | refine M.Ho ?_ ?_ ?_ | refine M.GJ ?_ ?_ | exact M.Cv (by assumption) _ | exact M.EB (M.Cv (by assumption) _) _ | refine M.JI ?_ ?_ ?_ ?_ | refine M.Kc ?_ ?_ | exact M.zy (by assumption) _ | exact M.qa (by assumption) _ | exact(M.qa (by assumption) _).1 | exact(M.qa (by assumption) _).2 | exact Nat.le_trans (M.yM _ _) (by omega) | exact Nat.le_trans (M.yM _ _) (M.qa (by assumption) _).1 | decide | omega | (simp only[List.length_append,List.length_cons,List.length_nil];omega) | (dsimp only;first | assumption | omega | decide)));done)):p:=h
theorem au {p:Prop} (h:p:=by first | assumption | omega | decide | trivial | (dsimp only;first | assumption | omega | decide) | (simp only[zl,Ai,tQ,List.size_toArray,List.length_cons,List.length_nil,List.length_append,List.length_take,List.length_set,List.length_replicate];omega) | (simp only[zl,Ai,tQ,List.size_toArray,List.length_cons,List.length_nil,List.length_append,List.length_take,List.length_set,List.length_replicate,lim];omega) | (simp only[zl,Ai,tQ,List.size_toArray,List.length_cons,List.length_nil,List.length_append,List.length_take,List.length_set,List.length_replicate,lim,wrap64];omega) | exact M.mz rfl (by assumption) (by decide) | exact M.yI (by assumption) (by assumption) (by decide) | exact M.Gn (by assumption) _ | exact oK (by assumption) _ | exact jh _ | exact Nat.le_trans (M.GU (k:=2) rfl _) (by decide) | exact(M.JY (by assumption) (by omega) (by omega)).1 | exact(M.JY (by assumption) (by omega) (by omega)).2 | exact oK (M.mz rfl (by assumption) (by decide)) _ | exact fun _=>rfl | (intro _;omega) | exact M.JN (M.zy (by assumption) _) | exact M.IQ (by assumption) _ | exact M.jl1 (by assumption) | exact M.jl2 (by assumption) | exact M.jl3 (by assumption) | exact M.mz rfl (M.sL (by assumption) _) (by decide) | exact M.Je (by assumption) (by assumption) (by decide) | exact M.FK (by assumption) (by assumption) (by decide) | exact M.Gg (by assumption) (by assumption) (by decide) | exact M.Dm (by assumption) (by assumption) (by decide) | exact M.FV (M.Cv (by assumption) _) | exact M.HQ (n:=1000) (by first | omega | (simp only[List.length_append,List.length_cons,List.length_nil];omega)) (by exact cl) (by decide) | exact(fun h=>Bool.noConfusion h) | exact M.IG (by assumption) | exact aH (t:=.sl aa) (by assumption) _ | exact cl):p:=h
section
variable {α β σ ρ τ ε:Type} {K:α->Prop}
theorem okG {p:Prop} {x:Option α} (k:ok x K) (h:p:=by exact au):ok (af p x) K:=by rw[ai h];exact k
theorem okL {γ:Type} {x:γ} {f:γ->Option α} (k:∀r,r=x->ok (f r) K):ok (aL x f) K:=k x rfl
theorem okC {b:Bool} {x y:Option α} (h1:b=true->ok x K) (h2:b=false->ok y K):ok (cond b x y) K:=by
 cases b
 ·exact h2 rfl
 ·exact h1 rfl
theorem okD {p:Prop} [Decidable p] {x y:Option α} (h1:p->ok x K) (h2:¬p->ok y K):ok (cond (decide p) x y) K:=okC (fun h=>h1 (of_decide_eq_true h)) (fun h=>h2 (of_decide_eq_false h))
theorem Dz {p:Prop} [Decidable p] {x y:Option α} (h1:p->ok x K) (h2:¬p->ok y K):ok (cond (decide p==true) x y) K:=okC (fun h=>h1 (by simpa using h)) (fun h=>h2 (by simpa using h))
theorem Kr {p:Prop} [Decidable p] {x y:Option α} (h1:¬p->ok x K) (h2:p->ok y K):ok (cond (decide p==false) x y) K:=okC (fun h=>h1 (by simpa using h)) (fun h=>h2 (by simpa using h))
theorem okS {x:α} (h:K x):ok (some x) K:=h
theorem oB {x:α} {P Q R:α->Prop} (h0:P x:=by exact au) (h1:Q x:=by exact au) (h2:R x:=by exact au):ok (some x) (fun r=>P r/\Q r/\R r):=⟨h0,h1,h2⟩
theorem JW {x:α} {P Q R S:α->Prop} (h0:P x:=by exact au) (h1:Q x:=by exact au) (h2:R x:=by exact au) (h3:S x:=by exact au):ok (some x) (fun r=>P r/\Q r/\R r/\S r):=⟨h0,h1,h2,h3⟩
theorem uG {x:α} {P Q R S T:α->Prop} (h0:P x:=by exact au) (h1:Q x:=by exact au) (h2:R x:=by exact au) (h3:S x:=by exact au) (h4:T x:=by exact au):ok (some x) (fun r=>P r/\Q r/\R r/\S r/\T r):=⟨h0,h1,h2,h3,h4⟩
theorem iO {x:α} {P Q R S T U:α->Prop} (h0:P x:=by exact au) (h1:Q x:=by exact au) (h2:R x:=by exact au) (h3:S x:=by exact au) (h4:T x:=by exact au) (h5:U x:=by exact au):ok (some x) (fun r=>P r/\Q r/\R r/\S r/\T r/\U r):=⟨h0,h1,h2,h3,h4,h5⟩
theorem Ks {x:α} {P Q R S T U V:α->Prop} (h0:P x:=by exact au) (h1:Q x:=by exact au) (h2:R x:=by exact au) (h3:S x:=by exact au) (h4:T x:=by exact au) (h5:U x:=by exact au) (h6:V x:=by exact au):ok (some x) (fun r=>P r/\Q r/\R r/\S r/\T r/\U r/\V r):=⟨h0,h1,h2,h3,h4,h5,h6⟩
theorem IE {x:α} {P Q R S T U V W:α->Prop} (h0:P x:=by exact au) (h1:Q x:=by exact au) (h2:R x:=by exact au) (h3:S x:=by exact au) (h4:T x:=by exact au) (h5:U x:=by exact au) (h6:V x:=by exact au) (h7:W x:=by exact au):ok (some x) (fun r=>P r/\Q r/\R r/\S r/\T r/\U r/\V r/\W r):=⟨h0,h1,h2,h3,h4,h5,h6,h7⟩
theorem KD {x:α} {P Q R S T U V W Y:α->Prop} (h0:P x:=by exact au) (h1:Q x:=by exact au) (h2:R x:=by exact au) (h3:S x:=by exact au) (h4:T x:=by exact au) (h5:U x:=by exact au) (h6:V x:=by exact au) (h7:W x:=by exact au) (h8:Y x:=by exact au):ok (some x) (fun r=>P r/\Q r/\R r/\S r/\T r/\U r/\V r/\W r/\Y r):=⟨h0,h1,h2,h3,h4,h5,h6,h7,h8⟩
theorem fc {f:σ->Prop} {g:ρ->Prop} {s:σ} (h:f s):ok (some (.inl s:Sum σ ρ)) (bA f g):=h
theorem fF {f:σ->Prop} {g:ρ->Prop} {r:ρ} (h:g r):ok (some (.inr r:Sum σ ρ)) (bA f g):=h
theorem Hl {f:σ->Prop} {A:ε->Prop} {B:ρ->Prop} {r:ε} (h:A r):ok (some (.inr (.inl r):Sum σ (Sum ε ρ))) (bA f (bA A B)):=h
theorem JD {f:σ->Prop} {A:ε->Prop} {B:ρ->Prop} {r:ρ} (h:B r):ok (some (.inr (.inr r):Sum σ (Sum ε ρ))) (bA f (bA A B)):=h
theorem okT {o:Option (Sum σ ρ)} {f:σ->Option α} {g:ρ->Option α} {A:σ->Prop} {B:ρ->Prop} (h:ok o (bA A B)) (ha:∀s,A s->ok (f s) K) (hb:∀r,B r->ok (g r) K):ok (bD o f g) K:=by
 cases o with
 | none=>exact h.elim
 | some z=>
  cases z with
  | inl s=>exact ha s h
  | inr r=>exact hb r h
theorem okB {γ:Type} {o:Option γ} {f:γ->Option α} {A:γ->Prop} (h:ok o A) (ha:∀x,A x->ok (f x) K):ok (Option.bind o f) K:=by
 cases o with
 | none=>exact h.elim
 | some z=>exact ha z h
theorem okW {f:σ->Option (Sum σ ρ)} {R:ρ->Prop} (I:Nat->σ->Prop) (h:∀n s,I n s->ok (f s) (bA (fun s'=>∃m,m<n/\I m s') R)):∀(n:Nat) (s:σ),I n s->ok (bL f s) R:=by
 intro n
 induction n using Nat.strongRecOn with
 | ind n ih=>
  intro s hs
  rw[bQ]
  refine okT (h n s hs) (fun s' ⟨m,hm,hi⟩=>ih m hm s' hi) (fun r hr=>okS hr)
theorem okE {f:α->σ->Option (Sum σ ρ)} {R:ρ->Prop} (I:Nat->σ->Prop):∀(xs:List α) (n:Nat) (s:σ),I n s->(∀x∈xs,∀(k:Nat) (s:σ),n<=k->k<n+xs.length->I k s->ok (f x s) (bA (I (k+1)) R))->ok (aW f xs s) (bA (I (n+xs.length)) R)
 | [],n,s,hs,_=>hs
 | x::xs,n,s,hs,h=>by
  show ok (bD (f x s) _ _) _
  refine okT (h x List.mem_cons_self n s (Nat.le_refl _) (by simp) hs) (fun s' hs'=>?_) (fun r hr=>okS hr)
  have:=okE I xs (n+1) s' hs' (fun y hy k s hk hl hi=>h y (List.mem_cons_of_mem _ hy) k s (by omega) (by simp;omega) hi)
  rw[List.length_cons,show n+(xs.length+1)=n+1+xs.length by omega]
  exact this
theorem gf {o:Option α} {d:α} (h:ok o K):o=some (o.getD d):=by
 cases o with
 | none=>exact h.elim
 | some x=>rfl
theorem gr {o:Option α} {d:α} (h:ok o K):K (o.getD d):=by
 cases o with
 | none=>exact h.elim
 | some x=>exact h
theorem KE {f:α->σ->Option (Sum σ ρ)} {R:ρ->Prop} (I:Nat->σ->Prop) {xs:List α} {s:σ} (h0:I 0 s) (h:∀x∈xs,∀(k:Nat) (s:σ),k<xs.length->I k s->ok (f x s) (bA (I (k+1)) R)):ok (aW f xs s) (bA (I xs.length) R):=by
 have:=okE (R:=R) I xs 0 s h0 (fun x hx k s _ hk hi=>h x hx k s (by omega) hi)
 rw[Nat.zero_add] at this
 exact this
end
end Go.AE
