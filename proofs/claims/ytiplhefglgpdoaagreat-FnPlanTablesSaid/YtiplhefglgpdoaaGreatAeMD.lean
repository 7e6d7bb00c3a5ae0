/- How it is shown that a function's value is there, and what holds of it: plain Lean. -/
import Derived.Test.YtiplhefglgpdoaaGreatAeMP
section
namespace Go.AE
open Go Go.RowKit
set_option linter.unusedVariables false
def M.ax (b:List Int):Prop:=∀x∈b,0<=x/\x<=255
theorem Em {a b:Int} (ha:0<=a) (ha':a<9223372036854775808) (hb:0<=b) (hb':b<9223372036854775808):0<=mM .xor .i64 a b:=by
 have h1:(BitVec.ofInt 64 a).toNat<2 ^ 63:=by rw[BitVec.toNat_ofInt];omega
 have h2:(BitVec.ofInt 64 b).toNat<2 ^ 63:=by rw[BitVec.toNat_ofInt];omega
 have h3:(BitVec.ofInt 64 a ^^^ BitVec.ofInt 64 b).toNat<2 ^ 63:=by
  rw[BitVec.toNat_xor]
  exact Nat.xor_lt_two_pow h1 h2
 show 0<=IntKind.i64.wrap (((BitVec.ofInt 64 a ^^^ BitVec.ofInt 64 b).toNat:Nat):Int)
 generalize (BitVec.ofInt 64 a ^^^ BitVec.ofInt 64 b).toNat=m at h3
 have e:((m:Int) % 2 ^ 64)=(m:Int):=by omega
 unfold IntKind.wrap
 simp only[show IntKind.i64.bits=64 from rfl,e]
 split
 ·rename_i h
  simp only[Bool.and_eq_true,decide_eq_true_eq] at h
  omega
 ·omega
theorem sv (xs:List Int):(strOf xs).size=xs.length:=by
 unfold strOf
 show (List.toArray _).size=_
 simp
theorem xK (a b:ByteArray):(a++b).size=a.size+b.size:=ByteArray.size_append
def M.eB (deep:Int):Nat:=if deep<=0 then 3 else if deep<=1 then 9 else if deep<=2 then 27 else 81
section
variable {α:Type} {P:α->Prop} {a b:List α} {x:α}
theorem all_nil:∀v∈([]:List α),P v:=fun _ h=>by cases h
theorem all_cons (h:P x) (hb:∀v∈b,P v):∀v∈x::b,P v:=fun v hv=>by
 rcases List.mem_cons.1 hv with rfl | hv
 ·exact h
 ·exact hb v hv
theorem EX (ha:∀v∈a,P v) (hb:∀v∈b,P v):∀v∈a++b,P v:=fun v hv=>(List.mem_append.1 hv).elim (ha v) (hb v)
theorem oD {n:Nat} (ha:∀v∈a,P v) (h:P x):∀v∈a.set n x,P v:=fun v hv=>by
 rcases List.mem_or_eq_of_mem_set hv with hv | rfl
 ·exact ha v hv
 ·exact h
theorem GR {n:Nat} (ha:∀v∈a,P v):∀v∈a.take n,P v:=fun v hv=>ha v (List.mem_of_mem_take hv)
theorem zu (l:Array UInt8):(⟨l⟩:ByteArray).size=l.size:=rfl
end
namespace M
theorem EY {d:Int}:3<=eB d/\eB d<=81:=by
 unfold eB
 repeat' split
 all_goals omega
theorem DN {d:Int} (h1:1<=d) (h3:d<=3):3 * eB (d-1)=eB d/\eB (d-2)<=eB (d-1):=by
 have:d=1\/d=2\/d=3:=by omega
 rcases this with rfl | rfl | rfl<;>decide
theorem IY {d:Int} (h3:d<=3):1<=d->3 * eB (wrap64 (d-(1:Int)))<=eB d:=fun h1=>by
 rw[aI (by omega) (by omega),(DN h1 h3).1]
 exact Nat.le_refl _
theorem IW {d:Int} (h3:d<=3):1<=d->3 * eB (wrap64 (d-(2:Int)))<=eB d:=fun h1=>by
 rw[aI (by omega) (by omega),<-(DN h1 h3).1]
 exact Nat.mul_le_mul_left 3 (DN h1 h3).2
theorem bytes_of_fine {x:List Int} (h:uS (.sl (.int .u8)) x):ax x:=fun n hn=>by
 have:=h.2 n hn
 unfold uS Lit.wf at this
 simp only[Bool.and_eq_true,decide_eq_true_eq] at this
 exact this
theorem vn {b:List Int} (h:ax b) (i:Int):0<=nth (t:=.int .u8) b i/\nth (t:=.int .u8) b i<=255:=by
 unfold nth
 rw[List.getD_eq_getElem?_getD]
 cases he:b[i.toNat]? with
 | none=>exact⟨Int.le_refl _,by decide⟩
 | some x=>exact h x (List.mem_of_getElem? he)
theorem lA {t:Ty} (ht:t.bare=true) {xs:List t.D} {n:Nat} (h:xs.length<=n) (hn:n<=1048576):Sm (.sl t) xs:=⟨Nat.le_trans h hn,fun x _=>xE ht x⟩
theorem BE {vs:List aa.D} {n:Nat} (h:vs.length<=n) (hv:∀v∈vs,v.2.2.1.size<=20) (hn:n<=1048576):Sm (.sl aa) vs:=⟨Nat.le_trans h hn,fun v hm=>⟨trivial,trivial,Nat.le_trans (hv v hm) (by decide),trivial⟩⟩
theorem CS {vs:List aE.D} {n:Nat} (h:vs.length<=n) (hv:∀v∈vs,v.2.2.1.2.2.1.size<=20) (hn:n<=1048576):Sm (.sl aE) vs:=⟨Nat.le_trans h hn,fun v hm=>⟨trivial,trivial,⟨trivial,trivial,Nat.le_trans (hv v hm) (by decide),trivial⟩,trivial⟩⟩
def tu (w:List aa.D):Prop:=w.length<=9/\∀v∈w,v.2.2.1.size<=20
def hU (t:aq.D):Prop:=t.1.length<=6/\t.2.1.length<=7/\∀w∈t.2.1,tu w
def eL (s:aj.D):Prop:=s.2.2.2.2.1.length<=81/\(∀v∈s.2.2.2.2.1,v.2.2.1.2.2.1.size<=20)/\s.2.2.2.2.2.1.length<=3
def gdD (g:kM.D):Prop:=g.2.1.length<=81/\∀v∈g.2.1,v.2.2.1.2.2.1.size<=20
def wD (t:aq.D):Prop:=t.1.length<=4/\t.2.1.length<=6/\∀w∈t.2.1,w.length<=4
theorem HO {w:List aa.D} (h:w.length<=9) (h2:∀v∈w,v.2.2.1.size<=20):tu w:=⟨h,h2⟩
theorem HW {c:List ag.D} {r:List (List aa.D)} (h:c.length<=6) (h2:r.length<=7) (h3:∀w∈r,tu w):hU (c,r,()):=⟨h,h2,h3⟩
theorem GW {k a b n:Int} {e:List aE.D} {l:List Int} (h:e.length<=81) (h2:∀v∈e,v.2.2.1.2.2.1.size<=20) (h3:l.length<=3):eL (k,a,b,n,e,l,()):=⟨h,h2,h3⟩
theorem FT {n:Int} {e:List aE.D} (h:e.length<=81) (h2:∀v∈e,v.2.2.1.2.2.1.size<=20):gdD (n,e,()):=⟨h,h2⟩
theorem mR {t:Ty} {P:t.D->Prop} {xs:List t.D} (h:∀x∈xs,P x) (hz:P t.zero) (i:Int):P (nth (t:=t) xs i):=by
 unfold nth
 rw[List.getD_eq_getElem?_getD]
 cases he:xs[i.toNat]? with
 | none=>exact hz
 | some x=>exact h x (List.mem_of_getElem? he)
theorem zb {xs:List (List aa.D)} (h:∀w∈xs,tu w) (i:Int):tu (nth (t:=.sl aa) xs i):=mR (t:=.sl aa) (P:=tu) h ⟨Nat.zero_le _,fun _ h=>by cases h⟩ i
theorem IM {w:List aa.D} (h:tu w):Sm (.sl aa) w:=BE h.1 h.2 (by decide)
theorem pg {xs:List kM.D} (h:∀w∈xs,gdD w) (i:Int):gdD (nth (t:=kM) xs i):=mR (t:=kM) (P:=gdD) h ⟨Nat.zero_le _,fun _ h=>by cases h⟩ i
theorem lD {xs:List (List ag.D)} (h:∀c∈xs,c.length<=6) (i:Int):(nth (t:=.sl ag) xs i:List ag.D).length<=6:=mR (t:=.sl ag) (P:=fun c:List ag.D=>c.length<=6) h (Nat.zero_le _) i
theorem tJ {xs:List aq.D} (h:∀w∈xs,hU w) (i:Int):hU (nth (t:=aq) xs i):=mR (t:=aq) (P:=hU) h ⟨Nat.zero_le _,Nat.zero_le _,fun _ h=>by cases h⟩ i
theorem xS {xs:List aq.D} (h:∀w∈xs,wD w) (i:Int):wD (nth (t:=aq) xs i):=mR (t:=aq) (P:=wD) h ⟨Nat.zero_le _,Nat.zero_le _,fun _ h=>by cases h⟩ i
theorem Fu {xs:List aq.D} {i:Int} {k:Nat} {w:List (List aa.D)} (h:∀t∈xs,hU t) (he:∀t∈xs,wD t) (hw:∀r∈w,tu r) (hl:w.length<=1) :
  ∀t∈((xs.set k ((nth (t:=aq) xs i).1,([],()))).set k ((nth (t:=aq) (xs.set k ((nth (t:=aq) xs i).1,([],()))) i).1,((((nth (t:=aq) xs i).2).1++w),()))),hU t:=by
 have h1:=tJ h i
 have h2:=xS he i
 have h3:∀t∈xs.set k ((nth (t:=aq) xs i).1,([],())),hU t:=oD h ⟨h1.1,Nat.zero_le _,fun _ h=>by cases h⟩
 refine oD h3 ⟨(tJ h3 i).1,?_,EX h1.2.2 hw⟩
 have:=h2.2.1
 show (((nth (t:=aq) xs i).2).1++w).length<=7
 rw[List.length_append]
 omega
theorem Fh {xs:List aq.D} {i:Int} {k:Nat} {w:List ag.D} (h:∀t∈xs,hU t) (he:∀t∈xs,wD t) (hl:w.length<=1) :
  ∀t∈((xs.set k ([],(nth (t:=aq) xs i).2)).set k (((nth (t:=aq) xs i).1++w),(nth (t:=aq) (xs.set k ([],(nth (t:=aq) xs i).2)) i).2)),hU t:=by
 have h1:=tJ h i
 have h2:=xS he i
 have h3:∀t∈xs.set k ([],(nth (t:=aq) xs i).2),hU t:=oD h ⟨Nat.zero_le _,h1.2⟩
 refine oD h3 ⟨?_,(tJ h3 i).2⟩
 have:=h2.1
 show ((nth (t:=aq) xs i).1++w).length<=6
 rw[List.length_append]
 omega
theorem AJ {xs:List aj.D} (h:∀w∈xs,eL w) (i:Int):eL (nth (t:=aj) xs i):=mR (t:=aj) (P:=eL) h ⟨Nat.zero_le _,(fun _ h=>by cases h),Nat.zero_le _⟩ i
theorem Jg {xs:List aj.D} {k:Nat} {i v:Int} (h:∀w∈xs,eL w):∀w∈(xs.set k ((nth (t:=aj) xs i).1,(v,((nth (t:=aj) xs i).2).2))),eL w:=oD h (AJ h i)
theorem Jb {xs:List aj.D} {k:Nat} {i v:Int} (h:∀w∈xs,eL w):∀w∈(xs.set k (v,(nth (t:=aj) xs i).2)),eL w:=oD h (AJ h i)
theorem EF {α:Type} (xs:List α) (c:Option (Int×Int)):(aD xs c).length<=xs.length:=by
 cases c with
 | none=>exact Nat.le_refl _
 | some p=>
  unfold aD
  simp only[List.length_drop,List.length_take]
  omega
theorem IE {α:Type} {xs:List α} {k:Int} (h:k<=2):(aD xs (some ((0:Int),k))).length<=2:=by
 unfold aD
 simp only[List.length_drop,List.length_take]
 omega
theorem HT {α:Type} {P:α->Prop} {xs:List α} (h:∀x∈xs,P x) (c:Option (Int×Int)):∀x∈aD xs c,P x:=by
 intro x hx
 cases c with
 | none=>exact h x hx
 | some p=>exact h x (List.mem_of_mem_drop (List.mem_of_mem_take hx))
theorem HG {ts:List aq.D} (h:Sm (.sl aq) ts) (i:Int):Sm (.sl ag) (nth (t:=aq) ts i).1:=mR (t:=aq) (P:=fun t:aq.D=>Sm (.sl ag) t.1) (fun t hm=>(h.2 t hm).1) (lY _) i
theorem Bh {xs:List (List ag.D)} {n:Nat} (h:xs.length<=n) (hc:∀c∈xs,c.length<=6) (hn:n<=1048576):Sm (.sl (.sl ag)) xs:=⟨Nat.le_trans h hn,fun c hm=>lA rfl (hc c hm) (by decide)⟩
theorem qT {xs:List aj.D} {n:Nat} (h:xs.length<=n) (hs:∀s∈xs,eL s) (hn:n<=1048576):Sm (.sl aj) xs:=
 ⟨Nat.le_trans h hn,fun s hm=>⟨trivial,trivial,trivial,trivial,CS (hs s hm).1 (hs s hm).2.1 (by decide),lA (t:=.int .i64) rfl (hs s hm).2.2 (by decide),trivial⟩⟩
theorem EL {xs:List aq.D} {n:Nat} (h:xs.length<=n) (hs:∀s∈xs,hU s) (hn:n<=1048576):Sm (.sl aq) xs:=
 ⟨Nat.le_trans h hn,fun s hm=>⟨lA rfl (hs s hm).1 (by decide),⟨Nat.le_trans (hs s hm).2.1 (by decide),fun w hw=>BE ((hs s hm).2.2 w hw).1 ((hs s hm).2.2 w hw).2 (by decide)⟩,trivial⟩⟩
theorem Fy {xs:List kM.D} {n:Nat} (h:xs.length<=n) (hs:∀s∈xs,gdD s) (hn:n<=1048576):Sm (.sl kM) xs:=
 ⟨Nat.le_trans h hn,fun s hm=>⟨trivial,CS (hs s hm).1 (hs s hm).2 (by decide),trivial⟩⟩
theorem jl1 {r:List (List ag.D)} (h:∀c∈r,c.length<=6) {i:Int}:(([]:List ag.D).length+(nth (t:=.sl ag) r i:List ag.D).length) * 16<=lim:=by
 have:=lD h i
 simp only[List.length_nil,lim]
 omega
theorem jl2 {r:List (List ag.D)} (h:∀c∈r,c.length<=6) {i j:Int}:(([]++(nth (t:=.sl ag) r i:List ag.D)).length+(nth (t:=.sl ag) r j:List ag.D).length) * 16<=lim:=by
 have:=lD h i
 have:=lD h j
 simp only[List.nil_append,lim]
 omega
theorem jl3 {r:List (List ag.D)} (h:∀c∈r,c.length<=6) {i j:Int}:Sm (.sl ag) (([]++(nth (t:=.sl ag) r i:List ag.D))++(nth (t:=.sl ag) r j:List ag.D)):=by
 have:=lD h i
 have:=lD h j
 exact lA (n:=12) rfl (by simp only[List.nil_append,List.length_append];omega) (by decide)
theorem rj {a n:Int} (ha:0<=a) (hn:1<=n):0<=a.tmod n/\a.tmod n<n:=by
 rw[Int.tmod_eq_emod_of_nonneg ha]
 exact⟨Int.emod_nonneg _ (by omega),Int.emod_lt_of_pos _ (by omega)⟩
theorem Fa {a n:Int} (ha:0<=a) (hn:1<=n):0<=a.tdiv n/\a.tdiv n<=a:=by
 rw[Int.tdiv_eq_ediv_of_nonneg ha]
 exact⟨Int.ediv_nonneg ha (by omega),Int.ediv_le_self _ ha⟩
theorem FQ {u n:Int} (hu:0<=u/\u<=255) (hn:1<=n):0<=(wrap64 u).tmod n/\(wrap64 u).tmod n<n:=by
 rw[aI (n:=u) (by omega) (by omega)]
 exact rj hu.1 hn
theorem Hl {u v p q n:Int} (hu:0<=u/\u<=255) (hv:0<=v/\v<=255) (p0:0<=p) (p1:p<=1000000000000000) (hq:0<=q/\q<=p) (hn:1<=n) :
  0<=(mM .xor .i64 (wrap64 (wrap64 (wrap64 (wrap64 ((wrap64 u) * (131:Int))+wrap64 ((wrap64 v) * (1117:Int)))+wrap64 (p * (29:Int)))+wrap64 ((wrap64 q) * (53:Int)))) (wrap64 ((wrap64 (wrap64 (wrap64 (wrap64 ((wrap64 u) * (131:Int))+wrap64 ((wrap64 v) * (1117:Int)))+wrap64 (p * (29:Int)))+wrap64 ((wrap64 q) * (53:Int)))).tdiv (64:Int)))).tmod n ∧
  (mM .xor .i64 (wrap64 (wrap64 (wrap64 (wrap64 ((wrap64 u) * (131:Int))+wrap64 ((wrap64 v) * (1117:Int)))+wrap64 (p * (29:Int)))+wrap64 ((wrap64 q) * (53:Int)))) (wrap64 ((wrap64 (wrap64 (wrap64 (wrap64 ((wrap64 u) * (131:Int))+wrap64 ((wrap64 v) * (1117:Int)))+wrap64 (p * (29:Int)))+wrap64 ((wrap64 q) * (53:Int)))).tdiv (64:Int)))).tmod n<n:=by
 have e:wrap64 (wrap64 (wrap64 (wrap64 ((wrap64 u) * (131:Int))+wrap64 ((wrap64 v) * (1117:Int)))+wrap64 (p * (29:Int)))+wrap64 ((wrap64 q) * (53:Int)))=u * 131+v * 1117+p * 29+q * 53:=by
  rw[aI (n:=u) (by omega) (by omega),aI (n:=v) (by omega) (by omega),aI (n:=q) (by omega) (by omega),aI (n:=u * 131) (by omega) (by omega),aI (n:=v * 1117) (by omega) (by omega),aI (n:=p * 29) (by omega) (by omega),aI (n:=q * 53) (by omega) (by omega),aI (n:=u * 131+v * 1117) (by omega) (by omega),aI (n:=u * 131+v * 1117+p * 29) (by omega) (by omega),aI (by omega) (by omega)]
 rw[e]
 generalize hA:u * 131+v * 1117+p * 29+q * 53=A
 have a0:0<=A:=by omega
 have a1:A<9223372036854775808:=by omega
 obtain⟨d0,d1⟩:=Fa (n:=64) a0 (by decide)
 rw[aI (n:=A.tdiv 64) (by omega) (by omega)]
 exact rj (Em a0 a1 d0 (by omega)) hn
theorem Gc {xs:List ByteArray} {k:Nat} (h:xs.all (fun s=>decide (s.size<=k))=true) (i:Int):(nth (t:=Ty.str) xs i:ByteArray).size<=k:=by
 unfold nth
 rw[List.getD_eq_getElem?_getD]
 cases he:xs[i.toNat]? with
 | none=>exact Nat.zero_le _
 | some x=>exact of_decide_eq_true (List.all_eq_true.1 h x (List.mem_of_getElem? he))
theorem FJ {b:List Int} (h:ax b) (c:Option (Int×Int)):ax (aD b c):=by
 intro x hx
 cases c with
 | none=>exact h x hx
 | some p=>exact h x (List.mem_of_mem_drop (List.mem_of_mem_take hx))
end M
theorem M.IZ {x n:Int} (h0:0<=x) (h1:1<=n) (h2:n<=6):0<=wrap64 ((1:Int)+x.tmod n)/\wrap64 ((1:Int)+x.tmod n)<=n:=by
 have:=M.rj h0 h1
 rw[aI (by omega) (by omega)]
 omega
theorem M.Jk {x n:Int} (h0:0<=x) (h2:x<2) (h1:1<=n):wrap64 ((1:Int)+x.tmod n)<=2:=by
 have:=M.rj h0 h1
 have h3:x.tmod n<=x:=by
  rw[Int.tmod_eq_emod_of_nonneg h0]
  have:=Int.emod_add_mul_ediv x n
  have q:=Int.mul_nonneg (show 0<=n by omega) (Int.ediv_nonneg h0 (show 0<=n by omega))
  omega
 rw[aI (by omega) (by omega)]
 omega
theorem M.IC {x n:Int} (h0:0<=x) (h1:x<5) (n1:1<=n) (n6:n<=6):-1<=wrap64 (wrap64 (n-(1:Int))-(wrap64 (x.tdiv (4:Int))))/\wrap64 (wrap64 (n-(1:Int))-(wrap64 (x.tdiv (4:Int))))<=n-1:=by
 have:0<=x.tdiv 4/\x.tdiv 4<=1:=by
  rw[Int.tdiv_eq_ediv_of_nonneg h0]
  omega
 rw[aI (n:=x.tdiv 4) (by omega) (by omega),aI (n:=n-1) (by omega) (by omega),aI (by omega) (by omega)]
 omega
theorem cl {p:Prop} (h:p:=by ((try dsimp only);(repeat' (first | assumption | exact all_nil | refine all_cons ?_ ?_ | refine EX ?_ ?_ | refine oD ?_ ?_ | refine GR ?_ | refine M.HT ?_ _ | refine M.HO ?_ ?_ | refine M.HW ?_ ?_ ?_ | refine M.GW ?_ ?_ ?_ | refine M.FT ?_ ?_ | exact M.zb (by assumption) _ | exact M.pg (by assumption) _ | exact(M.pg (by assumption) _).1 | exact(M.pg (by assumption) _).2 | exact Nat.le_trans (M.EF _ _) (by omega) | exact Nat.le_trans (M.EF _ _) (M.pg (by assumption) _).1 | decide | omega | (dsimp only;first | assumption | omega | decide)));done)):p:=h
theorem au {p:Prop} (h:p:=by first | assumption | omega | decide | trivial | (dsimp only;first | assumption | omega | decide) | (simp only[xK,zu,sv,List.size_toArray,List.length_cons,List.length_nil,List.length_append,List.length_take,List.length_set,List.length_replicate];omega) | (simp only[xK,zu,sv,List.size_toArray,List.length_cons,List.length_nil,List.length_append,List.length_take,List.length_set,List.length_replicate,lim];omega) | (simp only[xK,zu,sv,List.size_toArray,List.length_cons,List.length_nil,List.length_append,List.length_take,List.length_set,List.length_replicate,lim,wrap64];omega) | exact M.lA rfl (by assumption) (by decide) | exact M.BE (by assumption) (by assumption) (by decide) | exact M.FJ (by assumption) _ | exact DB (by assumption) _ | exact lY _ | exact Nat.le_trans (M.Gc (k:=2) rfl _) (by decide) | exact(M.IZ (by assumption) (by omega) (by omega)).1 | exact(M.IZ (by assumption) (by omega) (by omega)).2 | exact DB (M.lA rfl (by assumption) (by decide)) _ | exact fun _=>rfl | (intro _;omega) | exact M.IM (M.zb (by assumption) _) | exact M.HG (by assumption) _ | exact M.jl1 (by assumption) | exact M.jl2 (by assumption) | exact M.jl3 (by assumption) | exact M.lA rfl (M.lD (by assumption) _) (by decide) | exact M.Bh (by assumption) (by assumption) (by decide) | exact M.EL (by assumption) (by assumption) (by decide) | exact M.Fy (by assumption) (by assumption) (by decide) | exact M.qT (n:=1000) (by first | omega | (simp only[List.length_append,List.length_cons,List.length_nil];omega)) (by exact cl) (by decide) | exact cl):p:=h
section
variable {α β σ ρ τ ε:Type} {K:α->Prop}
theorem okG {p:Prop} {x:Option α} (k:ok x K) (h:p:=by exact au):ok (af p x) K:=by rw[ah h];exact k
theorem okL {γ:Type} {x:γ} {f:γ->Option α} (k:∀r,r=x->ok (f r) K):ok (aJ x f) K:=k x rfl
theorem okC {b:Bool} {x y:Option α} (h1:b=true->ok x K) (h2:b=false->ok y K):ok (cond b x y) K:=by
 cases b
 ·exact h2 rfl
 ·exact h1 rfl
theorem okD {p:Prop} [Decidable p] {x y:Option α} (h1:p->ok x K) (h2:¬p->ok y K):ok (cond (decide p) x y) K:=okC (fun h=>h1 (of_decide_eq_true h)) (fun h=>h2 (of_decide_eq_false h))
theorem FL {p:Prop} [Decidable p] {x y:Option α} (h1:p->ok x K) (h2:¬p->ok y K):ok (cond (decide p==true) x y) K:=okC (fun h=>h1 (by simpa using h)) (fun h=>h2 (by simpa using h))
theorem IX {p:Prop} [Decidable p] {x y:Option α} (h1:¬p->ok x K) (h2:p->ok y K):ok (cond (decide p==false) x y) K:=okC (fun h=>h1 (by simpa using h)) (fun h=>h2 (by simpa using h))
theorem okS {x:α} (h:K x):ok (some x) K:=h
theorem rL {x:α} {P Q R:α->Prop} (h0:P x:=by exact au) (h1:Q x:=by exact au) (h2:R x:=by exact au):ok (some x) (fun r=>P r/\Q r/\R r):=⟨h0,h1,h2⟩
theorem IV {x:α} {P Q R S:α->Prop} (h0:P x:=by exact au) (h1:Q x:=by exact au) (h2:R x:=by exact au) (h3:S x:=by exact au):ok (some x) (fun r=>P r/\Q r/\R r/\S r):=⟨h0,h1,h2,h3⟩
theorem qa {x:α} {P Q R S T:α->Prop} (h0:P x:=by exact au) (h1:Q x:=by exact au) (h2:R x:=by exact au) (h3:S x:=by exact au) (h4:T x:=by exact au):ok (some x) (fun r=>P r/\Q r/\R r/\S r/\T r):=⟨h0,h1,h2,h3,h4⟩
theorem BR {x:α} {P Q R S T U V:α->Prop} (h0:P x:=by exact au) (h1:Q x:=by exact au) (h2:R x:=by exact au) (h3:S x:=by exact au) (h4:T x:=by exact au) (h5:U x:=by exact au) (h6:V x:=by exact au):ok (some x) (fun r=>P r/\Q r/\R r/\S r/\T r/\U r/\V r):=⟨h0,h1,h2,h3,h4,h5,h6⟩
theorem fj {f:σ->Prop} {g:ρ->Prop} {s:σ} (h:f s):ok (some (.inl s:Sum σ ρ)) (bn f g):=h
theorem dj {f:σ->Prop} {g:ρ->Prop} {r:ρ} (h:g r):ok (some (.inr r:Sum σ ρ)) (bn f g):=h
theorem El {f:σ->Prop} {A:ε->Prop} {B:ρ->Prop} {r:ε} (h:A r):ok (some (.inr (.inl r):Sum σ (Sum ε ρ))) (bn f (bn A B)):=h
theorem Gx {f:σ->Prop} {A:ε->Prop} {B:ρ->Prop} {r:ρ} (h:B r):ok (some (.inr (.inr r):Sum σ (Sum ε ρ))) (bn f (bn A B)):=h
theorem okT {o:Option (Sum σ ρ)} {f:σ->Option α} {g:ρ->Option α} {A:σ->Prop} {B:ρ->Prop} (h:ok o (bn A B)) (ha:∀s,A s->ok (f s) K) (hb:∀r,B r->ok (g r) K):ok (bu o f g) K:=by
 cases o with
 | none=>exact h.elim
 | some z=>
  cases z with
  | inl s=>exact ha s h
  | inr r=>exact hb r h
theorem okB {γ:Type} {o:Option γ} {f:γ->Option α} {A:γ->Prop} (h:ok o A) (ha:∀x,A x->ok (f x) K):ok (Option.bind o f) K:=by
 cases o with
 | none=>exact h.elim
 | some z=>exact ha z h
theorem okW {f:σ->Option (Sum σ ρ)} {R:ρ->Prop} (I:Nat->σ->Prop) (h:∀n s,I n s->ok (f s) (bn (fun s'=>∃m,m<n/\I m s') R)):∀(n:Nat) (s:σ),I n s->ok (bZ f s) R:=by
 intro n
 induction n using Nat.strongRecOn with
 | ind n ih=>
  intro s hs
  rw[cR]
  refine okT (h n s hs) (fun s' ⟨m,hm,hi⟩=>ih m hm s' hi) (fun r hr=>okS hr)
theorem okE {f:α->σ->Option (Sum σ ρ)} {R:ρ->Prop} (I:Nat->σ->Prop):∀(xs:List α) (n:Nat) (s:σ),I n s->(∀x∈xs,∀(k:Nat) (s:σ),n<=k->k<n+xs.length->I k s->ok (f x s) (bn (I (k+1)) R))->ok (aL f xs s) (bn (I (n+xs.length)) R)
 | [],n,s,hs,_=>hs
 | x::xs,n,s,hs,h=>by
  show ok (bu (f x s) _ _) _
  refine okT (h x List.mem_cons_self n s (Nat.le_refl _) (by simp) hs) (fun s' hs'=>?_) (fun r hr=>okS hr)
  have:=okE I xs (n+1) s' hs' (fun y hy k s hk hl hi=>h y (List.mem_cons_of_mem _ hy) k s (by omega) (by simp;omega) hi)
  rw[List.length_cons,show n+(xs.length+1)=n+1+xs.length by omega]
  exact this
theorem gY {o:Option α} {d:α} (h:ok o K):o=some (o.getD d):=by
 cases o with
 | none=>exact h.elim
 | some x=>rfl
theorem gU {o:Option α} {d:α} (h:ok o K):K (o.getD d):=by
 cases o with
 | none=>exact h.elim
 | some x=>exact h
theorem Iw {f:α->σ->Option (Sum σ ρ)} {R:ρ->Prop} (I:Nat->σ->Prop) {xs:List α} {s:σ} (h0:I 0 s) (h:∀x∈xs,∀(k:Nat) (s:σ),k<xs.length->I k s->ok (f x s) (bn (I (k+1)) R)):ok (aL f xs s) (bn (I xs.length) R):=by
 have:=okE (R:=R) I xs 0 s h0 (fun x hx k s _ hk hi=>h x hx k s (by omega) hi)
 rw[Nat.zero_add] at this
 exact this
end
end Go.AE
end
section
namespace Go.AE
open Go Go.RowKit
set_option linter.unusedVariables false
namespace M
theorem Bt {tables:List aq.D} {ahead:List (List ag.D)} {s:aj.D} {c:List ag.D} (ht:∀t∈tables,hU t) (ha:∀x∈ahead,x.length<=6) (h:ct tables ahead s=some c):c.length<=6:=by
 have hn:=fun i=>lD ha i
 unfold ct at h
 obtain⟨_,h⟩:=aQ h
 cases h1:decide (s.1=(1:Int)) with
 | true=>
  rw[h1,cond_true] at h
  obtain⟨_,h⟩:=aQ h
  cases h
  exact(mR (t:=aq) (P:=hU) ht ⟨Nat.zero_le _,Nat.zero_le _,fun _ h=>by cases h⟩ _).1
 | false=>
  rw[h1,cond_false] at h
  obtain⟨_,h⟩:=aQ h
  cases h2:decide (s.1=(2:Int)) with
  | true=>
   rw[h2,cond_true] at h
   obtain⟨_,h⟩:=aQ h
   cases h
   exact hn _
  | false=>
   rw[h2,cond_false] at h
   cases h3:decide (s.1=(3:Int)) with
   | true=>
    rw[h3,cond_true] at h
    obtain⟨hb,h⟩:=aQ h
    cases h
    have:=of_decide_eq_true (Bool.and_eq_true_iff.1 hb).2
    rw[List.length_map]
    omega
   | false=>
    rw[h3,cond_false] at h
    cases h4:decide (s.1=(4:Int)) with
    | true=>
     rw[h4,cond_true] at h
     obtain⟨hb,h⟩:=aQ h
     cases h
     have:=of_decide_eq_true (Bool.and_eq_true_iff.1 hb).1
     omega
    | false=>
     rw[h4,cond_false] at h
     cases h5:decide (s.1=(5:Int)) with
     | true=>
      rw[h5,cond_true] at h
      unfold both at h
      obtain⟨_,h⟩:=aQ h
      rw[kg h]
      exact hn _
     | false=>
      rw[h5,cond_false] at h
      obtain⟨_,h⟩:=aQ h
      cases h
      exact hn _
theorem AT {tables:List aq.D} (ht:∀t∈tables,hU t):∀(xs:List aj.D) (st st':gA),(∀x∈st.1,x.length<=6)->fF (bW tables) xs st=some st'->∀x∈st'.1,x.length<=6
 | [],st,st',ha,h=>by cases h;exact ha
 | x::xs,st,st',ha,h=>by
  unfold fF at h
  cases hp:bW tables st x with
  | none=>rw[hp] at h;cases h
  | some st1=>
   rw[hp] at h
   obtain⟨c,hc,_,rfl⟩:=jP hp
   refine AT ht xs _ st' (fun y hy=>?_) h
   rcases List.mem_append.1 hy with hy | hy
   ·exact ha y hy
   ·rw[List.mem_singleton.1 hy]
    exact Bt ht ha hc
theorem vQ {tables:List aq.D}:∀(xs:List aj.D) (st st':gA),fF (bW tables) xs st=some st'->st'.1.length=st.1.length+xs.length
 | [],st,st',h=>by cases h;exact(Nat.add_zero _).symm
 | x::xs,st,st',h=>by
  unfold fF at h
  cases hp:bW tables st x with
  | none=>rw[hp] at h;cases h
  | some st1=>
   rw[hp] at h
   obtain⟨c,_,_,rfl⟩:=jP hp
   rw[vQ xs _ st' h]
   simp
   omega
theorem CC {tables:List aq.D} {plan:List aj.D} {r:List (List ag.D)×Bool} (e:r=cY tables plan) (h:(!r.2)=false):r.1.length=plan.length:=by
 subst e
 unfold cY lC at *
 cases hr:fF (bW tables) plan ([],[]) with
 | none=>rw[hr] at h;cases h
 | some st=>
  have:=vQ plan _ st hr
  simpa using this
theorem Bb {tables:List aq.D} {plan:List aj.D} {r:List (List ag.D)×Bool} (ht:∀t∈tables,hU t) (e:r=cY tables plan):∀c∈r.1,c.length<=6:=by
 subst e
 unfold cY lC
 cases hr:fF (bW tables) plan ([],[]) with
 | none=>intro c h;cases h
 | some st=>exact AT ht plan ([],[]) st (fun _ h=>by cases h) hr
end M
end Go.AE
end
