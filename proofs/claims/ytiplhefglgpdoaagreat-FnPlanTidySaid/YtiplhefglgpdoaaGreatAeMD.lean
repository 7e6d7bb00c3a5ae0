/- How it is shown that a function's value is there, and what holds of it: plain Lean. -/
import Derived.Test.YtiplhefglgpdoaaGreatAeMQ
section
namespace Go.AE
open Go Go.RowKit
set_option linter.unusedVariables false
def M.aq (b:List Int):Prop:=∀x∈b,0<=x/\x<=255
theorem EF {a b:Int} (ha:0<=a) (ha':a<9223372036854775808) (hb:0<=b) (hb':b<9223372036854775808):0<=nj .xor .i64 a b:=by
 have h1:(BitVec.ofInt 64 a).toNat<2 ^ 63:=by rw[BitVec.toNat_ofInt];omega
 have h2:(BitVec.ofInt 64 b).toNat<2 ^ 63:=by rw[BitVec.toNat_ofInt];omega
 have h3:(BitVec.ofInt 64 a ^^^ BitVec.ofInt 64 b).toNat<2 ^ 63:=by
  rw[BitVec.toNat_xor]
  exact Nat.xor_lt_two_pow h1 h2
 show 0<=IntKind.i64.wrap (((BitVec.ofInt 64 a ^^^ BitVec.ofInt 64 b).toNat:Nat):Int)
 generalize (BitVec.ofInt 64 a ^^^ BitVec.ofInt 64 b).toNat=m at h3
 have e:((m:Int) % 2 ^ 64)=(m:Int):=by omega
 unfold IntKind.wrap
 simp only[show IntKind.i64.bits=64 from rfl,e]
 split
 ·rename_i h
  simp only[Bool.and_eq_true,decide_eq_true_eq] at h
  omega
 ·omega
theorem sC (xs:List Int):(strOf xs).size=xs.length:=by
 unfold strOf
 show (List.toArray _).size=_
 simp
theorem zG (a b:ByteArray):(a++b).size=a.size+b.size:=ByteArray.size_append
def M.eB (deep:Int):Nat:=if deep<=0 then 3 else if deep<=1 then 9 else if deep<=2 then 27 else 81
section
variable {α:Type} {P:α->Prop} {a b:List α} {x:α}
theorem all_nil:∀v∈([]:List α),P v:=fun _ h=>by cases h
theorem all_cons (h:P x) (hb:∀v∈b,P v):∀v∈x::b,P v:=fun v hv=>by
 rcases List.mem_cons.1 hv with rfl | hv
 ·exact h
 ·exact hb v hv
theorem FF (ha:∀v∈a,P v) (hb:∀v∈b,P v):∀v∈a++b,P v:=fun v hv=>(List.mem_append.1 hv).elim (ha v) (hb v)
theorem pO {n:Nat} (ha:∀v∈a,P v) (h:P x):∀v∈a.set n x,P v:=fun v hv=>by
 rcases List.mem_or_eq_of_mem_set hv with hv | rfl
 ·exact ha v hv
 ·exact h
theorem GK {n:Nat} (ha:∀v∈a,P v):∀v∈a.take n,P v:=fun v hv=>ha v (List.mem_of_mem_take hv)
theorem yp (l:Array UInt8):(⟨l⟩:ByteArray).size=l.size:=rfl
end
namespace M
theorem Fp {d:Int}:3<=eB d/\eB d<=81:=by
 unfold eB
 repeat' split
 all_goals omega
theorem Ej {d:Int} (h1:1<=d) (h3:d<=3):3 * eB (d-1)=eB d/\eB (d-2)<=eB (d-1):=by
 have:d=1\/d=2\/d=3:=by omega
 rcases this with rfl | rfl | rfl<;>decide
theorem JF {d:Int} (h3:d<=3):1<=d->3 * eB (wrap64 (d-(1:Int)))<=eB d:=fun h1=>by
 rw[aI (by omega) (by omega),(Ej h1 h3).1]
 exact Nat.le_refl _
theorem JE {d:Int} (h3:d<=3):1<=d->3 * eB (wrap64 (d-(2:Int)))<=eB d:=fun h1=>by
 rw[aI (by omega) (by omega),<-(Ej h1 h3).1]
 exact Nat.mul_le_mul_left 3 (Ej h1 h3).2
theorem bytes_of_fine {x:List Int} (h:wz (.sl (.int .u8)) x):aq x:=fun n hn=>by
 have:=h.2 n hn
 unfold wz Lit.wf at this
 simp only[Bool.and_eq_true,decide_eq_true_eq] at this
 exact this
theorem vW {b:List Int} (h:aq b) (i:Int):0<=nth (t:=.int .u8) b i/\nth (t:=.int .u8) b i<=255:=by
 unfold nth
 rw[List.getD_eq_getElem?_getD]
 cases he:b[i.toNat]? with
 | none=>exact⟨Int.le_refl _,by decide⟩
 | some x=>exact h x (List.mem_of_getElem? he)
theorem lK {t:Ty} (ht:t.bare=true) {xs:List t.D} {n:Nat} (h:xs.length<=n) (hn:n<=1048576):Sm (.sl t) xs:=⟨Nat.le_trans h hn,fun x _=>xY ht x⟩
theorem Cp {vs:List af.D} {n:Nat} (h:vs.length<=n) (hv:∀v∈vs,v.2.2.1.size<=20) (hn:n<=1048576):Sm (.sl af) vs:=⟨Nat.le_trans h hn,fun v hm=>⟨trivial,trivial,Nat.le_trans (hv v hm) (by decide),trivial⟩⟩
theorem Dr {vs:List aE.D} {n:Nat} (h:vs.length<=n) (hv:∀v∈vs,v.2.2.1.2.2.1.size<=20) (hn:n<=1048576):Sm (.sl aE) vs:=⟨Nat.le_trans h hn,fun v hm=>⟨trivial,trivial,⟨trivial,trivial,Nat.le_trans (hv v hm) (by decide),trivial⟩,trivial⟩⟩
def ug (w:List af.D):Prop:=w.length<=9/\∀v∈w,v.2.2.1.size<=20
def iA (t:ax.D):Prop:=t.1.length<=6/\t.2.1.length<=7/\∀w∈t.2.1,ug w
def eS (s:ah.D):Prop:=s.2.2.2.2.1.length<=81/\(∀v∈s.2.2.2.2.1,v.2.2.1.2.2.1.size<=20)/\s.2.2.2.2.2.1.length<=3
def gdD (g:kY.D):Prop:=g.2.1.length<=81/\∀v∈g.2.1,v.2.2.1.2.2.1.size<=20
def xP (t:ax.D):Prop:=t.1.length<=4/\t.2.1.length<=6/\∀w∈t.2.1,w.length<=4
theorem II {w:List af.D} (h:w.length<=9) (h2:∀v∈w,v.2.2.1.size<=20):ug w:=⟨h,h2⟩
theorem Iv {c:List ag.D} {r:List (List af.D)} (h:c.length<=6) (h2:r.length<=7) (h3:∀w∈r,ug w):iA (c,r,()):=⟨h,h2,h3⟩
theorem GU {k a b n:Int} {e:List aE.D} {l:List Int} (h:e.length<=81) (h2:∀v∈e,v.2.2.1.2.2.1.size<=20) (h3:l.length<=3):eS (k,a,b,n,e,l,()):=⟨h,h2,h3⟩
theorem FW {n:Int} {e:List aE.D} (h:e.length<=81) (h2:∀v∈e,v.2.2.1.2.2.1.size<=20):gdD (n,e,()):=⟨h,h2⟩
theorem nk {t:Ty} {P:t.D->Prop} {xs:List t.D} (h:∀x∈xs,P x) (hz:P t.zero) (i:Int):P (nth (t:=t) xs i):=by
 unfold nth
 rw[List.getD_eq_getElem?_getD]
 cases he:xs[i.toNat]? with
 | none=>exact hz
 | some x=>exact h x (List.mem_of_getElem? he)
theorem zE {xs:List (List af.D)} (h:∀w∈xs,ug w) (i:Int):ug (nth (t:=.sl af) xs i):=nk (t:=.sl af) (P:=ug) h ⟨Nat.zero_le _,fun _ h=>by cases h⟩ i
theorem Jg {w:List af.D} (h:ug w):Sm (.sl af) w:=Cp h.1 h.2 (by decide)
theorem pZ {xs:List kY.D} (h:∀w∈xs,gdD w) (i:Int):gdD (nth (t:=kY) xs i):=nk (t:=kY) (P:=gdD) h ⟨Nat.zero_le _,fun _ h=>by cases h⟩ i
theorem lW {xs:List (List ag.D)} (h:∀c∈xs,c.length<=6) (i:Int):(nth (t:=.sl ag) xs i:List ag.D).length<=6:=nk (t:=.sl ag) (P:=fun c:List ag.D=>c.length<=6) h (Nat.zero_le _) i
theorem uu {xs:List ax.D} (h:∀w∈xs,iA w) (i:Int):iA (nth (t:=ax) xs i):=nk (t:=ax) (P:=iA) h ⟨Nat.zero_le _,Nat.zero_le _,fun _ h=>by cases h⟩ i
theorem zL {xs:List ax.D} (h:∀w∈xs,xP w) (i:Int):xP (nth (t:=ax) xs i):=nk (t:=ax) (P:=xP) h ⟨Nat.zero_le _,Nat.zero_le _,fun _ h=>by cases h⟩ i
theorem Gv {xs:List ax.D} {i:Int} {k:Nat} {w:List (List af.D)} (h:∀t∈xs,iA t) (he:∀t∈xs,xP t) (hw:∀r∈w,ug r) (hl:w.length<=1) :
  ∀t∈((xs.set k ((nth (t:=ax) xs i).1,([],()))).set k ((nth (t:=ax) (xs.set k ((nth (t:=ax) xs i).1,([],()))) i).1,((((nth (t:=ax) xs i).2).1++w),()))),iA t:=by
 have h1:=uu h i
 have h2:=zL he i
 have h3:∀t∈xs.set k ((nth (t:=ax) xs i).1,([],())),iA t:=pO h ⟨h1.1,Nat.zero_le _,fun _ h=>by cases h⟩
 refine pO h3 ⟨(uu h3 i).1,?_,FF h1.2.2 hw⟩
 have:=h2.2.1
 show (((nth (t:=ax) xs i).2).1++w).length<=7
 rw[List.length_append]
 omega
theorem Gu {xs:List ax.D} {i:Int} {k:Nat} {w:List ag.D} (h:∀t∈xs,iA t) (he:∀t∈xs,xP t) (hl:w.length<=1) :
  ∀t∈((xs.set k ([],(nth (t:=ax) xs i).2)).set k (((nth (t:=ax) xs i).1++w),(nth (t:=ax) (xs.set k ([],(nth (t:=ax) xs i).2)) i).2)),iA t:=by
 have h1:=uu h i
 have h2:=zL he i
 have h3:∀t∈xs.set k ([],(nth (t:=ax) xs i).2),iA t:=pO h ⟨Nat.zero_le _,h1.2⟩
 refine pO h3 ⟨?_,(uu h3 i).2⟩
 have:=h2.1
 show ((nth (t:=ax) xs i).1++w).length<=6
 rw[List.length_append]
 omega
theorem Bq {xs:List ah.D} (h:∀w∈xs,eS w) (i:Int):eS (nth (t:=ah) xs i):=nk (t:=ah) (P:=eS) h ⟨Nat.zero_le _,(fun _ h=>by cases h),Nat.zero_le _⟩ i
theorem JO {xs:List ah.D} {k:Nat} {i v:Int} (h:∀w∈xs,eS w):∀w∈(xs.set k ((nth (t:=ah) xs i).1,(v,((nth (t:=ah) xs i).2).2))),eS w:=pO h (Bq h i)
theorem JD {xs:List ah.D} {k:Nat} {i v:Int} (h:∀w∈xs,eS w):∀w∈(xs.set k (v,(nth (t:=ah) xs i).2)),eS w:=pO h (Bq h i)
theorem Fo {α:Type} (xs:List α) (c:Option (Int×Int)):(ay xs c).length<=xs.length:=by
 cases c with
 | none=>exact Nat.le_refl _
 | some p=>
  unfold ay
  simp only[List.length_drop,List.length_take]
  omega
theorem Js {α:Type} {xs:List α} {k:Int} (h:k<=2):(ay xs (some ((0:Int),k))).length<=2:=by
 unfold ay
 simp only[List.length_drop,List.length_take]
 omega
theorem Iw {α:Type} {P:α->Prop} {xs:List α} (h:∀x∈xs,P x) (c:Option (Int×Int)):∀x∈ay xs c,P x:=by
 intro x hx
 cases c with
 | none=>exact h x hx
 | some p=>exact h x (List.mem_of_mem_drop (List.mem_of_mem_take hx))
theorem IC {ts:List ax.D} (h:Sm (.sl ax) ts) (i:Int):Sm (.sl ag) (nth (t:=ax) ts i).1:=nk (t:=ax) (P:=fun t:ax.D=>Sm (.sl ag) t.1) (fun t hm=>(h.2 t hm).1) (jN _) i
theorem Cg {xs:List (List ag.D)} {n:Nat} (h:xs.length<=n) (hc:∀c∈xs,c.length<=6) (hn:n<=1048576):Sm (.sl (.sl ag)) xs:=⟨Nat.le_trans h hn,fun c hm=>lK rfl (hc c hm) (by decide)⟩
theorem qQ {xs:List ah.D} {n:Nat} (h:xs.length<=n) (hs:∀s∈xs,eS s) (hn:n<=1048576):Sm (.sl ah) xs:=
 ⟨Nat.le_trans h hn,fun s hm=>⟨trivial,trivial,trivial,trivial,Dr (hs s hm).1 (hs s hm).2.1 (by decide),lK (t:=.int .i64) rfl (hs s hm).2.2 (by decide),trivial⟩⟩
theorem Fu {xs:List ax.D} {n:Nat} (h:xs.length<=n) (hs:∀s∈xs,iA s) (hn:n<=1048576):Sm (.sl ax) xs:=
 ⟨Nat.le_trans h hn,fun s hm=>⟨lK rfl (hs s hm).1 (by decide),⟨Nat.le_trans (hs s hm).2.1 (by decide),fun w hw=>Cp ((hs s hm).2.2 w hw).1 ((hs s hm).2.2 w hw).2 (by decide)⟩,trivial⟩⟩
theorem FL {xs:List kY.D} {n:Nat} (h:xs.length<=n) (hs:∀s∈xs,gdD s) (hn:n<=1048576):Sm (.sl kY) xs:=
 ⟨Nat.le_trans h hn,fun s hm=>⟨trivial,Dr (hs s hm).1 (hs s hm).2 (by decide),trivial⟩⟩
theorem jl1 {r:List (List ag.D)} (h:∀c∈r,c.length<=6) {i:Int}:(([]:List ag.D).length+(nth (t:=.sl ag) r i:List ag.D).length) * 16<=lim:=by
 have:=lW h i
 simp only[List.length_nil,lim]
 omega
theorem jl2 {r:List (List ag.D)} (h:∀c∈r,c.length<=6) {i j:Int}:(([]++(nth (t:=.sl ag) r i:List ag.D)).length+(nth (t:=.sl ag) r j:List ag.D).length) * 16<=lim:=by
 have:=lW h i
 have:=lW h j
 simp only[List.nil_append,lim]
 omega
theorem jl3 {r:List (List ag.D)} (h:∀c∈r,c.length<=6) {i j:Int}:Sm (.sl ag) (([]++(nth (t:=.sl ag) r i:List ag.D))++(nth (t:=.sl ag) r j:List ag.D)):=by
 have:=lW h i
 have:=lW h j
 exact lK (n:=12) rfl (by simp only[List.nil_append,List.length_append];omega) (by decide)
theorem rQ {a n:Int} (ha:0<=a) (hn:1<=n):0<=a.tmod n/\a.tmod n<n:=by
 rw[Int.tmod_eq_emod_of_nonneg ha]
 exact⟨Int.emod_nonneg _ (by omega),Int.emod_lt_of_pos _ (by omega)⟩
theorem Fm {a n:Int} (ha:0<=a) (hn:1<=n):0<=a.tdiv n/\a.tdiv n<=a:=by
 rw[Int.tdiv_eq_ediv_of_nonneg ha]
 exact⟨Int.ediv_nonneg ha (by omega),Int.ediv_le_self _ ha⟩
theorem FX {u n:Int} (hu:0<=u/\u<=255) (hn:1<=n):0<=(wrap64 u).tmod n/\(wrap64 u).tmod n<n:=by
 rw[aI (n:=u) (by omega) (by omega)]
 exact rQ hu.1 hn
theorem Hh {u v p q n:Int} (hu:0<=u/\u<=255) (hv:0<=v/\v<=255) (p0:0<=p) (p1:p<=1000000000000000) (hq:0<=q/\q<=p) (hn:1<=n) :
  0<=(nj .xor .i64 (wrap64 (wrap64 (wrap64 (wrap64 ((wrap64 u) * (131:Int))+wrap64 ((wrap64 v) * (1117:Int)))+wrap64 (p * (29:Int)))+wrap64 ((wrap64 q) * (53:Int)))) (wrap64 ((wrap64 (wrap64 (wrap64 (wrap64 ((wrap64 u) * (131:Int))+wrap64 ((wrap64 v) * (1117:Int)))+wrap64 (p * (29:Int)))+wrap64 ((wrap64 q) * (53:Int)))).tdiv (64:Int)))).tmod n ∧
  (nj .xor .i64 (wrap64 (wrap64 (wrap64 (wrap64 ((wrap64 u) * (131:Int))+wrap64 ((wrap64 v) * (1117:Int)))+wrap64 (p * (29:Int)))+wrap64 ((wrap64 q) * (53:Int)))) (wrap64 ((wrap64 (wrap64 (wrap64 (wrap64 ((wrap64 u) * (131:Int))+wrap64 ((wrap64 v) * (1117:Int)))+wrap64 (p * (29:Int)))+wrap64 ((wrap64 q) * (53:Int)))).tdiv (64:Int)))).tmod n<n:=by
 have e:wrap64 (wrap64 (wrap64 (wrap64 ((wrap64 u) * (131:Int))+wrap64 ((wrap64 v) * (1117:Int)))+wrap64 (p * (29:Int)))+wrap64 ((wrap64 q) * (53:Int)))=u * 131+v * 1117+p * 29+q * 53:=by
  rw[aI (n:=u) (by omega) (by omega),aI (n:=v) (by omega) (by omega),aI (n:=q) (by omega) (by omega),aI (n:=u * 131) (by omega) (by omega),aI (n:=v * 1117) (by omega) (by omega),aI (n:=p * 29) (by omega) (by omega),aI (n:=q * 53) (by omega) (by omega),aI (n:=u * 131+v * 1117) (by omega) (by omega),aI (n:=u * 131+v * 1117+p * 29) (by omega) (by omega),aI (by omega) (by omega)]
 rw[e]
 generalize hA:u * 131+v * 1117+p * 29+q * 53=A
 have a0:0<=A:=by omega
 have a1:A<9223372036854775808:=by omega
 obtain⟨d0,d1⟩:=Fm (n:=64) a0 (by decide)
 rw[aI (n:=A.tdiv 64) (by omega) (by omega)]
 exact rQ (EF a0 a1 d0 (by omega)) hn
theorem HZ {xs:List ByteArray} {k:Nat} (h:xs.all (fun s=>decide (s.size<=k))=true) (i:Int):(nth (t:=Ty.str) xs i:ByteArray).size<=k:=by
 unfold nth
 rw[List.getD_eq_getElem?_getD]
 cases he:xs[i.toNat]? with
 | none=>exact Nat.zero_le _
 | some x=>exact of_decide_eq_true (List.all_eq_true.1 h x (List.mem_of_getElem? he))
theorem Gi {b:List Int} (h:aq b) (c:Option (Int×Int)):aq (ay b c):=by
 intro x hx
 cases c with
 | none=>exact h x hx
 | some p=>exact h x (List.mem_of_mem_drop (List.mem_of_mem_take hx))
end M
theorem M.JI {x n:Int} (h0:0<=x) (h1:1<=n) (h2:n<=6):0<=wrap64 ((1:Int)+x.tmod n)/\wrap64 ((1:Int)+x.tmod n)<=n:=by
 have:=M.rQ h0 h1
 rw[aI (by omega) (by omega)]
 omega
theorem M.JS {x n:Int} (h0:0<=x) (h2:x<2) (h1:1<=n):wrap64 ((1:Int)+x.tmod n)<=2:=by
 have:=M.rQ h0 h1
 have h3:x.tmod n<=x:=by
  rw[Int.tmod_eq_emod_of_nonneg h0]
  have:=Int.emod_add_mul_ediv x n
  have q:=Int.mul_nonneg (show 0<=n by omega) (Int.ediv_nonneg h0 (show 0<=n by omega))
  omega
 rw[aI (by omega) (by omega)]
 omega
theorem M.Jv {x n:Int} (h0:0<=x) (h1:x<5) (n1:1<=n) (n6:n<=6):-1<=wrap64 (wrap64 (n-(1:Int))-(wrap64 (x.tdiv (4:Int))))/\wrap64 (wrap64 (n-(1:Int))-(wrap64 (x.tdiv (4:Int))))<=n-1:=by
 have:0<=x.tdiv 4/\x.tdiv 4<=1:=by
  rw[Int.tdiv_eq_ediv_of_nonneg h0]
  omega
 rw[aI (n:=x.tdiv 4) (by omega) (by omega),aI (n:=n-1) (by omega) (by omega),aI (by omega) (by omega)]
 omega
theorem cl {p:Prop} (h:p:=by ((try dsimp only);(repeat' (first | assumption | exact all_nil | refine all_cons ?_ ?_ | refine FF ?_ ?_ | refine pO ?_ ?_ | refine GK ?_ | refine M.Iw ?_ _ | refine M.II ?_ ?_ | refine M.Iv ?_ ?_ ?_ | refine M.GU ?_ ?_ ?_ | refine M.FW ?_ ?_ | exact M.zE (by assumption) _ | exact M.pZ (by assumption) _ | exact(M.pZ (by assumption) _).1 | exact(M.pZ (by assumption) _).2 | exact Nat.le_trans (M.Fo _ _) (by omega) | exact Nat.le_trans (M.Fo _ _) (M.pZ (by assumption) _).1 | decide | omega | (dsimp only;first | assumption | omega | decide)));done)):p:=h
theorem au {p:Prop} (h:p:=by first | assumption | omega | decide | trivial | (dsimp only;first | assumption | omega | decide) | (simp only[zG,yp,sC,List.size_toArray,List.length_cons,List.length_nil,List.length_append,List.length_take,List.length_set,List.length_replicate];omega) | (simp only[zG,yp,sC,List.size_toArray,List.length_cons,List.length_nil,List.length_append,List.length_take,List.length_set,List.length_replicate,lim];omega) | (simp only[zG,yp,sC,List.size_toArray,List.length_cons,List.length_nil,List.length_append,List.length_take,List.length_set,List.length_replicate,lim,wrap64];omega) | exact M.lK rfl (by assumption) (by decide) | exact M.Cp (by assumption) (by assumption) (by decide) | exact M.Gi (by assumption) _ | exact EM (by assumption) _ | exact jN _ | exact Nat.le_trans (M.HZ (k:=2) rfl _) (by decide) | exact(M.JI (by assumption) (by omega) (by omega)).1 | exact(M.JI (by assumption) (by omega) (by omega)).2 | exact EM (M.lK rfl (by assumption) (by decide)) _ | exact fun _=>rfl | (intro _;omega) | exact M.Jg (M.zE (by assumption) _) | exact M.IC (by assumption) _ | exact M.jl1 (by assumption) | exact M.jl2 (by assumption) | exact M.jl3 (by assumption) | exact M.lK rfl (M.lW (by assumption) _) (by decide) | exact M.Cg (by assumption) (by assumption) (by decide) | exact M.Fu (by assumption) (by assumption) (by decide) | exact M.FL (by assumption) (by assumption) (by decide) | exact M.qQ (n:=1000) (by first | omega | (simp only[List.length_append,List.length_cons,List.length_nil];omega)) (by exact cl) (by decide) | exact cl):p:=h
section
variable {α β σ ρ τ ε:Type} {K:α->Prop}
theorem okG {p:Prop} {x:Option α} (k:ok x K) (h:p:=by exact au):ok (aa p x) K:=by rw[ai h];exact k
theorem okL {γ:Type} {x:γ} {f:γ->Option α} (k:∀r,r=x->ok (f r) K):ok (aJ x f) K:=k x rfl
theorem okC {b:Bool} {x y:Option α} (h1:b=true->ok x K) (h2:b=false->ok y K):ok (cond b x y) K:=by
 cases b
 ·exact h2 rfl
 ·exact h1 rfl
theorem okD {p:Prop} [Decidable p] {x y:Option α} (h1:p->ok x K) (h2:¬p->ok y K):ok (cond (decide p) x y) K:=okC (fun h=>h1 (of_decide_eq_true h)) (fun h=>h2 (of_decide_eq_false h))
theorem FO {p:Prop} [Decidable p] {x y:Option α} (h1:p->ok x K) (h2:¬p->ok y K):ok (cond (decide p==true) x y) K:=okC (fun h=>h1 (by simpa using h)) (fun h=>h2 (by simpa using h))
theorem JG {p:Prop} [Decidable p] {x y:Option α} (h1:¬p->ok x K) (h2:p->ok y K):ok (cond (decide p==false) x y) K:=okC (fun h=>h1 (by simpa using h)) (fun h=>h2 (by simpa using h))
theorem okS {x:α} (h:K x):ok (some x) K:=h
theorem rZ {x:α} {P Q R:α->Prop} (h0:P x:=by exact au) (h1:Q x:=by exact au) (h2:R x:=by exact au):ok (some x) (fun r=>P r/\Q r/\R r):=⟨h0,h1,h2⟩
theorem JP {x:α} {P Q R S:α->Prop} (h0:P x:=by exact au) (h1:Q x:=by exact au) (h2:R x:=by exact au) (h3:S x:=by exact au):ok (some x) (fun r=>P r/\Q r/\R r/\S r):=⟨h0,h1,h2,h3⟩
theorem qv {x:α} {P Q R S T:α->Prop} (h0:P x:=by exact au) (h1:Q x:=by exact au) (h2:R x:=by exact au) (h3:S x:=by exact au) (h4:T x:=by exact au):ok (some x) (fun r=>P r/\Q r/\R r/\S r/\T r):=⟨h0,h1,h2,h3,h4⟩
theorem BS {x:α} {P Q R S T U V:α->Prop} (h0:P x:=by exact au) (h1:Q x:=by exact au) (h2:R x:=by exact au) (h3:S x:=by exact au) (h4:T x:=by exact au) (h5:U x:=by exact au) (h6:V x:=by exact au):ok (some x) (fun r=>P r/\Q r/\R r/\S r/\T r/\U r/\V r):=⟨h0,h1,h2,h3,h4,h5,h6⟩
theorem fK {f:σ->Prop} {g:ρ->Prop} {s:σ} (h:f s):ok (some (.inl s:Sum σ ρ)) (bg f g):=h
theorem dD {f:σ->Prop} {g:ρ->Prop} {r:ρ} (h:g r):ok (some (.inr r:Sum σ ρ)) (bg f g):=h
theorem Em {f:σ->Prop} {A:ε->Prop} {B:ρ->Prop} {r:ε} (h:A r):ok (some (.inr (.inl r):Sum σ (Sum ε ρ))) (bg f (bg A B)):=h
theorem Hu {f:σ->Prop} {A:ε->Prop} {B:ρ->Prop} {r:ρ} (h:B r):ok (some (.inr (.inr r):Sum σ (Sum ε ρ))) (bg f (bg A B)):=h
theorem okT {o:Option (Sum σ ρ)} {f:σ->Option α} {g:ρ->Option α} {A:σ->Prop} {B:ρ->Prop} (h:ok o (bg A B)) (ha:∀s,A s->ok (f s) K) (hb:∀r,B r->ok (g r) K):ok (bw o f g) K:=by
 cases o with
 | none=>exact h.elim
 | some z=>
  cases z with
  | inl s=>exact ha s h
  | inr r=>exact hb r h
theorem okB {γ:Type} {o:Option γ} {f:γ->Option α} {A:γ->Prop} (h:ok o A) (ha:∀x,A x->ok (f x) K):ok (Option.bind o f) K:=by
 cases o with
 | none=>exact h.elim
 | some z=>exact ha z h
theorem okW {f:σ->Option (Sum σ ρ)} {R:ρ->Prop} (I:Nat->σ->Prop) (h:∀n s,I n s->ok (f s) (bg (fun s'=>∃m,m<n/\I m s') R)):∀(n:Nat) (s:σ),I n s->ok (cr f s) R:=by
 intro n
 induction n using Nat.strongRecOn with
 | ind n ih=>
  intro s hs
  rw[dQ]
  refine okT (h n s hs) (fun s' ⟨m,hm,hi⟩=>ih m hm s' hi) (fun r hr=>okS hr)
theorem okE {f:α->σ->Option (Sum σ ρ)} {R:ρ->Prop} (I:Nat->σ->Prop):∀(xs:List α) (n:Nat) (s:σ),I n s->(∀x∈xs,∀(k:Nat) (s:σ),n<=k->k<n+xs.length->I k s->ok (f x s) (bg (I (k+1)) R))->ok (aM f xs s) (bg (I (n+xs.length)) R)
 | [],n,s,hs,_=>hs
 | x::xs,n,s,hs,h=>by
  show ok (bw (f x s) _ _) _
  refine okT (h x List.mem_cons_self n s (Nat.le_refl _) (by simp) hs) (fun s' hs'=>?_) (fun r hr=>okS hr)
  have:=okE I xs (n+1) s' hs' (fun y hy k s hk hl hi=>h y (List.mem_cons_of_mem _ hy) k s (by omega) (by simp;omega) hi)
  rw[List.length_cons,show n+(xs.length+1)=n+1+xs.length by omega]
  exact this
theorem ig {o:Option α} {d:α} (h:ok o K):o=some (o.getD d):=by
 cases o with
 | none=>exact h.elim
 | some x=>rfl
theorem iq {o:Option α} {d:α} (h:ok o K):K (o.getD d):=by
 cases o with
 | none=>exact h.elim
 | some x=>exact h
theorem Jm {f:α->σ->Option (Sum σ ρ)} {R:ρ->Prop} (I:Nat->σ->Prop) {xs:List α} {s:σ} (h0:I 0 s) (h:∀x∈xs,∀(k:Nat) (s:σ),k<xs.length->I k s->ok (f x s) (bg (I (k+1)) R)):ok (aM f xs s) (bg (I xs.length) R):=by
 have:=okE (R:=R) I xs 0 s h0 (fun x hx k s _ hk hi=>h x hx k s (by omega) hi)
 rw[Nat.zero_add] at this
 exact this
end
end Go.AE
end
section
namespace Go.AE
open Go Go.RowKit
set_option linter.unusedVariables false
namespace M
theorem Cd {tables:List ax.D} {ahead:List (List ag.D)} {s:ah.D} {c:List ag.D} (ht:∀t∈tables,iA t) (ha:∀x∈ahead,x.length<=6) (h:bZ tables ahead s=some c):c.length<=6:=by
 have hn:=fun i=>lW ha i
 unfold bZ at h
 obtain⟨_,h⟩:=aS h
 cases h1:decide (s.1=(1:Int)) with
 | true=>
  rw[h1,cond_true] at h
  obtain⟨_,h⟩:=aS h
  cases h
  exact(nk (t:=ax) (P:=iA) ht ⟨Nat.zero_le _,Nat.zero_le _,fun _ h=>by cases h⟩ _).1
 | false=>
  rw[h1,cond_false] at h
  obtain⟨_,h⟩:=aS h
  cases h2:decide (s.1=(2:Int)) with
  | true=>
   rw[h2,cond_true] at h
   obtain⟨_,h⟩:=aS h
   cases h
   exact hn _
  | false=>
   rw[h2,cond_false] at h
   cases h3:decide (s.1=(3:Int)) with
   | true=>
    rw[h3,cond_true] at h
    obtain⟨hb,h⟩:=aS h
    cases h
    have:=of_decide_eq_true (Bool.and_eq_true_iff.1 hb).2
    rw[List.length_map]
    omega
   | false=>
    rw[h3,cond_false] at h
    cases h4:decide (s.1=(4:Int)) with
    | true=>
     rw[h4,cond_true] at h
     obtain⟨hb,h⟩:=aS h
     cases h
     have:=of_decide_eq_true (Bool.and_eq_true_iff.1 hb).1
     omega
    | false=>
     rw[h4,cond_false] at h
     cases h5:decide (s.1=(5:Int)) with
     | true=>
      rw[h5,cond_true] at h
      unfold both at h
      obtain⟨_,h⟩:=aS h
      rw[kF h]
      exact hn _
     | false=>
      rw[h5,cond_false] at h
      obtain⟨_,h⟩:=aS h
      cases h
      exact hn _
theorem Bj {tables:List ax.D} (ht:∀t∈tables,iA t):∀(xs:List ah.D) (st st':fk),(∀x∈st.1,x.length<=6)->dr (bQ tables) xs st=some st'->∀x∈st'.1,x.length<=6
 | [],st,st',ha,h=>by cases h;exact ha
 | x::xs,st,st',ha,h=>by
  unfold dr at h
  cases hp:bQ tables st x with
  | none=>rw[hp] at h;cases h
  | some st1=>
   rw[hp] at h
   obtain⟨c,hc,_,rfl⟩:=iC hp
   refine Bj ht xs _ st' (fun y hy=>?_) h
   rcases List.mem_append.1 hy with hy | hy
   ·exact ha y hy
   ·rw[List.mem_singleton.1 hy]
    exact Cd ht ha hc
theorem wQ {tables:List ax.D}:∀(xs:List ah.D) (st st':fk),dr (bQ tables) xs st=some st'->st'.1.length=st.1.length+xs.length
 | [],st,st',h=>by cases h;exact(Nat.add_zero _).symm
 | x::xs,st,st',h=>by
  unfold dr at h
  cases hp:bQ tables st x with
  | none=>rw[hp] at h;cases h
  | some st1=>
   rw[hp] at h
   obtain⟨c,_,_,rfl⟩:=iC hp
   rw[wQ xs _ st' h]
   simp
   omega
theorem Dh {tables:List ax.D} {plan:List ah.D} {r:List (List ag.D)×Bool} (e:r=cY tables plan) (h:(!r.2)=false):r.1.length=plan.length:=by
 subst e
 unfold cY jt at *
 cases hr:dr (bQ tables) plan ([],[]) with
 | none=>rw[hr] at h;cases h
 | some st=>
  have:=wQ plan _ st hr
  simpa using this
theorem BD {tables:List ax.D} {plan:List ah.D} {r:List (List ag.D)×Bool} (ht:∀t∈tables,iA t) (e:r=cY tables plan):∀c∈r.1,c.length<=6:=by
 subst e
 unfold cY jt
 cases hr:dr (bQ tables) plan ([],[]) with
 | none=>intro c h;cases h
 | some st=>exact Bj ht plan ([],[]) st (fun _ h=>by cases h) hr
end M
end Go.AE
end
