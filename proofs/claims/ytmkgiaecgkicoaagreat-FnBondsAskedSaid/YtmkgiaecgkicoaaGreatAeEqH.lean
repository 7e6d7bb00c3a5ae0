/- Loops over the parts of an expression. -/
import Derived.Test.YtmkgiaecgkicoaaGreatAeF
import Derived.Test.YtmkgiaecgkicoaaGreatAeMM
namespace Go.AE
open Go Go.RowKit
set_option linter.unusedSimpArgs false
set_option linter.unusedVariables false
theorem CJ (p:aE.D):M.takes p=0\/M.takes p=1\/M.takes p=2:=by
 unfold M.takes
 generalize (decide (p.1=(3:Int))||decide (p.1=(4:Int))||decide (p.1=(5:Int))||decide (p.1=(6:Int)))=a
 generalize (decide (p.1=(7:Int))||decide (p.1=(8:Int)))=b
 cases a<;>cases b<;>simp
theorem uP (p:aE.D):0<=M.takes p/\M.takes p<=2:=by rcases CJ p with h | h | h<;>omega
theorem fN {p:aE.D} (h:p.1=(3:Int)\/p.1=(4:Int)\/p.1=(5:Int)\/p.1=(6:Int)):M.takes p=2:=by
 unfold M.takes
 rcases h with h | h | h | h<;>simp[h]
theorem lS {p:aE.D} (h:p.1=(7:Int)\/p.1=(8:Int)):M.takes p=1:=by
 unfold M.takes
 rcases h with h | h<;>simp[h]
theorem oO {p:aE.D} (h:p.1=(1:Int)\/p.1=(2:Int)):M.takes p=0:=by
 unfold M.takes
 rcases h with h | h<;>simp[h]
theorem xO {α:Type} (xs:List α) {k:Int} (h0:0<=k) (h1:k<=(xs.length:Int)):aD xs (some (k,(xs.length:Int)))=xs.drop k.toNat:=by
 unfold aD
 apply List.take_of_length_le
 rw[List.length_drop]
 omega
theorem Cx {n:Nat} {k:Int} (hn:n<=1048576) (h0:0<=k) (h2:k<=2):wrap64 ((n:Int)-k)=(n:Int)-k:=aQ (by omega) (by omega)
theorem oh {t:Ty} {st:List t.D} (h:2<=st.length):st.drop (st.length-2)=[nth (t:=t) st ((st.length:Int)-2),nth (t:=t) st ((st.length:Int)-1)]:=by
 have e1:((st.length:Int)-2).toNat=st.length-2:=by omega
 have e2:((st.length:Int)-1).toNat=st.length-1:=by omega
 rw[List.drop_eq_getElem_cons (by omega),show st.length-2+1=st.length-1 by omega,List.drop_eq_getElem_cons (by omega),List.drop_eq_nil_of_le (by omega)]
 rw[vo (by omega) (by omega),vo (by omega) (by omega)]
 simp only[e1,e2]
theorem uN {t:Ty} {st:List t.D} (h:1<=st.length):st.drop (st.length-1)=[nth (t:=t) st ((st.length:Int)-1)]:=by
 have e2:((st.length:Int)-1).toNat=st.length-1:=by omega
 rw[List.drop_eq_getElem_cons (by omega),List.drop_eq_nil_of_le (by omega)]
 rw[vo (by omega) (by omega)]
 simp only[e2]
theorem GD {t:Ty} {st:List t.D} (h:1<=st.length):st.take (st.length-1)++[nth (t:=t) st ((st.length:Int)-1)]=st:=by
 rw[<-uN h,List.take_append_drop]
theorem Em {k:Int} (h1:¬k=3) (h2:¬k=4) (h3:¬k=5) (h4:¬k=6) (h5:¬k=7) (h6:¬k=8):M.inR k 3 8=false:=by
 unfold M.inR
 simp
 omega
theorem uq {columns:List ax.D} {st st':List Int} {p:aE.D} (h:M.fH columns st p=some st'):st'.length<=st.length+1:=by
 unfold M.fH at h
 cases hc:(M.lE p columns&&(decide (M.takes p<=(st.length:Int))&&(M.cN p columns (st.drop (st.length-(M.takes p).toNat))).2)) with
 | false=>rw[hc] at h;cases h
 | true=>
  rw[hc] at h
  simp only[cond_true,Option.some.injEq] at h
  subst h
  simp
theorem yS {columns:List ax.D} {e:List aE.D} {p:aE.D} {st:List Int} (hst:st.length<=1000) :
  F.dZ columns e p st=some (match M.fH columns st p with | some s=>.inl s | none=>.inr ()):=by
 obtain⟨t0,t2⟩:=uP p
 unfold F.dZ M.fH
 cases ht:M.lE p columns with
 | false=>rfl
 | true=>
 by_cases hl:M.takes p<=(st.length:Int)
 ·have h2:¬(st.length:Int)<M.takes p:=by omega
  have hw:=Cx (n:=st.length) (k:=M.takes p) (by omega) t0 t2
  have hc:=xO st (k:=(st.length:Int)-M.takes p) (by omega) (by omega)
  have hn:((st.length:Int)-M.takes p).toNat=st.length-(M.takes p).toNat:=by omega
  rw[hn] at hc
  rw[hw,hc]
  simp only[Bool.not_true,Bool.true_and,h2,hl,decide_false,decide_true,cond_true,cond_false]
  rw[show ((false:Bool)==false)=true from rfl]
  simp only[cond_true]
  have hsm:Sm (.sl (.int .i64)) (st.drop (st.length-(M.takes p).toNat)):=⟨by rw[List.length_drop];omega,fun _ _=>trivial⟩
  rw[aq (p:=Sm (.sl (.int .i64)) (st.drop (st.length-(M.takes p).toNat))) hsm]
  repeat rw[aq (by first | omega | (rw[List.length_drop];omega))]
  simp only[cq]
  cases (M.cN p columns (st.drop (st.length-(M.takes p).toNat))).2 with
  | false=>rfl
  | true=>
   simp only[Bool.not_true,cond_false]
   repeat rw[aq (by first | omega | (unfold lim;simp;omega))]
   rw[hn]
   rfl
 ·have h2:(st.length:Int)<M.takes p:=by omega
  simp[h2,hl]
theorem sq {columns:List ax.D} {E:List aE.D} {τ:Type} {A:List Int->Option τ} {B:Unit->Option τ}:∀(e:List aE.D) (st:List Int),st.length+e.length<=1000 →
  bF (aZ (F.dZ columns E) e st) A B=match M.jc columns e st with | some s=>A s | none=>B ()
 | [],st,_=>rfl
 | p::e,st,h=>by
  have h:st.length+(e.length+1)<=1000:=h
  rw[dQ,yS (by omega),M.jc]
  cases hk:M.fH columns st p with
  | none=>rfl
  | some s=>
   have:=uq hk
   exact sq e s (by omega)
theorem Cr:Sm aa M.zeroV:=⟨trivial,trivial,Nat.zero_le _,trivial⟩
theorem mJ (n:Int):Sm aa (M.valueOf n):=by
 unfold M.valueOf
 cases M.inR n 0 1
 ·exact Cr
 ·exact⟨trivial,trivial,Nat.zero_le _,trivial⟩
theorem II (a b:aa.D):Sm aa (M.sum a b):=by
 unfold M.sum
 generalize (decide (a.1=(0:Int))||decide (b.1=(0:Int))||!M.inR (wrap64 (a.2.1+b.2.1)) (-9999) 9999)=c
 cases c
 ·exact⟨trivial,trivial,Nat.zero_le _,trivial⟩
 ·exact Cr
theorem Bg {p:aE.D} {row l:List aa.D} (hp:Sm aE p) (hr:Sm (.sl aa) row):Sm aa (M.gO p row l):=by
 unfold M.gO
 refine pN hp.2.2.1 (pN (aJ hr _) (pN (II _ _) (pN (mJ _) (pN (mJ _) (pN (mJ _) (pN (mJ _) (mJ _)))))))
theorem BP {row:List aa.D} {st:List aa.D} {p:aE.D} (h:M.takes p<=(st.length:Int)):(M.eY row st p).length=st.length-(M.takes p).toNat+1:=by
 unfold M.eY
 simp
theorem Di {row:List aa.D} {st:List aa.D} {p:aE.D} (hp:Sm aE p) (hr:Sm (.sl aa) row) (hs:Sm (.sl aa) st) (hl:st.length<=1000):Sm (.sl aa) (M.eY row st p):=by
 unfold M.eY
 refine⟨by simp;omega,fun x hx=>?_⟩
 rcases List.mem_append.1 hx with hx | hx
 ·exact hs.2 x (List.mem_of_mem_take hx)
 ·rw[List.mem_singleton.1 hx]
  exact Bg hp hr
theorem yG {row:List aa.D} {f:aE.D->List aa.D->Option (Sum (List aa.D) Unit)} (hr:Sm (.sl aa) row)
  (hf:∀p st,Sm aE p->Sm (.sl aa) st->st.length<=1000->M.takes p<=(st.length:Int)->(1<=p.1/\p.1<=8)->M.mZ p row.length->f p st=some (.inl (M.eY row st p))) :
  ∀(e:List aE.D) (st:List aa.D),(∀p∈e,Sm aE p)->Sm (.sl aa) st->st.length+e.length<=1000->M.xx row.length e st.length →
   aZ f e st=some (.inl (e.foldl (M.eY row) st))/\0<(e.foldl (M.eY row) st).length
 | [],st,_,_,_,h=>⟨rfl,h⟩
 | p::e,st,he,hs,hl,h=>by
  obtain⟨h1,h2,h3,h4⟩:=h
  have hl:st.length+(e.length+1)<=1000:=hl
  have hlen:=BP (row:=row) h1
  have hp:=he p (List.mem_cons_self ..)
  rw[dQ,hf p st hp hs (by omega) h1 h2 h3,cD,List.foldl_cons]
  exact yG hr hf e _ (fun q hq=>he q (List.mem_cons_of_mem _ hq)) (Di hp hr hs (by omega)) (by omega) (by rw[hlen];exact h4)
theorem DK {k:Int} (h:1<=k/\k<=8):k=1\/k=2\/k=3\/k=4\/k=5\/k=6\/k=7\/k=8:=by omega
theorem yj {p:aE.D} {columns:List ax.D} (h:M.lE p columns=true):(1<=p.1/\p.1<=8)/\M.mZ p columns.length:=by
 unfold M.lE at h
 by_cases h1:p.1=(1:Int)
 ·exact⟨by rw[h1];decide,fun e=>by rw[h1] at e;cases e⟩
 by_cases h2:p.1=(2:Int)
 ·simp only[h2,show decide ((2:Int)=1)=false from rfl,cond_false,decide_true,cond_true,Bool.and_eq_true] at h
  refine⟨by rw[h2];decide,fun _=>?_⟩
  have:=h.1
  unfold M.inR at this
  simp only[Bool.and_eq_true,decide_eq_true_eq] at this
  exact⟨this.1,Int.lt_of_le_sub_one this.2⟩
 by_cases h4:p.1=(4:Int)
 ·exact⟨by rw[h4];decide,fun e=>by rw[h4] at e;cases e⟩
 simp only[h1,h2,h4,decide_false,cond_false] at h
 cases hr:M.inR p.1 3 8 with
 | false=>rw[hr] at h;cases h
 | true=>
  unfold M.inR at hr
  simp only[Bool.and_eq_true,decide_eq_true_eq] at hr
  refine⟨⟨Int.le_trans (by decide) hr.1,hr.2⟩,fun e=>absurd e h2⟩
theorem zK {columns:List ax.D} {st st':List Int} {p:aE.D} (h:M.fH columns st p=some st'):M.lE p columns=true/\M.takes p<=(st.length:Int)/\st'.length=st.length-(M.takes p).toNat+1:=by
 unfold M.fH at h
 cases hc:(M.lE p columns&&(decide (M.takes p<=(st.length:Int))&&(M.cN p columns (st.drop (st.length-(M.takes p).toNat))).2)) with
 | false=>rw[hc] at h;cases h
 | true=>
  rw[hc] at h
  simp only[cond_true,Option.some.injEq] at h
  simp only[Bool.and_eq_true,decide_eq_true_eq] at hc
  refine⟨hc.1,hc.2.1,?_⟩
  subst h
  simp
theorem yP {columns:List ax.D}:∀(e:List aE.D) (st st':List Int),M.jc columns e st=some st'->0<st'.length->M.xx columns.length e st.length
 | [],st,st',h,hl=>by
  unfold M.jc at h
  cases h
  exact hl
 | p::e,st,st',h,hl=>by
  unfold M.jc at h
  cases hk:M.fH columns st p with
  | none=>rw[hk] at h;cases h
  | some s=>
   rw[hk] at h
   obtain⟨h1,h2,h3⟩:=zK hk
   obtain⟨h4,h5⟩:=yj h1
   refine⟨h2,h4,h5,?_⟩
   rw[<-h3]
   exact yP e s st' h hl
theorem Ap {columns:List ax.D} {e:List aE.D} (h:0<=M.dw columns e):M.jw columns.length e:=by
 unfold M.dw at h
 cases hc:(M.bC columns&&decide (e.length<=12)) with
 | false=>rw[hc] at h;simp only[cond_false] at h;exact absurd h (by decide)
 | true=>
  rw[hc] at h
  simp only[Bool.and_eq_true,decide_eq_true_eq] at hc
  refine⟨hc.2,?_⟩
  simp only[cond_true] at h
  unfold M.oneOf at h
  split at h
  ·rename_i k hk
   exact yP e [] [k] hk (by simp)
  ·exact absurd h (by decide)
theorem Bv {a:Int} (h:0<=a):bz a 0=a:=by unfold bz;split<;>omega
theorem Ba {a:Int} (h:a<0):bz a 0=0:=by unfold bz;split<;>omega
def nJ (o:Option (List Int)) (b:Bool) (s:List Int):Prop:=match o with
 | some s'=>b=true/\s=s'
 | none=>b=false
noncomputable def Jc (st:List Int) (c d:Int):Option (List Int×Bool):=
 cond (decide ((1:Int)<(st.length:Int))==true) (af (0<=(st.length:Int)-1) (af ((st.length:Int)-1<(st.length:Int)) (cond (decide (nth (t:=.int .i64) st ((st.length:Int)-1)=c)==true) (af (0<=(st.length:Int)-2) (af ((st.length:Int)-2<(st.length:Int)) (af (0<=bz ((st.length:Int)-2) 0) (af (bz ((st.length:Int)-2) 0<=(st.length:Int)) (af (((bz ((st.length:Int)-2) 0).toNat+[d].length) * 8<=lim) (some (st.take (bz ((st.length:Int)-2) 0).toNat++[d],decide (nth (t:=.int .i64) st ((st.length:Int)-2)=c)))))))) (af (0<=bz ((st.length:Int)-2) 0) (af (bz ((st.length:Int)-2) 0<=(st.length:Int)) (af (((bz ((st.length:Int)-2) 0).toNat+[d].length) * 8<=lim) (some (st.take (bz ((st.length:Int)-2) 0).toNat++[d],false)))))))) (af (0<=bz ((st.length:Int)-2) 0) (af (bz ((st.length:Int)-2) 0<=(st.length:Int)) (af (((bz ((st.length:Int)-2) 0).toNat+[d].length) * 8<=lim) (some (st.take (bz ((st.length:Int)-2) 0).toNat++[d],false)))))
theorem Dd {columns:List ax.D} {st:List Int} {p:aE.D} (c d:Int) (hk:p.1=(3:Int)\/p.1=(5:Int)\/p.1=(6:Int)) (hst:st.length<=1000)
  (hpk:(M.cN p columns (st.drop (st.length-2)))=(d,(st.drop (st.length-2)).all fun x=>decide (x=c))) (hr:M.inR p.1 3 8=true) :
  ∃o s,Jc st c d=some (s,o) ∧
   nJ (cond (M.inR p.1 3 8&&(decide (M.takes p<=(st.length:Int))&&(M.cN p columns (st.drop (st.length-(M.takes p).toNat))).2)) (some (st.take (st.length-(M.takes p).toNat)++[(M.cN p columns (st.drop (st.length-(M.takes p).toNat))).1])) none) o s:=by
 rw[fN (by rcases hk with h | h | h<;>simp[h]),show (2:Int).toNat=2 from rfl,hpk,hr]
 unfold Jc
 by_cases hl:2<=st.length
 ·have hd:=oh (t:=.int .i64) (st:=st) hl
  have n2:((st.length:Int)-2).toNat=st.length-2:=by omega
  rw[hd,decide_eq_true (show (1:Int)<(st.length:Int) by omega),decide_eq_true (show (2:Int)<=(st.length:Int) by omega),Bv (by omega),n2]
  simp only[decide_true,decide_false,cond_true,cond_false,Bool.not_true,Bool.not_false,Int.reduceEq,Bool.true_and,Bool.and_true,Bool.and_false,Bool.false_and,show ((false:Bool)==true)=false from rfl,show ((true:Bool)==false)=false from rfl,show ((false:Bool)==false)=true from rfl,show ((true:Bool)==true)=true from rfl]
  repeat rw[aq (by first | omega | (unfold lim;simp;omega))]
  generalize nth (t:=.int .i64) st ((st.length:Int)-1)=y
  generalize nth (t:=.int .i64) st ((st.length:Int)-2)=z
  have key:∀(y z:Int),([z,y].all fun x=>decide (x=c))=(decide (z=c)&&decide (y=c)):=fun y z=>by simp
  rw[key]
  cases decide (y=c)
  ·simp only[decide_true,decide_false,cond_true,cond_false,Bool.not_true,Bool.not_false,Int.reduceEq,Bool.true_and,Bool.and_true,Bool.and_false,Bool.false_and,show ((false:Bool)==true)=false from rfl,show ((true:Bool)==false)=false from rfl,show ((false:Bool)==false)=true from rfl,show ((true:Bool)==true)=true from rfl]
   repeat rw[aq (by first | omega | (unfold lim;simp;omega))]
   exact⟨_,_,rfl,by simp[nJ]⟩
  ·simp only[decide_true,decide_false,cond_true,cond_false,Bool.not_true,Bool.not_false,Int.reduceEq,Bool.true_and,Bool.and_true,Bool.and_false,Bool.false_and,show ((false:Bool)==true)=false from rfl,show ((true:Bool)==false)=false from rfl,show ((false:Bool)==false)=true from rfl,show ((true:Bool)==true)=true from rfl]
   repeat rw[aq (by first | omega | (unfold lim;simp;omega))]
   refine⟨_,_,rfl,?_⟩
   cases decide (z=c)<;>simp[nJ]
 ·rw[decide_eq_false (show ¬(1:Int)<(st.length:Int) by omega),decide_eq_false (show ¬(2:Int)<=(st.length:Int) by omega),Ba (by omega)]
  simp only[decide_true,decide_false,cond_true,cond_false,Bool.not_true,Bool.not_false,Int.reduceEq,Bool.true_and,Bool.and_true,Bool.and_false,Bool.false_and,show ((false:Bool)==true)=false from rfl,show ((true:Bool)==false)=false from rfl,show ((false:Bool)==false)=true from rfl,show ((true:Bool)==true)=true from rfl]
  repeat rw[aq (by first | omega | (unfold lim;simp))]
  exact⟨_,_,rfl,by simp[nJ]⟩
theorem tE {columns:List ax.D} {st:List Int} (p:aE.D) (hst:st.length<=1000) (hcl:columns.length<=1048576) :
  ∃o s,F.kD columns st p=some (s,o)/\nJ (M.fH columns st p) o s:=by
 have w1:wrap64 ((st.length:Int)-1)=(st.length:Int)-1:=aQ (by omega) (by omega)
 have w2:wrap64 ((st.length:Int)-2)=(st.length:Int)-2:=aQ (by omega) (by omega)
 have wc:=lY _ hcl
 unfold F.kD
 rw[w1,w2,wc]
 unfold nJ M.fH M.lE M.noV
 by_cases e1:p.1=(1:Int)
 ·rw[oO (.inl e1)]
  unfold M.cN
  simp only[e1,decide_true,decide_false,cond_true,cond_false,Bool.not_true,Bool.not_false,Int.reduceEq,show ((false:Bool)==true)=false from rfl,show ((true:Bool)==false)=false from rfl,show ((false:Bool)==false)=true from rfl,show ((true:Bool)==true)=true from rfl,Bool.true_and,Bool.and_true]
  cases hn:decide (p.2.1=(0:Int))<;>cases hv:M.aN p.2.2.1<;>cases hk:decide (p.2.2.1.1=(0:Int))<;>simp[hn,hv,hk]
  try rw[aq (by unfold lim;omega)]
 rw[show Ty.beq aa p.2.2.1 ((0:Int),(0:Int),(⟨#[]⟩:ByteArray),())=Ty.beq aa p.2.2.1 M.zeroV from rfl]
 cases hnv:Ty.beq aa p.2.2.1 M.zeroV with
 | false=>
  simp only[e1,decide_true,decide_false,cond_true,cond_false,Bool.not_true,Bool.not_false,Int.reduceEq,Bool.true_and,Bool.and_true,Bool.and_false,Bool.false_and,show ((false:Bool)==true)=false from rfl,show ((true:Bool)==false)=false from rfl,show ((false:Bool)==false)=true from rfl,show ((true:Bool)==true)=true from rfl]
  refine⟨_,_,rfl,?_⟩
  cases decide (p.1=(2:Int))<;>cases decide (p.1=(4:Int))<;>cases M.inR p.1 3 8<;>rfl
 | true=>
 simp only[e1,decide_true,decide_false,cond_true,cond_false,Bool.not_true,Bool.not_false,Int.reduceEq,Bool.true_and,Bool.and_true,Bool.and_false,Bool.false_and,show ((false:Bool)==true)=false from rfl,show ((true:Bool)==false)=false from rfl,show ((false:Bool)==false)=true from rfl,show ((true:Bool)==true)=true from rfl]
 by_cases e2:p.1=(2:Int)
 ·rw[oO (.inr e2)]
  unfold M.cN
  simp only[e2,decide_true,decide_false,cond_true,cond_false,Bool.not_true,Bool.not_false,Int.reduceEq,Bool.true_and,Bool.and_true,Bool.and_false,Bool.false_and,show ((false:Bool)==true)=false from rfl,show ((true:Bool)==false)=false from rfl,show ((false:Bool)==false)=true from rfl,show ((true:Bool)==true)=true from rfl]
  cases hr:M.inR p.2.1 0 ((columns.length:Int)-1)
  ·exact⟨_,_,rfl,rfl⟩
  ·simp only[decide_true,decide_false,cond_true,cond_false,Bool.not_true,Bool.not_false,Int.reduceEq,Bool.true_and,Bool.and_true,Bool.and_false,Bool.false_and,show ((false:Bool)==true)=false from rfl,show ((true:Bool)==false)=false from rfl,show ((false:Bool)==false)=true from rfl,show ((true:Bool)==true)=true from rfl]
   try rw[aq (by unfold lim;simp;omega)]
   refine⟨_,_,rfl,?_⟩
   simp
 by_cases e4:p.1=(4:Int)
 ·rw[fN (.inr (.inl e4))]
  unfold M.cN
  simp only[e4,decide_true,decide_false,cond_true,cond_false,Bool.not_true,Bool.not_false,Int.reduceEq,Bool.true_and,Bool.and_true,Bool.and_false,Bool.false_and,show ((false:Bool)==true)=false from rfl,show ((true:Bool)==false)=false from rfl,show ((false:Bool)==false)=true from rfl,show ((true:Bool)==true)=true from rfl]
  by_cases hl:2<=st.length
  ·have hd:=oh (t:=.int .i64) (st:=st) hl
   rw[show (2:Int).toNat=2 from rfl,hd,decide_eq_true (show (1:Int)<(st.length:Int) by omega),decide_eq_true (show (2:Int)<=(st.length:Int) by omega),Bv (by omega)]
   simp only[decide_true,decide_false,cond_true,cond_false,Bool.not_true,Bool.not_false,Int.reduceEq,Bool.true_and,Bool.and_true,Bool.and_false,Bool.false_and,show ((false:Bool)==true)=false from rfl,show ((true:Bool)==false)=false from rfl,show ((false:Bool)==false)=true from rfl,show ((true:Bool)==true)=true from rfl]
   have n2:((st.length:Int)-2).toNat=st.length-2:=by omega
   rw[n2]
   repeat rw[aq (by first | omega | (unfold lim;simp;omega))]
   rw[show nth (t:=.int .i64) [nth (t:=.int .i64) st ((st.length:Int)-2),nth (t:=.int .i64) st ((st.length:Int)-1)] 0=nth (t:=.int .i64) st ((st.length:Int)-2) from rfl,show nth (t:=.int .i64) [nth (t:=.int .i64) st ((st.length:Int)-2),nth (t:=.int .i64) st ((st.length:Int)-1)] 1=nth (t:=.int .i64) st ((st.length:Int)-1) from rfl]
   by_cases hab:nth (t:=.int .i64) st ((st.length:Int)-1)=nth (t:=.int .i64) st ((st.length:Int)-2)
   ·rw[decide_eq_true hab,decide_eq_true hab.symm]
    simp only[decide_true,decide_false,cond_true,cond_false,Bool.not_true,Bool.not_false,Int.reduceEq,Bool.true_and,Bool.and_true,Bool.and_false,Bool.false_and,show ((false:Bool)==true)=false from rfl,show ((true:Bool)==false)=false from rfl,show ((false:Bool)==false)=true from rfl,show ((true:Bool)==true)=true from rfl]
    repeat rw[aq (by first | omega | (unfold lim;simp;omega))]
    refine⟨_,_,rfl,?_⟩
    cases M.inR p.2.1 1 4<;>simp
   ·rw[decide_eq_false hab,decide_eq_false (fun e=>hab e.symm)]
    simp only[decide_true,decide_false,cond_true,cond_false,Bool.not_true,Bool.not_false,Int.reduceEq,Bool.true_and,Bool.and_true,Bool.and_false,Bool.false_and,show ((false:Bool)==true)=false from rfl,show ((true:Bool)==false)=false from rfl,show ((false:Bool)==false)=true from rfl,show ((true:Bool)==true)=true from rfl]
    repeat rw[aq (by first | omega | (unfold lim;simp;omega))]
    refine⟨_,_,rfl,?_⟩
    cases M.inR p.2.1 1 4<;>simp
  ·rw[decide_eq_false (show ¬(1:Int)<(st.length:Int) by omega),decide_eq_false (show ¬(2:Int)<=(st.length:Int) by omega),Ba (by omega)]
   simp only[decide_true,decide_false,cond_true,cond_false,Bool.not_true,Bool.not_false,Int.reduceEq,Bool.true_and,Bool.and_true,Bool.and_false,Bool.false_and,show ((false:Bool)==true)=false from rfl,show ((true:Bool)==false)=false from rfl,show ((false:Bool)==false)=true from rfl,show ((true:Bool)==true)=true from rfl]
   repeat rw[aq (by first | omega | (unfold lim;simp))]
   exact⟨_,_,rfl,rfl⟩
 simp only[e2,e4,decide_true,decide_false,cond_true,cond_false,Bool.not_true,Bool.not_false,Int.reduceEq,Bool.true_and,Bool.and_true,Bool.and_false,Bool.false_and,show ((false:Bool)==true)=false from rfl,show ((true:Bool)==false)=false from rfl,show ((false:Bool)==false)=true from rfl,show ((true:Bool)==true)=true from rfl]
 cases hn:decide (p.2.1=(0:Int)) with
 | false=>
  simp only[decide_true,decide_false,cond_true,cond_false,Bool.not_true,Bool.not_false,Int.reduceEq,Bool.true_and,Bool.and_true,Bool.and_false,Bool.false_and,show ((false:Bool)==true)=false from rfl,show ((true:Bool)==false)=false from rfl,show ((false:Bool)==false)=true from rfl,show ((true:Bool)==true)=true from rfl]
  refine⟨_,_,rfl,?_⟩
  cases M.inR p.1 3 8<;>rfl
 | true=>
 simp only[decide_true,decide_false,cond_true,cond_false,Bool.not_true,Bool.not_false,Int.reduceEq,Bool.true_and,Bool.and_true,Bool.and_false,Bool.false_and,show ((false:Bool)==true)=false from rfl,show ((true:Bool)==false)=false from rfl,show ((false:Bool)==false)=true from rfl,show ((true:Bool)==true)=true from rfl]
 by_cases e3:p.1=(3:Int)
 ·simp only[e3,decide_true,decide_false,cond_true,cond_false,Bool.not_true,Bool.not_false,Int.reduceEq,Bool.true_and,Bool.and_true,Bool.and_false,Bool.false_and,show ((false:Bool)==true)=false from rfl,show ((true:Bool)==false)=false from rfl,show ((false:Bool)==false)=true from rfl,show ((true:Bool)==true)=true from rfl]
  have h:=Dd (columns:=columns) (st:=st) (p:=p) 1 1 (.inl e3) hst (by unfold M.cN;simp only[e3,decide_true,decide_false,cond_true,cond_false,Bool.not_true,Bool.not_false,Int.reduceEq,Bool.true_and,Bool.and_true,Bool.and_false,Bool.false_and,show ((false:Bool)==true)=false from rfl,show ((true:Bool)==false)=false from rfl,show ((false:Bool)==false)=true from rfl,show ((true:Bool)==true)=true from rfl]) (by rw[e3];rfl)
  simp only[e3,show M.inR 3 3 8=true from rfl,Bool.true_and] at h ⊢
  exact h
 by_cases e5:p.1=(5:Int)
 ·simp only[e5,decide_true,decide_false,cond_true,cond_false,Bool.not_true,Bool.not_false,Int.reduceEq,Bool.true_and,Bool.and_true,Bool.and_false,Bool.false_and,show ((false:Bool)==true)=false from rfl,show ((true:Bool)==false)=false from rfl,show ((false:Bool)==false)=true from rfl,show ((true:Bool)==true)=true from rfl]
  have h:=Dd (columns:=columns) (st:=st) (p:=p) 3 3 (.inr (.inl e5)) hst (by unfold M.cN;simp only[e5,decide_true,decide_false,cond_true,cond_false,Bool.not_true,Bool.not_false,Int.reduceEq,Bool.true_and,Bool.and_true,Bool.and_false,Bool.false_and,show ((false:Bool)==true)=false from rfl,show ((true:Bool)==false)=false from rfl,show ((false:Bool)==false)=true from rfl,show ((true:Bool)==true)=true from rfl]) (by rw[e5];rfl)
  simp only[e5,show M.inR 5 3 8=true from rfl,Bool.true_and] at h ⊢
  exact h
 by_cases e6:p.1=(6:Int)
 ·simp only[e6,decide_true,decide_false,cond_true,cond_false,Bool.not_true,Bool.not_false,Int.reduceEq,Bool.true_and,Bool.and_true,Bool.and_false,Bool.false_and,show ((false:Bool)==true)=false from rfl,show ((true:Bool)==false)=false from rfl,show ((false:Bool)==false)=true from rfl,show ((true:Bool)==true)=true from rfl]
  have h:=Dd (columns:=columns) (st:=st) (p:=p) 3 3 (.inr (.inr e6)) hst (by unfold M.cN;simp only[e6,decide_true,decide_false,cond_true,cond_false,Bool.not_true,Bool.not_false,Int.reduceEq,Bool.true_and,Bool.and_true,Bool.and_false,Bool.false_and,show ((false:Bool)==true)=false from rfl,show ((true:Bool)==false)=false from rfl,show ((false:Bool)==false)=true from rfl,show ((true:Bool)==true)=true from rfl]) (by rw[e6];rfl)
  simp only[e6,show M.inR 6 3 8=true from rfl,Bool.true_and] at h ⊢
  exact h
 by_cases e7:p.1=(7:Int)
 ·rw[lS (.inl e7)]
  unfold M.cN
  simp only[e7,decide_true,decide_false,cond_true,cond_false,Bool.not_true,Bool.not_false,Int.reduceEq,Bool.true_and,Bool.and_true,Bool.and_false,Bool.false_and,show ((false:Bool)==true)=false from rfl,show ((true:Bool)==false)=false from rfl,show ((false:Bool)==false)=true from rfl,show ((true:Bool)==true)=true from rfl,show (1:Int).toNat=1 from rfl,show M.inR 7 3 8=true from rfl]
  by_cases hl:1<=st.length
  ·have hd:=uN (t:=.int .i64) (st:=st) hl
   have hp:=GD (t:=.int .i64) (st:=st) hl
   rw[hd,decide_eq_true (show (0:Int)<(st.length:Int) by omega),decide_eq_true (show (1:Int)<=(st.length:Int) by omega)]
   simp only[decide_true,decide_false,cond_true,cond_false,Bool.not_true,Bool.not_false,Int.reduceEq,Bool.true_and,Bool.and_true,Bool.and_false,Bool.false_and,show ((false:Bool)==true)=false from rfl,show ((true:Bool)==false)=false from rfl,show ((false:Bool)==false)=true from rfl,show ((true:Bool)==true)=true from rfl]
   repeat rw[aq (by first | omega | (unfold lim;simp;omega))]
   refine⟨_,_,rfl,?_⟩
   have key:∀(y:Int),([y].all fun x=>decide (x=3))=decide (y=3):=fun y=>by simp
   rw[key]
   by_cases h3:nth (t:=.int .i64) st ((st.length:Int)-1)=3
   ·rw[decide_eq_true h3]
    rw[h3] at hp
    exact⟨rfl,hp.symm⟩
   ·rw[decide_eq_false h3]
    rfl
  ·rw[decide_eq_false (show ¬(0:Int)<(st.length:Int) by omega),decide_eq_false (show ¬(1:Int)<=(st.length:Int) by omega)]
   exact⟨_,_,rfl,rfl⟩
 by_cases e8:p.1=(8:Int)
 ·rw[lS (.inr e8)]
  unfold M.cN
  simp only[e8,decide_true,decide_false,cond_true,cond_false,Bool.not_true,Bool.not_false,Int.reduceEq,Bool.true_and,Bool.and_true,Bool.and_false,Bool.false_and,show ((false:Bool)==true)=false from rfl,show ((true:Bool)==false)=false from rfl,show ((false:Bool)==false)=true from rfl,show ((true:Bool)==true)=true from rfl,show (1:Int).toNat=1 from rfl,show M.inR 8 3 8=true from rfl]
  by_cases hl:1<=st.length
  ·have n1:((st.length:Int)-1).toNat=st.length-1:=by omega
   rw[decide_eq_true (show (0:Int)<(st.length:Int) by omega),decide_eq_true (show (1:Int)<=(st.length:Int) by omega),Bv (by omega),n1]
   repeat rw[aq (by first | omega | (unfold lim;simp;omega))]
   exact⟨_,_,rfl,rfl,rfl⟩
  ·rw[decide_eq_false (show ¬(0:Int)<(st.length:Int) by omega),decide_eq_false (show ¬(1:Int)<=(st.length:Int) by omega),Ba (by omega)]
   repeat rw[aq (by first | omega | (unfold lim;simp))]
   exact⟨_,_,rfl,rfl⟩
 simp only[e3,e5,e6,e7,e8,decide_true,decide_false,cond_true,cond_false,Bool.not_true,Bool.not_false,Int.reduceEq,Bool.true_and,Bool.and_true,Bool.and_false,Bool.false_and,show ((false:Bool)==true)=false from rfl,show ((true:Bool)==false)=false from rfl,show ((false:Bool)==false)=true from rfl,show ((true:Bool)==true)=true from rfl,Em e3 e4 e5 e6 e7 e8]
 exact⟨_,_,rfl,rfl⟩
theorem yl {columns:List ax.D} {E:List aE.D} {st:List Int} {k:Int} (h0:0<=k) (h1:k<(E.length:Int)) (hst:st.length<=1000) (hcl:columns.length<=1048576) :
  ∃o s,F.cR columns E (true,k,st)=some (.inl (o,wrap64 (k+1),s))/\nJ (M.fH columns st (nth (t:=aE) E k)) o s:=by
 obtain⟨o,s,e,h⟩:=tE (columns:=columns) (nth (t:=aE) E k) hst hcl
 refine⟨o,s,?_,h⟩
 unfold F.cR
 simp only
 rw[decide_eq_true h1]
 simp only[show ((true:Bool)==true)=true from rfl,cond_true]
 rw[aq h0,aq h1,aq (show Sm (.sl (.int .i64)) st from⟨by omega,fun _ _=>trivial⟩),aq hst]
 simp only[cq,M.vt,e]
 rfl
theorem zU {columns:List ax.D} {E:List aE.D} (hE:(E.length:Int)<=1000) (hcl:columns.length<=1048576):∀(n:Nat) (k:Nat) (st:List Int),n=E.length-k->k<=E.length->st.length+n<=1000 →
  ∃o s,cK (F.cR columns E) (true,(k:Int),st)=some (o,s)/\nJ (M.jc columns (E.drop k) st) o s:=by
 intro n
 induction n with
 | zero=>
  intro k st hn hk hl
  have hkE:k=E.length:=by omega
  refine⟨true,st,?_,?_⟩
  ·rw[eS]
   unfold F.cR
   simp only
   rw[decide_eq_false (show ¬(k:Int)<(E.length:Int) by omega)]
   rfl
  ·rw[List.drop_eq_nil_of_le (by omega)]
   exact⟨rfl,rfl⟩
 | succ n ih=>
  intro k st hn hk hl
  have hlt:k<E.length:=by omega
  obtain⟨o,s,h1,h2⟩:=yl (columns:=columns) (E:=E) (st:=st) (k:=(k:Int)) (by omega) (by omega) (by omega) hcl
  rw[aQ (n:=(k:Int)+1) (by omega) (by omega)] at h1
  have hd:E.drop k=nth (t:=aE) E (k:Int)::E.drop (k+1):=by
   have:=AA (t:=aE) (xs:=E) (i:=(k:Int)) (by omega) (by omega)
   simpa using this
  rw[hd,eS,h1,cD]
  unfold M.jc
  unfold nJ at h2
  cases hk2:M.fH columns st (nth (t:=aE) E (k:Int)) with
  | none=>
   rw[hk2] at h2
   simp only at h2
   subst h2
   refine⟨false,s,?_,rfl⟩
   rw[eS]
   unfold F.cR
   simp only
   cases decide ((k:Int)+1<(E.length:Int))<;>rfl
  | some s'=>
   rw[hk2] at h2
   obtain⟨rfl,rfl⟩:=h2
   have:=uq hk2
   exact ih (k+1) s (by omega) (by omega) (by omega)
end Go.AE
