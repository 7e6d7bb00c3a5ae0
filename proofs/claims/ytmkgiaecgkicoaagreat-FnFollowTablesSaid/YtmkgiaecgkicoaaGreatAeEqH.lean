/- Loops over the parts of an expression. -/
import Derived.Test.YtmkgiaecgkicoaaGreatAeF
import Derived.Test.YtmkgiaecgkicoaaGreatAeLem
namespace Go.AE
open Go Go.RowKit
set_option linter.unusedSimpArgs false
set_option linter.unusedVariables false
theorem CY (p:aE.D):M.takes p=0\/M.takes p=1\/M.takes p=2:=by
 unfold M.takes
 generalize (decide (p.1=(3:Int))||decide (p.1=(4:Int))||decide (p.1=(5:Int))||decide (p.1=(6:Int)))=a
 generalize (decide (p.1=(7:Int))||decide (p.1=(8:Int)))=b
 cases a<;>cases b<;>simp
theorem vo (p:aE.D):0<=M.takes p/\M.takes p<=2:=by rcases CY p with h | h | h<;>omega
theorem fR {p:aE.D} (h:p.1=(3:Int)\/p.1=(4:Int)\/p.1=(5:Int)\/p.1=(6:Int)):M.takes p=2:=by
 unfold M.takes
 rcases h with h | h | h | h<;>simp[h]
theorem mH {p:aE.D} (h:p.1=(7:Int)\/p.1=(8:Int)):M.takes p=1:=by
 unfold M.takes
 rcases h with h | h<;>simp[h]
theorem qK {p:aE.D} (h:p.1=(1:Int)\/p.1=(2:Int)):M.takes p=0:=by
 unfold M.takes
 rcases h with h | h<;>simp[h]
theorem vj {α:Type} (xs:List α) {k:Int} (h0:0<=k) (h1:k<=(xs.length:Int)):aC xs (some (k,(xs.length:Int)))=xs.drop k.toNat:=by
 unfold aC
 apply List.take_of_length_le
 rw[List.length_drop]
 omega
theorem Dj {n:Nat} {k:Int} (hn:n<=1048576) (h0:0<=k) (h2:k<=2):wrap64 ((n:Int)-k)=(n:Int)-k:=aO (by omega) (by omega)
theorem oU {t:Ty} {st:List t.D} (h:2<=st.length):st.drop (st.length-2)=[nth (t:=t) st ((st.length:Int)-2),nth (t:=t) st ((st.length:Int)-1)]:=by
 have e1:((st.length:Int)-2).toNat=st.length-2:=by omega
 have e2:((st.length:Int)-1).toNat=st.length-1:=by omega
 rw[List.drop_eq_getElem_cons (by omega),show st.length-2+1=st.length-1 by omega,List.drop_eq_getElem_cons (by omega),List.drop_eq_nil_of_le (by omega)]
 rw[ql (by omega) (by omega),ql (by omega) (by omega)]
 simp only[e1,e2]
theorem vg {t:Ty} {st:List t.D} (h:1<=st.length):st.drop (st.length-1)=[nth (t:=t) st ((st.length:Int)-1)]:=by
 have e2:((st.length:Int)-1).toNat=st.length-1:=by omega
 rw[List.drop_eq_getElem_cons (by omega),List.drop_eq_nil_of_le (by omega)]
 rw[ql (by omega) (by omega)]
 simp only[e2]
theorem Ir {t:Ty} {st:List t.D} (h:1<=st.length):st.take (st.length-1)++[nth (t:=t) st ((st.length:Int)-1)]=st:=by
 rw[<-vg h,List.take_append_drop]
theorem FB {k:Int} (h1:¬k=3) (h2:¬k=4) (h3:¬k=5) (h4:¬k=6) (h5:¬k=7) (h6:¬k=8):M.inR k 3 8=false:=by
 unfold M.inR
 simp
 omega
theorem vQ {columns:List ax.D} {st st':List Int} {p:aE.D} (h:M.fU columns st p=some st'):st'.length<=st.length+1:=by
 unfold M.fU at h
 cases hc:(M.mg p columns&&(decide (M.takes p<=(st.length:Int))&&(M.cV p columns (st.drop (st.length-(M.takes p).toNat))).2)) with
 | false=>rw[hc] at h;cases h
 | true=>
  rw[hc] at h
  simp only[cond_true,Option.some.injEq] at h
  subst h
  simp
theorem zK {columns:List ax.D} {e:List aE.D} {p:aE.D} {st:List Int} (hst:st.length<=1000) :
  F.eP columns e p st=some (match M.fU columns st p with | some s=>.inl s | none=>.inr ()):=by
 obtain⟨t0,t2⟩:=vo p
 unfold F.eP M.fU
 cases ht:M.mg p columns with
 | false=>rfl
 | true=>
 by_cases hl:M.takes p<=(st.length:Int)
 ·have h2:¬(st.length:Int)<M.takes p:=by omega
  have hw:=Dj (n:=st.length) (k:=M.takes p) (by omega) t0 t2
  have hc:=vj st (k:=(st.length:Int)-M.takes p) (by omega) (by omega)
  have hn:((st.length:Int)-M.takes p).toNat=st.length-(M.takes p).toNat:=by omega
  rw[hn] at hc
  rw[hw,hc]
  simp only[Bool.not_true,Bool.true_and,h2,hl,decide_false,decide_true,cond_true,cond_false]
  rw[show ((false:Bool)==false)=true from rfl]
  simp only[cond_true]
  have hsm:Sm (.sl (.int .i64)) (st.drop (st.length-(M.takes p).toNat)):=⟨by rw[List.length_drop];omega,fun _ _=>trivial⟩
  rw[ai (p:=Sm (.sl (.int .i64)) (st.drop (st.length-(M.takes p).toNat))) hsm]
  repeat rw[ai (by first | omega | (rw[List.length_drop];omega))]
  simp only[bW]
  cases (M.cV p columns (st.drop (st.length-(M.takes p).toNat))).2 with
  | false=>rfl
  | true=>
   simp only[Bool.not_true,cond_false]
   repeat rw[ai (by first | omega | (unfold lim;simp;omega))]
   rw[hn]
   rfl
 ·have h2:(st.length:Int)<M.takes p:=by omega
  simp[h2,hl]
theorem tA {columns:List ax.D} {E:List aE.D} {τ:Type} {A:List Int->Option τ} {B:Unit->Option τ}:∀(e:List aE.D) (st:List Int),st.length+e.length<=1000 →
  bD (aW (F.eP columns E) e st) A B=match M.jS columns e st with | some s=>A s | none=>B ()
 | [],st,_=>rfl
 | p::e,st,h=>by
  have h:st.length+(e.length+1)<=1000:=h
  rw[dz,zK (by omega),M.jS]
  cases hk:M.fU columns st p with
  | none=>rfl
  | some s=>
   have:=vQ hk
   exact tA e s (by omega)
theorem DE:Sm aa M.zeroV:=⟨trivial,trivial,Nat.zero_le _,trivial⟩
theorem nk (n:Int):Sm aa (M.valueOf n):=by
 unfold M.valueOf
 cases M.inR n 0 1
 ·exact DE
 ·exact⟨trivial,trivial,Nat.zero_le _,trivial⟩
theorem Kb (a b:aa.D):Sm aa (M.sum a b):=by
 unfold M.sum
 generalize (decide (a.1=(0:Int))||decide (b.1=(0:Int))||!M.inR (wrap64 (a.2.1+b.2.1)) (-9999) 9999)=c
 cases c
 ·exact⟨trivial,trivial,Nat.zero_le _,trivial⟩
 ·exact DE
theorem CL {p:aE.D} {row l:List aa.D} (hp:Sm aE p) (hr:Sm (.sl aa) row):Sm aa (M.iy p row l):=by
 unfold M.iy
 refine qJ hp.2.2.1 (qJ (aH hr _) (qJ (Kb _ _) (qJ (nk _) (qJ (nk _) (qJ (nk _) (qJ (nk _) (nk _)))))))
theorem CS {row:List aa.D} {st:List aa.D} {p:aE.D} (h:M.takes p<=(st.length:Int)):(M.fz row st p).length=st.length-(M.takes p).toNat+1:=by
 unfold M.fz
 simp
theorem Ex {row:List aa.D} {st:List aa.D} {p:aE.D} (hp:Sm aE p) (hr:Sm (.sl aa) row) (hs:Sm (.sl aa) st) (hl:st.length<=1000):Sm (.sl aa) (M.fz row st p):=by
 unfold M.fz
 refine⟨by simp;omega,fun x hx=>?_⟩
 rcases List.mem_append.1 hx with hx | hx
 ·exact hs.2 x (List.mem_of_mem_take hx)
 ·rw[List.mem_singleton.1 hx]
  exact CL hp hr
theorem zA {row:List aa.D} {f:aE.D->List aa.D->Option (Sum (List aa.D) Unit)} (hr:Sm (.sl aa) row)
  (hf:∀p st,Sm aE p->Sm (.sl aa) st->st.length<=1000->M.takes p<=(st.length:Int)->(1<=p.1/\p.1<=8)->M.nR p row.length->f p st=some (.inl (M.fz row st p))) :
  ∀(e:List aE.D) (st:List aa.D),(∀p∈e,Sm aE p)->Sm (.sl aa) st->st.length+e.length<=1000->M.yK row.length e st.length →
   aW f e st=some (.inl (e.foldl (M.fz row) st))/\0<(e.foldl (M.fz row) st).length
 | [],st,_,_,_,h=>⟨rfl,h⟩
 | p::e,st,he,hs,hl,h=>by
  obtain⟨h1,h2,h3,h4⟩:=h
  have hl:st.length+(e.length+1)<=1000:=hl
  have hlen:=CS (row:=row) h1
  have hp:=he p (List.mem_cons_self ..)
  rw[dz,hf p st hp hs (by omega) h1 h2 h3,bO,List.foldl_cons]
  exact zA hr hf e _ (fun q hq=>he q (List.mem_cons_of_mem _ hq)) (Ex hp hr hs (by omega)) (by omega) (by rw[hlen];exact h4)
theorem Fv {k:Int} (h:1<=k/\k<=8):k=1\/k=2\/k=3\/k=4\/k=5\/k=6\/k=7\/k=8:=by omega
theorem zD {p:aE.D} {columns:List ax.D} (h:M.mg p columns=true):(1<=p.1/\p.1<=8)/\M.nR p columns.length:=by
 unfold M.mg at h
 by_cases h1:p.1=(1:Int)
 ·exact⟨by rw[h1];decide,fun e=>by rw[h1] at e;cases e⟩
 by_cases h2:p.1=(2:Int)
 ·simp only[h2,show decide ((2:Int)=1)=false from rfl,cond_false,decide_true,cond_true,Bool.and_eq_true] at h
  refine⟨by rw[h2];decide,fun _=>?_⟩
  have:=h.1
  unfold M.inR at this
  simp only[Bool.and_eq_true,decide_eq_true_eq] at this
  exact⟨this.1,Int.lt_of_le_sub_one this.2⟩
 by_cases h4:p.1=(4:Int)
 ·exact⟨by rw[h4];decide,fun e=>by rw[h4] at e;cases e⟩
 simp only[h1,h2,h4,decide_false,cond_false] at h
 cases hr:M.inR p.1 3 8 with
 | false=>rw[hr] at h;cases h
 | true=>
  unfold M.inR at hr
  simp only[Bool.and_eq_true,decide_eq_true_eq] at hr
  refine⟨⟨Int.le_trans (by decide) hr.1,hr.2⟩,fun e=>absurd e h2⟩
theorem AU {columns:List ax.D} {st st':List Int} {p:aE.D} (h:M.fU columns st p=some st'):M.mg p columns=true/\M.takes p<=(st.length:Int)/\st'.length=st.length-(M.takes p).toNat+1:=by
 unfold M.fU at h
 cases hc:(M.mg p columns&&(decide (M.takes p<=(st.length:Int))&&(M.cV p columns (st.drop (st.length-(M.takes p).toNat))).2)) with
 | false=>rw[hc] at h;cases h
 | true=>
  rw[hc] at h
  simp only[cond_true,Option.some.injEq] at h
  simp only[Bool.and_eq_true,decide_eq_true_eq] at hc
  refine⟨hc.1,hc.2.1,?_⟩
  subst h
  simp
theorem Ak {columns:List ax.D}:∀(e:List aE.D) (st st':List Int),M.jS columns e st=some st'->0<st'.length->M.yK columns.length e st.length
 | [],st,st',h,hl=>by
  unfold M.jS at h
  cases h
  exact hl
 | p::e,st,st',h,hl=>by
  unfold M.jS at h
  cases hk:M.fU columns st p with
  | none=>rw[hk] at h;cases h
  | some s=>
   rw[hk] at h
   obtain⟨h1,h2,h3⟩:=AU hk
   obtain⟨h4,h5⟩:=zD h1
   refine⟨h2,h4,h5,?_⟩
   rw[<-h3]
   exact Ak e s st' h hl
theorem Bx {columns:List ax.D} {e:List aE.D} (h:0<=M.dL columns e):M.jG columns.length e:=by
 unfold M.dL at h
 cases hc:(M.bM columns&&decide (e.length<=12)) with
 | false=>rw[hc] at h;simp only[cond_false] at h;exact absurd h (by decide)
 | true=>
  rw[hc] at h
  simp only[Bool.and_eq_true,decide_eq_true_eq] at hc
  refine⟨hc.2,?_⟩
  simp only[cond_true] at h
  unfold M.oneOf at h
  split at h
  ·rename_i k hk
   exact Ak e [] [k] hk (by simp)
  ·exact absurd h (by decide)
theorem Ci {a:Int} (h:0<=a):bH a 0=a:=by unfold bH;split<;>omega
theorem Ch {a:Int} (h:a<0):bH a 0=0:=by unfold bH;split<;>omega
def oz (o:Option (List Int)) (b:Bool) (s:List Int):Prop:=match o with
 | some s'=>b=true/\s=s'
 | none=>b=false
noncomputable def Kk (st:List Int) (c d:Int):Option (List Int×Bool):=
 cond (decide ((1:Int)<(st.length:Int))==true) (af (0<=(st.length:Int)-1) (af ((st.length:Int)-1<(st.length:Int)) (cond (decide (nth (t:=.int .i64) st ((st.length:Int)-1)=c)==true) (af (0<=(st.length:Int)-2) (af ((st.length:Int)-2<(st.length:Int)) (af (0<=bH ((st.length:Int)-2) 0) (af (bH ((st.length:Int)-2) 0<=(st.length:Int)) (af (((bH ((st.length:Int)-2) 0).toNat+[d].length) * 8<=lim) (some (st.take (bH ((st.length:Int)-2) 0).toNat++[d],decide (nth (t:=.int .i64) st ((st.length:Int)-2)=c)))))))) (af (0<=bH ((st.length:Int)-2) 0) (af (bH ((st.length:Int)-2) 0<=(st.length:Int)) (af (((bH ((st.length:Int)-2) 0).toNat+[d].length) * 8<=lim) (some (st.take (bH ((st.length:Int)-2) 0).toNat++[d],false)))))))) (af (0<=bH ((st.length:Int)-2) 0) (af (bH ((st.length:Int)-2) 0<=(st.length:Int)) (af (((bH ((st.length:Int)-2) 0).toNat+[d].length) * 8<=lim) (some (st.take (bH ((st.length:Int)-2) 0).toNat++[d],false)))))
theorem Es {columns:List ax.D} {st:List Int} {p:aE.D} (c d:Int) (hk:p.1=(3:Int)\/p.1=(5:Int)\/p.1=(6:Int)) (hst:st.length<=1000)
  (hpk:(M.cV p columns (st.drop (st.length-2)))=(d,(st.drop (st.length-2)).all fun x=>decide (x=c))) (hr:M.inR p.1 3 8=true) :
  ∃o s,Kk st c d=some (s,o) ∧
   oz (cond (M.inR p.1 3 8&&(decide (M.takes p<=(st.length:Int))&&(M.cV p columns (st.drop (st.length-(M.takes p).toNat))).2)) (some (st.take (st.length-(M.takes p).toNat)++[(M.cV p columns (st.drop (st.length-(M.takes p).toNat))).1])) none) o s:=by
 rw[fR (by rcases hk with h | h | h<;>simp[h]),show (2:Int).toNat=2 from rfl,hpk,hr]
 unfold Kk
 by_cases hl:2<=st.length
 ·have hd:=oU (t:=.int .i64) (st:=st) hl
  have n2:((st.length:Int)-2).toNat=st.length-2:=by omega
  rw[hd,decide_eq_true (show (1:Int)<(st.length:Int) by omega),decide_eq_true (show (2:Int)<=(st.length:Int) by omega),Ci (by omega),n2]
  simp only[decide_true,decide_false,cond_true,cond_false,Bool.not_true,Bool.not_false,Int.reduceEq,Bool.true_and,Bool.and_true,Bool.and_false,Bool.false_and,show ((false:Bool)==true)=false from rfl,show ((true:Bool)==false)=false from rfl,show ((false:Bool)==false)=true from rfl,show ((true:Bool)==true)=true from rfl]
  repeat rw[ai (by first | omega | (unfold lim;simp;omega))]
  generalize nth (t:=.int .i64) st ((st.length:Int)-1)=y
  generalize nth (t:=.int .i64) st ((st.length:Int)-2)=z
  have key:∀(y z:Int),([z,y].all fun x=>decide (x=c))=(decide (z=c)&&decide (y=c)):=fun y z=>by simp
  rw[key]
  cases decide (y=c)
  ·simp only[decide_true,decide_false,cond_true,cond_false,Bool.not_true,Bool.not_false,Int.reduceEq,Bool.true_and,Bool.and_true,Bool.and_false,Bool.false_and,show ((false:Bool)==true)=false from rfl,show ((true:Bool)==false)=false from rfl,show ((false:Bool)==false)=true from rfl,show ((true:Bool)==true)=true from rfl]
   repeat rw[ai (by first | omega | (unfold lim;simp;omega))]
   exact⟨_,_,rfl,by simp[oz]⟩
  ·simp only[decide_true,decide_false,cond_true,cond_false,Bool.not_true,Bool.not_false,Int.reduceEq,Bool.true_and,Bool.and_true,Bool.and_false,Bool.false_and,show ((false:Bool)==true)=false from rfl,show ((true:Bool)==false)=false from rfl,show ((false:Bool)==false)=true from rfl,show ((true:Bool)==true)=true from rfl]
   repeat rw[ai (by first | omega | (unfold lim;simp;omega))]
   refine⟨_,_,rfl,?_⟩
   cases decide (z=c)<;>simp[oz]
 ·rw[decide_eq_false (show ¬(1:Int)<(st.length:Int) by omega),decide_eq_false (show ¬(2:Int)<=(st.length:Int) by omega),Ch (by omega)]
  simp only[decide_true,decide_false,cond_true,cond_false,Bool.not_true,Bool.not_false,Int.reduceEq,Bool.true_and,Bool.and_true,Bool.and_false,Bool.false_and,show ((false:Bool)==true)=false from rfl,show ((true:Bool)==false)=false from rfl,show ((false:Bool)==false)=true from rfl,show ((true:Bool)==true)=true from rfl]
  repeat rw[ai (by first | omega | (unfold lim;simp))]
  exact⟨_,_,rfl,by simp[oz]⟩
theorem vM {columns:List ax.D} {st:List Int} (p:aE.D) (hst:st.length<=1000) (hcl:columns.length<=1048576) :
  ∃o s,F.ld columns st p=some (s,o)/\oz (M.fU columns st p) o s:=by
 have w1:wrap64 ((st.length:Int)-1)=(st.length:Int)-1:=aO (by omega) (by omega)
 have w2:wrap64 ((st.length:Int)-2)=(st.length:Int)-2:=aO (by omega) (by omega)
 have wc:=mC _ hcl
 unfold F.ld
 rw[w1,w2,wc]
 unfold oz M.fU M.mg M.noV
 by_cases e1:p.1=(1:Int)
 ·rw[qK (.inl e1)]
  unfold M.cV
  simp only[e1,decide_true,decide_false,cond_true,cond_false,Bool.not_true,Bool.not_false,Int.reduceEq,show ((false:Bool)==true)=false from rfl,show ((true:Bool)==false)=false from rfl,show ((false:Bool)==false)=true from rfl,show ((true:Bool)==true)=true from rfl,Bool.true_and,Bool.and_true]
  cases hn:decide (p.2.1=(0:Int))<;>cases hv:M.aP p.2.2.1<;>cases hk:decide (p.2.2.1.1=(0:Int))<;>simp[hn,hv,hk]
  try rw[ai (by unfold lim;omega)]
 rw[show Ty.beq aa p.2.2.1 ((0:Int),(0:Int),(⟨#[]⟩:ByteArray),())=Ty.beq aa p.2.2.1 M.zeroV from rfl]
 cases hnv:Ty.beq aa p.2.2.1 M.zeroV with
 | false=>
  simp only[e1,decide_true,decide_false,cond_true,cond_false,Bool.not_true,Bool.not_false,Int.reduceEq,Bool.true_and,Bool.and_true,Bool.and_false,Bool.false_and,show ((false:Bool)==true)=false from rfl,show ((true:Bool)==false)=false from rfl,show ((false:Bool)==false)=true from rfl,show ((true:Bool)==true)=true from rfl]
  refine⟨_,_,rfl,?_⟩
  cases decide (p.1=(2:Int))<;>cases decide (p.1=(4:Int))<;>cases M.inR p.1 3 8<;>rfl
 | true=>
 simp only[e1,decide_true,decide_false,cond_true,cond_false,Bool.not_true,Bool.not_false,Int.reduceEq,Bool.true_and,Bool.and_true,Bool.and_false,Bool.false_and,show ((false:Bool)==true)=false from rfl,show ((true:Bool)==false)=false from rfl,show ((false:Bool)==false)=true from rfl,show ((true:Bool)==true)=true from rfl]
 by_cases e2:p.1=(2:Int)
 ·rw[qK (.inr e2)]
  unfold M.cV
  simp only[e2,decide_true,decide_false,cond_true,cond_false,Bool.not_true,Bool.not_false,Int.reduceEq,Bool.true_and,Bool.and_true,Bool.and_false,Bool.false_and,show ((false:Bool)==true)=false from rfl,show ((true:Bool)==false)=false from rfl,show ((false:Bool)==false)=true from rfl,show ((true:Bool)==true)=true from rfl]
  cases hr:M.inR p.2.1 0 ((columns.length:Int)-1)
  ·exact⟨_,_,rfl,rfl⟩
  ·simp only[decide_true,decide_false,cond_true,cond_false,Bool.not_true,Bool.not_false,Int.reduceEq,Bool.true_and,Bool.and_true,Bool.and_false,Bool.false_and,show ((false:Bool)==true)=false from rfl,show ((true:Bool)==false)=false from rfl,show ((false:Bool)==false)=true from rfl,show ((true:Bool)==true)=true from rfl]
   try rw[ai (by unfold lim;simp;omega)]
   refine⟨_,_,rfl,?_⟩
   simp
 by_cases e4:p.1=(4:Int)
 ·rw[fR (.inr (.inl e4))]
  unfold M.cV
  simp only[e4,decide_true,decide_false,cond_true,cond_false,Bool.not_true,Bool.not_false,Int.reduceEq,Bool.true_and,Bool.and_true,Bool.and_false,Bool.false_and,show ((false:Bool)==true)=false from rfl,show ((true:Bool)==false)=false from rfl,show ((false:Bool)==false)=true from rfl,show ((true:Bool)==true)=true from rfl]
  by_cases hl:2<=st.length
  ·have hd:=oU (t:=.int .i64) (st:=st) hl
   rw[show (2:Int).toNat=2 from rfl,hd,decide_eq_true (show (1:Int)<(st.length:Int) by omega),decide_eq_true (show (2:Int)<=(st.length:Int) by omega),Ci (by omega)]
   simp only[decide_true,decide_false,cond_true,cond_false,Bool.not_true,Bool.not_false,Int.reduceEq,Bool.true_and,Bool.and_true,Bool.and_false,Bool.false_and,show ((false:Bool)==true)=false from rfl,show ((true:Bool)==false)=false from rfl,show ((false:Bool)==false)=true from rfl,show ((true:Bool)==true)=true from rfl]
   have n2:((st.length:Int)-2).toNat=st.length-2:=by omega
   rw[n2]
   repeat rw[ai (by first | omega | (unfold lim;simp;omega))]
   rw[show nth (t:=.int .i64) [nth (t:=.int .i64) st ((st.length:Int)-2),nth (t:=.int .i64) st ((st.length:Int)-1)] 0=nth (t:=.int .i64) st ((st.length:Int)-2) from rfl,show nth (t:=.int .i64) [nth (t:=.int .i64) st ((st.length:Int)-2),nth (t:=.int .i64) st ((st.length:Int)-1)] 1=nth (t:=.int .i64) st ((st.length:Int)-1) from rfl]
   by_cases hab:nth (t:=.int .i64) st ((st.length:Int)-1)=nth (t:=.int .i64) st ((st.length:Int)-2)
   ·rw[decide_eq_true hab,decide_eq_true hab.symm]
    simp only[decide_true,decide_false,cond_true,cond_false,Bool.not_true,Bool.not_false,Int.reduceEq,Bool.true_and,Bool.and_true,Bool.and_false,Bool.false_and,show ((false:Bool)==true)=false from rfl,show ((true:Bool)==false)=false from rfl,show ((false:Bool)==false)=true from rfl,show ((true:Bool)==true)=true from rfl]
    repeat rw[ai (by first | omega | (unfold lim;simp;omega))]
    refine⟨_,_,rfl,?_⟩
    cases M.inR p.2.1 1 4<;>simp
   ·rw[decide_eq_false hab,decide_eq_false (fun e=>hab e.symm)]
    simp only[decide_true,decide_false,cond_true,cond_false,Bool.not_true,Bool.not_false,Int.reduceEq,Bool.true_and,Bool.and_true,Bool.and_false,Bool.false_and,show ((false:Bool)==true)=false from rfl,show ((true:Bool)==false)=false from rfl,show ((false:Bool)==false)=true from rfl,show ((true:Bool)==true)=true from rfl]
    repeat rw[ai (by first | omega | (unfold lim;simp;omega))]
    refine⟨_,_,rfl,?_⟩
    cases M.inR p.2.1 1 4<;>simp
  ·rw[decide_eq_false (show ¬(1:Int)<(st.length:Int) by omega),decide_eq_false (show ¬(2:Int)<=(st.length:Int) by omega),Ch (by omega)]
   simp only[decide_true,decide_false,cond_true,cond_false,Bool.not_true,Bool.not_false,Int.reduceEq,Bool.true_and,Bool.and_true,Bool.and_false,Bool.false_and,show ((false:Bool)==true)=false from rfl,show ((true:Bool)==false)=false from rfl,show ((false:Bool)==false)=true from rfl,show ((true:Bool)==true)=true from rfl]
   repeat rw[ai (by first | omega | (unfold lim;simp))]
   exact⟨_,_,rfl,rfl⟩
 simp only[e2,e4,decide_true,decide_false,cond_true,cond_false,Bool.not_true,Bool.not_false,Int.reduceEq,Bool.true_and,Bool.and_true,Bool.and_false,Bool.false_and,show ((false:Bool)==true)=false from rfl,show ((true:Bool)==false)=false from rfl,show ((false:Bool)==false)=true from rfl,show ((true:Bool)==true)=true from rfl]
 cases hn:decide (p.2.1=(0:Int)) with
 | false=>
  simp only[decide_true,decide_false,cond_true,cond_false,Bool.not_true,Bool.not_false,Int.reduceEq,Bool.true_and,Bool.and_true,Bool.and_false,Bool.false_and,show ((false:Bool)==true)=false from rfl,show ((true:Bool)==false)=false from rfl,show ((false:Bool)==false)=true from rfl,show ((true:Bool)==true)=true from rfl]
  refine⟨_,_,rfl,?_⟩
  cases M.inR p.1 3 8<;>rfl
 | true=>
 simp only[decide_true,decide_false,cond_true,cond_false,Bool.not_true,Bool.not_false,Int.reduceEq,Bool.true_and,Bool.and_true,Bool.and_false,Bool.false_and,show ((false:Bool)==true)=false from rfl,show ((true:Bool)==false)=false from rfl,show ((false:Bool)==false)=true from rfl,show ((true:Bool)==true)=true from rfl]
 by_cases e3:p.1=(3:Int)
 ·simp only[e3,decide_true,decide_false,cond_true,cond_false,Bool.not_true,Bool.not_false,Int.reduceEq,Bool.true_and,Bool.and_true,Bool.and_false,Bool.false_and,show ((false:Bool)==true)=false from rfl,show ((true:Bool)==false)=false from rfl,show ((false:Bool)==false)=true from rfl,show ((true:Bool)==true)=true from rfl]
  have h:=Es (columns:=columns) (st:=st) (p:=p) 1 1 (.inl e3) hst (by unfold M.cV;simp only[e3,decide_true,decide_false,cond_true,cond_false,Bool.not_true,Bool.not_false,Int.reduceEq,Bool.true_and,Bool.and_true,Bool.and_false,Bool.false_and,show ((false:Bool)==true)=false from rfl,show ((true:Bool)==false)=false from rfl,show ((false:Bool)==false)=true from rfl,show ((true:Bool)==true)=true from rfl]) (by rw[e3];rfl)
  simp only[e3,show M.inR 3 3 8=true from rfl,Bool.true_and] at h ⊢
  exact h
 by_cases e5:p.1=(5:Int)
 ·simp only[e5,decide_true,decide_false,cond_true,cond_false,Bool.not_true,Bool.not_false,Int.reduceEq,Bool.true_and,Bool.and_true,Bool.and_false,Bool.false_and,show ((false:Bool)==true)=false from rfl,show ((true:Bool)==false)=false from rfl,show ((false:Bool)==false)=true from rfl,show ((true:Bool)==true)=true from rfl]
  have h:=Es (columns:=columns) (st:=st) (p:=p) 3 3 (.inr (.inl e5)) hst (by unfold M.cV;simp only[e5,decide_true,decide_false,cond_true,cond_false,Bool.not_true,Bool.not_false,Int.reduceEq,Bool.true_and,Bool.and_true,Bool.and_false,Bool.false_and,show ((false:Bool)==true)=false from rfl,show ((true:Bool)==false)=false from rfl,show ((false:Bool)==false)=true from rfl,show ((true:Bool)==true)=true from rfl]) (by rw[e5];rfl)
  simp only[e5,show M.inR 5 3 8=true from rfl,Bool.true_and] at h ⊢
  exact h
 by_cases e6:p.1=(6:Int)
 ·simp only[e6,decide_true,decide_false,cond_true,cond_false,Bool.not_true,Bool.not_false,Int.reduceEq,Bool.true_and,Bool.and_true,Bool.and_false,Bool.false_and,show ((false:Bool)==true)=false from rfl,show ((true:Bool)==false)=false from rfl,show ((false:Bool)==false)=true from rfl,show ((true:Bool)==true)=true from rfl]
  have h:=Es (columns:=columns) (st:=st) (p:=p) 3 3 (.inr (.inr e6)) hst (by unfold M.cV;simp only[e6,decide_true,decide_false,cond_true,cond_false,Bool.not_true,Bool.not_false,Int.reduceEq,Bool.true_and,Bool.and_true,Bool.and_false,Bool.false_and,show ((false:Bool)==true)=false from rfl,show ((true:Bool)==false)=false from rfl,show ((false:Bool)==false)=true from rfl,show ((true:Bool)==true)=true from rfl]) (by rw[e6];rfl)
  simp only[e6,show M.inR 6 3 8=true from rfl,Bool.true_and] at h ⊢
  exact h
 by_cases e7:p.1=(7:Int)
 ·rw[mH (.inl e7)]
  unfold M.cV
  simp only[e7,decide_true,decide_false,cond_true,cond_false,Bool.not_true,Bool.not_false,Int.reduceEq,Bool.true_and,Bool.and_true,Bool.and_false,Bool.false_and,show ((false:Bool)==true)=false from rfl,show ((true:Bool)==false)=false from rfl,show ((false:Bool)==false)=true from rfl,show ((true:Bool)==true)=true from rfl,show (1:Int).toNat=1 from rfl,show M.inR 7 3 8=true from rfl]
  by_cases hl:1<=st.length
  ·have hd:=vg (t:=.int .i64) (st:=st) hl
   have hp:=Ir (t:=.int .i64) (st:=st) hl
   rw[hd,decide_eq_true (show (0:Int)<(st.length:Int) by omega),decide_eq_true (show (1:Int)<=(st.length:Int) by omega)]
   simp only[decide_true,decide_false,cond_true,cond_false,Bool.not_true,Bool.not_false,Int.reduceEq,Bool.true_and,Bool.and_true,Bool.and_false,Bool.false_and,show ((false:Bool)==true)=false from rfl,show ((true:Bool)==false)=false from rfl,show ((false:Bool)==false)=true from rfl,show ((true:Bool)==true)=true from rfl]
   repeat rw[ai (by first | omega | (unfold lim;simp;omega))]
   refine⟨_,_,rfl,?_⟩
   have key:∀(y:Int),([y].all fun x=>decide (x=3))=decide (y=3):=fun y=>by simp
   rw[key]
   by_cases h3:nth (t:=.int .i64) st ((st.length:Int)-1)=3
   ·rw[decide_eq_true h3]
    rw[h3] at hp
    exact⟨rfl,hp.symm⟩
   ·rw[decide_eq_false h3]
    rfl
  ·rw[decide_eq_false (show ¬(0:Int)<(st.length:Int) by omega),decide_eq_false (show ¬(1:Int)<=(st.length:Int) by omega)]
   exact⟨_,_,rfl,rfl⟩
 by_cases e8:p.1=(8:Int)
 ·rw[mH (.inr e8)]
  unfold M.cV
  simp only[e8,decide_true,decide_false,cond_true,cond_false,Bool.not_true,Bool.not_false,Int.reduceEq,Bool.true_and,Bool.and_true,Bool.and_false,Bool.false_and,show ((false:Bool)==true)=false from rfl,show ((true:Bool)==false)=false from rfl,show ((false:Bool)==false)=true from rfl,show ((true:Bool)==true)=true from rfl,show (1:Int).toNat=1 from rfl,show M.inR 8 3 8=true from rfl]
  by_cases hl:1<=st.length
  ·have n1:((st.length:Int)-1).toNat=st.length-1:=by omega
   rw[decide_eq_true (show (0:Int)<(st.length:Int) by omega),decide_eq_true (show (1:Int)<=(st.length:Int) by omega),Ci (by omega),n1]
   repeat rw[ai (by first | omega | (unfold lim;simp;omega))]
   exact⟨_,_,rfl,rfl,rfl⟩
  ·rw[decide_eq_false (show ¬(0:Int)<(st.length:Int) by omega),decide_eq_false (show ¬(1:Int)<=(st.length:Int) by omega),Ch (by omega)]
   repeat rw[ai (by first | omega | (unfold lim;simp))]
   exact⟨_,_,rfl,rfl⟩
 simp only[e3,e5,e6,e7,e8,decide_true,decide_false,cond_true,cond_false,Bool.not_true,Bool.not_false,Int.reduceEq,Bool.true_and,Bool.and_true,Bool.and_false,Bool.false_and,show ((false:Bool)==true)=false from rfl,show ((true:Bool)==false)=false from rfl,show ((false:Bool)==false)=true from rfl,show ((true:Bool)==true)=true from rfl,FB e3 e4 e5 e6 e7 e8]
 exact⟨_,_,rfl,rfl⟩
theorem zz {columns:List ax.D} {E:List aE.D} {st:List Int} {k:Int} (h0:0<=k) (h1:k<(E.length:Int)) (hst:st.length<=1000) (hcl:columns.length<=1048576) :
  ∃o s,F.di columns E (true,k,st)=some (.inl (o,wrap64 (k+1),s))/\oz (M.fU columns st (nth (t:=aE) E k)) o s:=by
 obtain⟨o,s,e,h⟩:=vM (columns:=columns) (nth (t:=aE) E k) hst hcl
 refine⟨o,s,?_,h⟩
 unfold F.di
 simp only
 rw[decide_eq_true h1]
 simp only[show ((true:Bool)==true)=true from rfl,cond_true]
 rw[ai h0,ai h1,ai (show Sm (.sl (.int .i64)) st from⟨by omega,fun _ _=>trivial⟩),ai hst]
 simp only[bW,M.wX,e]
 rfl
theorem AH {columns:List ax.D} {E:List aE.D} (hE:(E.length:Int)<=1000) (hcl:columns.length<=1048576):∀(n:Nat) (k:Nat) (st:List Int),n=E.length-k->k<=E.length->st.length+n<=1000 →
  ∃o s,bL (F.di columns E) (true,(k:Int),st)=some (o,s)/\oz (M.jS columns (E.drop k) st) o s:=by
 intro n
 induction n with
 | zero=>
  intro k st hn hk hl
  have hkE:k=E.length:=by omega
  refine⟨true,st,?_,?_⟩
  ·rw[bQ]
   unfold F.di
   simp only
   rw[decide_eq_false (show ¬(k:Int)<(E.length:Int) by omega)]
   rfl
  ·rw[List.drop_eq_nil_of_le (by omega)]
   exact⟨rfl,rfl⟩
 | succ n ih=>
  intro k st hn hk hl
  have hlt:k<E.length:=by omega
  obtain⟨o,s,h1,h2⟩:=zz (columns:=columns) (E:=E) (st:=st) (k:=(k:Int)) (by omega) (by omega) (by omega) hcl
  rw[aO (n:=(k:Int)+1) (by omega) (by omega)] at h1
  have hd:E.drop k=nth (t:=aE) E (k:Int)::E.drop (k+1):=by
   have:=we (t:=aE) (xs:=E) (i:=(k:Int)) (by omega) (by omega)
   simpa using this
  rw[hd,bQ,h1,bO]
  unfold M.jS
  unfold oz at h2
  cases hk2:M.fU columns st (nth (t:=aE) E (k:Int)) with
  | none=>
   rw[hk2] at h2
   simp only at h2
   subst h2
   refine⟨false,s,?_,rfl⟩
   rw[bQ]
   unfold F.di
   simp only
   cases decide ((k:Int)+1<(E.length:Int))<;>rfl
  | some s'=>
   rw[hk2] at h2
   obtain⟨rfl,rfl⟩:=h2
   have:=vQ hk2
   exact ih (k+1) s (by omega) (by omega) (by omega)
end Go.AE
