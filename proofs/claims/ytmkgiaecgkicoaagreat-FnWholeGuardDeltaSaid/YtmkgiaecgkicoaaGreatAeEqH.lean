/- Loops over the parts of an expression. -/
import Derived.Test.YtmkgiaecgkicoaaGreatAeF
import Derived.Test.YtmkgiaecgkicoaaGreatAeMM
namespace Go.AE
open Go Go.RowKit
set_option linter.unusedSimpArgs false
set_option linter.unusedVariables false
theorem Dr (p:aD.D):M.takes p=0\/M.takes p=1\/M.takes p=2:=by
 unfold M.takes
 generalize (decide (p.1=(3:Int))||decide (p.1=(4:Int))||decide (p.1=(5:Int))||decide (p.1=(6:Int)))=a
 generalize (decide (p.1=(7:Int))||decide (p.1=(8:Int)))=b
 cases a<;>cases b<;>simp
theorem vB (p:aD.D):0<=M.takes p/\M.takes p<=2:=by rcases Dr p with h | h | h<;>omega
theorem kD {p:aD.D} (h:p.1=(3:Int)\/p.1=(4:Int)\/p.1=(5:Int)\/p.1=(6:Int)):M.takes p=2:=by
 unfold M.takes
 rcases h with h | h | h | h<;>simp[h]
theorem sK {p:aD.D} (h:p.1=(7:Int)\/p.1=(8:Int)):M.takes p=1:=by
 unfold M.takes
 rcases h with h | h<;>simp[h]
theorem za {p:aD.D} (h:p.1=(1:Int)\/p.1=(2:Int)):M.takes p=0:=by
 unfold M.takes
 rcases h with h | h<;>simp[h]
theorem Ee {α:Type} (xs:List α) {k:Int} (h0:0<=k) (h1:k<=(xs.length:Int)):aj xs (some (k,(xs.length:Int)))=xs.drop k.toNat:=by
 unfold aj
 apply List.take_of_length_le
 rw[List.length_drop]
 omega
theorem DE {n:Nat} {k:Int} (hn:n<=1048576) (h0:0<=k) (h2:k<=2):wrap64 ((n:Int)-k)=(n:Int)-k:=aF (by omega) (by omega)
theorem Dm {t:Ty} {st:List t.D} (h:2<=st.length):st.drop (st.length-2)=[@nth t st ((st.length:Int)-2),@nth t st ((st.length:Int)-1)]:=by
 have e1:((st.length:Int)-2).toNat=st.length-2:=by omega
 have e2:((st.length:Int)-1).toNat=st.length-1:=by omega
 rw[List.drop_eq_getElem_cons (by omega),show st.length-2+1=st.length-1 by omega,List.drop_eq_getElem_cons (by omega),List.drop_eq_nil_of_le (by omega)]
 rw[qI (by omega) (by omega),qI (by omega) (by omega)]
 simp only[e1,e2]
theorem Et {t:Ty} {st:List t.D} (h:1<=st.length):st.drop (st.length-1)=[@nth t st ((st.length:Int)-1)]:=by
 have e2:((st.length:Int)-1).toNat=st.length-1:=by omega
 rw[List.drop_eq_getElem_cons (by omega),List.drop_eq_nil_of_le (by omega)]
 rw[qI (by omega) (by omega)]
 simp only[e2]
theorem IG {t:Ty} {st:List t.D} (h:1<=st.length):st.take (st.length-1)++[@nth t st ((st.length:Int)-1)]=st:=by
 rw[<-Et h,List.take_append_drop]
theorem Gp {k:Int} (h1:¬k=3) (h2:¬k=4) (h3:¬k=5) (h4:¬k=6) (h5:¬k=7) (h6:¬k=8):M.inR k 3 8=false:=by
 unfold M.inR
 simp
 omega
theorem uC {LJ:List ag.D} {st st':List Int} {p:aD.D} (h:M.fU LJ st p=some st'):st'.length<=st.length+1:=by
 unfold M.fU at h
 cases hc:(M.mg p LJ&&(decide (M.takes p<=(st.length:Int))&&(M.dh p LJ (st.drop (st.length-(M.takes p).toNat))).2)) with
 | false=>rw[hc] at h;cases h
 | true=>
  rw[hc] at h
  simp only[cond_true,Option.some.injEq] at h
  subst h
  simp
theorem Aw {LJ:List ag.D} {e:List aD.D} {p:aD.D} {st:List Int} (hst:st.length<=1000) :
  F.fc LJ e p st=some (match M.fU LJ st p with | some s=>.inl s | none=>.inr ()):=by
 obtain⟨t0,t2⟩:=vB p
 unfold F.fc M.fU
 cases ht:M.mg p LJ with
 | false=>rfl
 | true=>
 by_cases hl:M.takes p<=(st.length:Int)
 ·have h2:¬(st.length:Int)<M.takes p:=by omega
  have hw:=DE (n:=st.length) (k:=M.takes p) (by omega) t0 t2
  have hc:=Ee st (k:=(st.length:Int)-M.takes p) (by omega) (by omega)
  have hn:((st.length:Int)-M.takes p).toNat=st.length-(M.takes p).toNat:=by omega
  rw[hn] at hc
  rw[hw,hc]
  simp only[Bool.not_true,Bool.true_and,h2,hl,decide_false,decide_true,cond_true,cond_false]
  rw[show ((false:Bool)==false)=true from rfl]
  simp only[cond_true]
  have hsm:Sm (.sl (.int .i64)) (st.drop (st.length-(M.takes p).toNat)):=⟨by rw[List.length_drop];omega,fun _ _=>trivial⟩
  rw[aq (p:=Sm (.sl (.int .i64)) (st.drop (st.length-(M.takes p).toNat))) hsm]
  repeat rw[aq (by first | omega | (rw[List.length_drop];omega))]
  simp only[bX]
  cases (M.dh p LJ (st.drop (st.length-(M.takes p).toNat))).2 with
  | false=>rfl
  | true=>
   simp only[Bool.not_true,cond_false]
   repeat rw[aq (by first | omega | (unfold lim;simp;omega))]
   rw[hn]
   rfl
 ·have h2:(st.length:Int)<M.takes p:=by omega
  simp[h2,hl]
theorem tj {LJ:List ag.D} {E:List aD.D} {τ:Type} {A:List Int->Option τ} {B:Unit->Option τ}:∀(e:List aD.D) (st:List Int),st.length+e.length<=1000 →
  bH (aU (F.fc LJ E) e st) A B=match M.jX LJ e st with | some s=>A s | none=>B ()
 | [],st,_=>rfl
 | p::e,st,h=>by
  have h:st.length+(e.length+1)<=1000:=h
  rw[ck,Aw (by omega),M.jX]
  cases hk:M.fU LJ st p with
  | none=>rfl
  | some s=>
   have:=uC hk
   exact tj e s (by omega)
theorem De:Sm af M.zeroV:=⟨trivial,trivial,Nat.zero_le _,trivial⟩
theorem nB (n:Int):Sm af (M.valueOf n):=by
 unfold M.valueOf
 cases M.inR n 0 1
 ·exact De
 ·exact⟨trivial,trivial,Nat.zero_le _,trivial⟩
theorem KB (a b:af.D):Sm af (M.sum a b):=by
 unfold M.sum
 generalize (decide (a.1=(0:Int))||decide (b.1=(0:Int))||!M.inR (wrap64 (a.2.1+b.2.1)) (-9999) 9999)=c
 cases c
 ·exact⟨trivial,trivial,Nat.zero_le _,trivial⟩
 ·exact De
theorem CB {p:aD.D} {row l:List af.D} (hp:Sm aD p) (hr:Sm (.sl af) row):Sm af (M.jF p row l):=by
 unfold M.jF
 refine qk hp.2.2.1 (qk (aO hr _) (qk (KB _ _) (qk (nB _) (qk (nB _) (qk (nB _) (qk (nB _) (nB _)))))))
theorem xP {row:List af.D} {st:List af.D} {p:aD.D} (h:M.takes p<=(st.length:Int)):(M.jo row st p).length=st.length-(M.takes p).toNat+1:=by
 unfold M.jo
 simp
theorem EO {row:List af.D} {st:List af.D} {p:aD.D} (hp:Sm aD p) (hr:Sm (.sl af) row) (hs:Sm (.sl af) st) (hl:st.length<=1000):Sm (.sl af) (M.jo row st p):=by
 unfold M.jo
 refine⟨by simp;omega,fun x hx=>?_⟩
 rcases List.mem_append.1 hx with hx | hx
 ·exact hs.2 x (List.mem_of_mem_take hx)
 ·rw[List.mem_singleton.1 hx]
  exact CB hp hr
theorem Ei {row:List af.D} {f:aD.D->List af.D->Option (Sum (List af.D) Unit)} (hr:Sm (.sl af) row)
  (hf:∀p st,Sm aD p->Sm (.sl af) st->st.length<=1000->M.takes p<=(st.length:Int)->(1<=p.1/\p.1<=8)->M.xG p row.length->f p st=some (.inl (M.jo row st p))) :
  ∀(e:List aD.D) (st:List af.D),(∀p∈e,Sm aD p)->Sm (.sl af) st->st.length+e.length<=1000->M.yS row.length e st.length →
   aU f e st=some (.inl (e.foldl (M.jo row) st))/\0<(e.foldl (M.jo row) st).length
 | [],st,_,_,_,h=>⟨rfl,h⟩
 | p::e,st,he,hs,hl,h=>by
  obtain⟨h1,h2,h3,h4⟩:=h
  have hl:st.length+(e.length+1)<=1000:=hl
  have hlen:=xP (row:=row) h1
  have hp:=he p (List.mem_cons_self ..)
  rw[ck,hf p st hp hs (by omega) h1 h2 h3,bE,List.foldl_cons]
  exact Ei hr hf e _ (fun q hq=>he q (List.mem_cons_of_mem _ hq)) (EO hp hr hs (by omega)) (by omega) (by rw[hlen];exact h4)
theorem Ju {k:Int} (h:1<=k/\k<=8):k=1\/k=2\/k=3\/k=4\/k=5\/k=6\/k=7\/k=8:=by omega
theorem zq {p:aD.D} {LJ:List ag.D} (h:M.mg p LJ=true):(1<=p.1/\p.1<=8)/\M.xG p LJ.length:=by
 unfold M.mg at h
 by_cases h1:p.1=(1:Int)
 ·exact⟨by rw[h1];decide,fun e=>by rw[h1] at e;cases e⟩
 by_cases h2:p.1=(2:Int)
 ·simp only[h2,show decide ((2:Int)=1)=false from rfl,cond_false,decide_true,cond_true,Bool.and_eq_true] at h
  refine⟨by rw[h2];decide,fun _=>?_⟩
  have:=h.1
  unfold M.inR at this
  simp only[Bool.and_eq_true,decide_eq_true_eq] at this
  exact⟨this.1,Int.lt_of_le_sub_one this.2⟩
 by_cases h4:p.1=(4:Int)
 ·exact⟨by rw[h4];decide,fun e=>by rw[h4] at e;cases e⟩
 simp only[h1,h2,h4,decide_false,cond_false] at h
 cases hr:M.inR p.1 3 8 with
 | false=>rw[hr] at h;cases h
 | true=>
  unfold M.inR at hr
  simp only[Bool.and_eq_true,decide_eq_true_eq] at hr
  refine⟨⟨Int.le_trans (by decide) hr.1,hr.2⟩,fun e=>absurd e h2⟩
theorem AK {LJ:List ag.D} {st st':List Int} {p:aD.D} (h:M.fU LJ st p=some st'):M.mg p LJ=true/\M.takes p<=(st.length:Int)/\st'.length=st.length-(M.takes p).toNat+1:=by
 unfold M.fU at h
 cases hc:(M.mg p LJ&&(decide (M.takes p<=(st.length:Int))&&(M.dh p LJ (st.drop (st.length-(M.takes p).toNat))).2)) with
 | false=>rw[hc] at h;cases h
 | true=>
  rw[hc] at h
  simp only[cond_true,Option.some.injEq] at h
  simp only[Bool.and_eq_true,decide_eq_true_eq] at hc
  refine⟨hc.1,hc.2.1,?_⟩
  subst h
  simp
theorem Ao {LJ:List ag.D}:∀(e:List aD.D) (st st':List Int),M.jX LJ e st=some st'->0<st'.length->M.yS LJ.length e st.length
 | [],st,st',h,hl=>by
  unfold M.jX at h
  cases h
  exact hl
 | p::e,st,st',h,hl=>by
  unfold M.jX at h
  cases hk:M.fU LJ st p with
  | none=>rw[hk] at h;cases h
  | some s=>
   rw[hk] at h
   obtain⟨h1,h2,h3⟩:=AK hk
   obtain⟨h4,h5⟩:=zq h1
   refine⟨h2,h4,h5,?_⟩
   rw[<-h3]
   exact Ao e s st' h hl
theorem wV {LJ:List ag.D} {e:List aD.D} (h:0<=M.bR LJ e):M.fG LJ.length e:=by
 unfold M.bR at h
 cases hc:(M.cm LJ&&decide (e.length<=12)) with
 | false=>rw[hc] at h;simp only[cond_false] at h;exact absurd h (by decide)
 | true=>
  rw[hc] at h
  simp only[Bool.and_eq_true,decide_eq_true_eq] at hc
  refine⟨hc.2,?_⟩
  simp only[cond_true] at h
  unfold M.oneOf at h
  split at h
  ·rename_i k hk
   exact Ao e [] [k] hk (by simp)
  ·exact absurd h (by decide)
theorem Cn {a:Int} (h:0<=a):bL a 0=a:=by unfold bL;split<;>omega
theorem Cm {a:Int} (h:a<0):bL a 0=0:=by unfold bL;split<;>omega
def oI (o:Option (List Int)) (b:Bool) (s:List Int):Prop:=match o with
 | some s'=>b=true/\s=s'
 | none=>b=false
noncomputable def Lr (st:List Int) (c d:Int):Option (List Int×Bool):=
 cond (decide ((1:Int)<(st.length:Int))==true) (aa (0<=(st.length:Int)-1) (aa ((st.length:Int)-1<(st.length:Int)) (cond (decide (nth (t:=.int .i64) st ((st.length:Int)-1)=c)==true) (aa (0<=(st.length:Int)-2) (aa ((st.length:Int)-2<(st.length:Int)) (aa (0<=bL ((st.length:Int)-2) 0) (aa (bL ((st.length:Int)-2) 0<=(st.length:Int)) (aa (((bL ((st.length:Int)-2) 0).toNat+[d].length) * 8<=lim) (some (st.take (bL ((st.length:Int)-2) 0).toNat++[d],decide (nth (t:=.int .i64) st ((st.length:Int)-2)=c)))))))) (aa (0<=bL ((st.length:Int)-2) 0) (aa (bL ((st.length:Int)-2) 0<=(st.length:Int)) (aa (((bL ((st.length:Int)-2) 0).toNat+[d].length) * 8<=lim) (some (st.take (bL ((st.length:Int)-2) 0).toNat++[d],false)))))))) (aa (0<=bL ((st.length:Int)-2) 0) (aa (bL ((st.length:Int)-2) 0<=(st.length:Int)) (aa (((bL ((st.length:Int)-2) 0).toNat+[d].length) * 8<=lim) (some (st.take (bL ((st.length:Int)-2) 0).toNat++[d],false)))))
theorem Fh {LJ:List ag.D} {st:List Int} {p:aD.D} (c d:Int) (hk:p.1=(3:Int)\/p.1=(5:Int)\/p.1=(6:Int)) (hst:st.length<=1000)
  (hpk:(M.dh p LJ (st.drop (st.length-2)))=(d,(st.drop (st.length-2)).all fun x=>decide (x=c))) (hr:M.inR p.1 3 8=true) :
  ∃o s,Lr st c d=some (s,o) ∧
   oI (cond (M.inR p.1 3 8&&(decide (M.takes p<=(st.length:Int))&&(M.dh p LJ (st.drop (st.length-(M.takes p).toNat))).2)) (some (st.take (st.length-(M.takes p).toNat)++[(M.dh p LJ (st.drop (st.length-(M.takes p).toNat))).1])) none) o s:=by
 rw[kD (by rcases hk with h | h | h<;>simp[h]),show (2:Int).toNat=2 from rfl,hpk,hr]
 unfold Lr
 by_cases hl:2<=st.length
 ·have hd:=Dm (t:=.int .i64) (st:=st) hl
  have n2:((st.length:Int)-2).toNat=st.length-2:=by omega
  rw[hd,decide_eq_true (show (1:Int)<(st.length:Int) by omega),decide_eq_true (show (2:Int)<=(st.length:Int) by omega),Cn (by omega),n2]
  simp only[decide_true,decide_false,cond_true,cond_false,Bool.not_true,Bool.not_false,Int.reduceEq,Bool.true_and,Bool.and_true,Bool.and_false,Bool.false_and,show ((false:Bool)==true)=false from rfl,show ((true:Bool)==false)=false from rfl,show ((false:Bool)==false)=true from rfl,show ((true:Bool)==true)=true from rfl]
  repeat rw[aq (by first | omega | (unfold lim;simp;omega))]
  generalize nth (t:=.int .i64) st ((st.length:Int)-1)=y
  generalize nth (t:=.int .i64) st ((st.length:Int)-2)=z
  have key:∀(y z:Int),([z,y].all fun x=>decide (x=c))=(decide (z=c)&&decide (y=c)):=fun y z=>by simp
  rw[key]
  cases decide (y=c)
  ·simp only[decide_true,decide_false,cond_true,cond_false,Bool.not_true,Bool.not_false,Int.reduceEq,Bool.true_and,Bool.and_true,Bool.and_false,Bool.false_and,show ((false:Bool)==true)=false from rfl,show ((true:Bool)==false)=false from rfl,show ((false:Bool)==false)=true from rfl,show ((true:Bool)==true)=true from rfl]
   repeat rw[aq (by first | omega | (unfold lim;simp;omega))]
   exact⟨_,_,rfl,by simp[oI]⟩
  ·simp only[decide_true,decide_false,cond_true,cond_false,Bool.not_true,Bool.not_false,Int.reduceEq,Bool.true_and,Bool.and_true,Bool.and_false,Bool.false_and,show ((false:Bool)==true)=false from rfl,show ((true:Bool)==false)=false from rfl,show ((false:Bool)==false)=true from rfl,show ((true:Bool)==true)=true from rfl]
   repeat rw[aq (by first | omega | (unfold lim;simp;omega))]
   refine⟨_,_,rfl,?_⟩
   cases decide (z=c)<;>simp[oI]
 ·rw[decide_eq_false (show ¬(1:Int)<(st.length:Int) by omega),decide_eq_false (show ¬(2:Int)<=(st.length:Int) by omega),Cm (by omega)]
  simp only[decide_true,decide_false,cond_true,cond_false,Bool.not_true,Bool.not_false,Int.reduceEq,Bool.true_and,Bool.and_true,Bool.and_false,Bool.false_and,show ((false:Bool)==true)=false from rfl,show ((true:Bool)==false)=false from rfl,show ((false:Bool)==false)=true from rfl,show ((true:Bool)==true)=true from rfl]
  repeat rw[aq (by first | omega | (unfold lim;simp))]
  exact⟨_,_,rfl,by simp[oI]⟩
theorem vl {LJ:List ag.D} {st:List Int} (p:aD.D) (hst:st.length<=1000) (hcl:LJ.length<=1048576) :
  ∃o s,F.lD LJ st p=some (s,o)/\oI (M.fU LJ st p) o s:=by
 have w1:wrap64 ((st.length:Int)-1)=(st.length:Int)-1:=aF (by omega) (by omega)
 have w2:wrap64 ((st.length:Int)-2)=(st.length:Int)-2:=aF (by omega) (by omega)
 have wc:=gI _ hcl
 unfold F.lD
 rw[w1,w2,wc]
 unfold oI M.fU M.mg M.noV
 by_cases e1:p.1=(1:Int)
 ·rw[za (.inl e1)]
  unfold M.dh
  simp only[e1,decide_true,decide_false,cond_true,cond_false,Bool.not_true,Bool.not_false,Int.reduceEq,show ((false:Bool)==true)=false from rfl,show ((true:Bool)==false)=false from rfl,show ((false:Bool)==false)=true from rfl,show ((true:Bool)==true)=true from rfl,Bool.true_and,Bool.and_true]
  cases hn:decide (p.2.1=(0:Int))<;>cases hv:M.aY p.2.2.1<;>cases hk:decide (p.2.2.1.1=(0:Int))<;>simp[hn,hv,hk]
  try rw[aq (by unfold lim;omega)]
 rw[show Ty.beq af p.2.2.1 ((0:Int),(0:Int),(⟨#[]⟩:ByteArray),())=Ty.beq af p.2.2.1 M.zeroV from rfl]
 cases hnv:Ty.beq af p.2.2.1 M.zeroV with
 | false=>
  simp only[e1,decide_true,decide_false,cond_true,cond_false,Bool.not_true,Bool.not_false,Int.reduceEq,Bool.true_and,Bool.and_true,Bool.and_false,Bool.false_and,show ((false:Bool)==true)=false from rfl,show ((true:Bool)==false)=false from rfl,show ((false:Bool)==false)=true from rfl,show ((true:Bool)==true)=true from rfl]
  refine⟨_,_,rfl,?_⟩
  cases decide (p.1=(2:Int))<;>cases decide (p.1=(4:Int))<;>cases M.inR p.1 3 8<;>rfl
 | true=>
 simp only[e1,decide_true,decide_false,cond_true,cond_false,Bool.not_true,Bool.not_false,Int.reduceEq,Bool.true_and,Bool.and_true,Bool.and_false,Bool.false_and,show ((false:Bool)==true)=false from rfl,show ((true:Bool)==false)=false from rfl,show ((false:Bool)==false)=true from rfl,show ((true:Bool)==true)=true from rfl]
 by_cases e2:p.1=(2:Int)
 ·rw[za (.inr e2)]
  unfold M.dh
  simp only[e2,decide_true,decide_false,cond_true,cond_false,Bool.not_true,Bool.not_false,Int.reduceEq,Bool.true_and,Bool.and_true,Bool.and_false,Bool.false_and,show ((false:Bool)==true)=false from rfl,show ((true:Bool)==false)=false from rfl,show ((false:Bool)==false)=true from rfl,show ((true:Bool)==true)=true from rfl]
  cases hr:M.inR p.2.1 0 ((LJ.length:Int)-1)
  ·exact⟨_,_,rfl,rfl⟩
  ·simp only[decide_true,decide_false,cond_true,cond_false,Bool.not_true,Bool.not_false,Int.reduceEq,Bool.true_and,Bool.and_true,Bool.and_false,Bool.false_and,show ((false:Bool)==true)=false from rfl,show ((true:Bool)==false)=false from rfl,show ((false:Bool)==false)=true from rfl,show ((true:Bool)==true)=true from rfl]
   try rw[aq (by unfold lim;simp;omega)]
   refine⟨_,_,rfl,?_⟩
   simp
 by_cases e4:p.1=(4:Int)
 ·rw[kD (.inr (.inl e4))]
  unfold M.dh
  simp only[e4,decide_true,decide_false,cond_true,cond_false,Bool.not_true,Bool.not_false,Int.reduceEq,Bool.true_and,Bool.and_true,Bool.and_false,Bool.false_and,show ((false:Bool)==true)=false from rfl,show ((true:Bool)==false)=false from rfl,show ((false:Bool)==false)=true from rfl,show ((true:Bool)==true)=true from rfl]
  by_cases hl:2<=st.length
  ·have hd:=Dm (t:=.int .i64) (st:=st) hl
   rw[show (2:Int).toNat=2 from rfl,hd,decide_eq_true (show (1:Int)<(st.length:Int) by omega),decide_eq_true (show (2:Int)<=(st.length:Int) by omega),Cn (by omega)]
   simp only[decide_true,decide_false,cond_true,cond_false,Bool.not_true,Bool.not_false,Int.reduceEq,Bool.true_and,Bool.and_true,Bool.and_false,Bool.false_and,show ((false:Bool)==true)=false from rfl,show ((true:Bool)==false)=false from rfl,show ((false:Bool)==false)=true from rfl,show ((true:Bool)==true)=true from rfl]
   have n2:((st.length:Int)-2).toNat=st.length-2:=by omega
   rw[n2]
   repeat rw[aq (by first | omega | (unfold lim;simp;omega))]
   rw[show nth (t:=.int .i64) [nth (t:=.int .i64) st ((st.length:Int)-2),nth (t:=.int .i64) st ((st.length:Int)-1)] 0=nth (t:=.int .i64) st ((st.length:Int)-2) from rfl,show nth (t:=.int .i64) [nth (t:=.int .i64) st ((st.length:Int)-2),nth (t:=.int .i64) st ((st.length:Int)-1)] 1=nth (t:=.int .i64) st ((st.length:Int)-1) from rfl]
   by_cases hab:nth (t:=.int .i64) st ((st.length:Int)-1)=nth (t:=.int .i64) st ((st.length:Int)-2)
   ·rw[decide_eq_true hab,decide_eq_true hab.symm]
    simp only[decide_true,decide_false,cond_true,cond_false,Bool.not_true,Bool.not_false,Int.reduceEq,Bool.true_and,Bool.and_true,Bool.and_false,Bool.false_and,show ((false:Bool)==true)=false from rfl,show ((true:Bool)==false)=false from rfl,show ((false:Bool)==false)=true from rfl,show ((true:Bool)==true)=true from rfl]
    repeat rw[aq (by first | omega | (unfold lim;simp;omega))]
    refine⟨_,_,rfl,?_⟩
    cases M.inR p.2.1 1 4<;>simp
   ·rw[decide_eq_false hab,decide_eq_false (fun e=>hab e.symm)]
    simp only[decide_true,decide_false,cond_true,cond_false,Bool.not_true,Bool.not_false,Int.reduceEq,Bool.true_and,Bool.and_true,Bool.and_false,Bool.false_and,show ((false:Bool)==true)=false from rfl,show ((true:Bool)==false)=false from rfl,show ((false:Bool)==false)=true from rfl,show ((true:Bool)==true)=true from rfl]
    repeat rw[aq (by first | omega | (unfold lim;simp;omega))]
    refine⟨_,_,rfl,?_⟩
    cases M.inR p.2.1 1 4<;>simp
  ·rw[decide_eq_false (show ¬(1:Int)<(st.length:Int) by omega),decide_eq_false (show ¬(2:Int)<=(st.length:Int) by omega),Cm (by omega)]
   simp only[decide_true,decide_false,cond_true,cond_false,Bool.not_true,Bool.not_false,Int.reduceEq,Bool.true_and,Bool.and_true,Bool.and_false,Bool.false_and,show ((false:Bool)==true)=false from rfl,show ((true:Bool)==false)=false from rfl,show ((false:Bool)==false)=true from rfl,show ((true:Bool)==true)=true from rfl]
   repeat rw[aq (by first | omega | (unfold lim;simp))]
   exact⟨_,_,rfl,rfl⟩
 simp only[e2,e4,decide_true,decide_false,cond_true,cond_false,Bool.not_true,Bool.not_false,Int.reduceEq,Bool.true_and,Bool.and_true,Bool.and_false,Bool.false_and,show ((false:Bool)==true)=false from rfl,show ((true:Bool)==false)=false from rfl,show ((false:Bool)==false)=true from rfl,show ((true:Bool)==true)=true from rfl]
 cases hn:decide (p.2.1=(0:Int)) with
 | false=>
  simp only[decide_true,decide_false,cond_true,cond_false,Bool.not_true,Bool.not_false,Int.reduceEq,Bool.true_and,Bool.and_true,Bool.and_false,Bool.false_and,show ((false:Bool)==true)=false from rfl,show ((true:Bool)==false)=false from rfl,show ((false:Bool)==false)=true from rfl,show ((true:Bool)==true)=true from rfl]
  refine⟨_,_,rfl,?_⟩
  cases M.inR p.1 3 8<;>rfl
 | true=>
 simp only[decide_true,decide_false,cond_true,cond_false,Bool.not_true,Bool.not_false,Int.reduceEq,Bool.true_and,Bool.and_true,Bool.and_false,Bool.false_and,show ((false:Bool)==true)=false from rfl,show ((true:Bool)==false)=false from rfl,show ((false:Bool)==false)=true from rfl,show ((true:Bool)==true)=true from rfl]
 by_cases e3:p.1=(3:Int)
 ·simp only[e3,decide_true,decide_false,cond_true,cond_false,Bool.not_true,Bool.not_false,Int.reduceEq,Bool.true_and,Bool.and_true,Bool.and_false,Bool.false_and,show ((false:Bool)==true)=false from rfl,show ((true:Bool)==false)=false from rfl,show ((false:Bool)==false)=true from rfl,show ((true:Bool)==true)=true from rfl]
  have h:=Fh (LJ:=LJ) (st:=st) (p:=p) 1 1 (.inl e3) hst (by unfold M.dh;simp only[e3,decide_true,decide_false,cond_true,cond_false,Bool.not_true,Bool.not_false,Int.reduceEq,Bool.true_and,Bool.and_true,Bool.and_false,Bool.false_and,show ((false:Bool)==true)=false from rfl,show ((true:Bool)==false)=false from rfl,show ((false:Bool)==false)=true from rfl,show ((true:Bool)==true)=true from rfl]) (by rw[e3];rfl)
  simp only[e3,show M.inR 3 3 8=true from rfl,Bool.true_and] at h ⊢
  exact h
 by_cases e5:p.1=(5:Int)
 ·simp only[e5,decide_true,decide_false,cond_true,cond_false,Bool.not_true,Bool.not_false,Int.reduceEq,Bool.true_and,Bool.and_true,Bool.and_false,Bool.false_and,show ((false:Bool)==true)=false from rfl,show ((true:Bool)==false)=false from rfl,show ((false:Bool)==false)=true from rfl,show ((true:Bool)==true)=true from rfl]
  have h:=Fh (LJ:=LJ) (st:=st) (p:=p) 3 3 (.inr (.inl e5)) hst (by unfold M.dh;simp only[e5,decide_true,decide_false,cond_true,cond_false,Bool.not_true,Bool.not_false,Int.reduceEq,Bool.true_and,Bool.and_true,Bool.and_false,Bool.false_and,show ((false:Bool)==true)=false from rfl,show ((true:Bool)==false)=false from rfl,show ((false:Bool)==false)=true from rfl,show ((true:Bool)==true)=true from rfl]) (by rw[e5];rfl)
  simp only[e5,show M.inR 5 3 8=true from rfl,Bool.true_and] at h ⊢
  exact h
 by_cases e6:p.1=(6:Int)
 ·simp only[e6,decide_true,decide_false,cond_true,cond_false,Bool.not_true,Bool.not_false,Int.reduceEq,Bool.true_and,Bool.and_true,Bool.and_false,Bool.false_and,show ((false:Bool)==true)=false from rfl,show ((true:Bool)==false)=false from rfl,show ((false:Bool)==false)=true from rfl,show ((true:Bool)==true)=true from rfl]
  have h:=Fh (LJ:=LJ) (st:=st) (p:=p) 3 3 (.inr (.inr e6)) hst (by unfold M.dh;simp only[e6,decide_true,decide_false,cond_true,cond_false,Bool.not_true,Bool.not_false,Int.reduceEq,Bool.true_and,Bool.and_true,Bool.and_false,Bool.false_and,show ((false:Bool)==true)=false from rfl,show ((true:Bool)==false)=false from rfl,show ((false:Bool)==false)=true from rfl,show ((true:Bool)==true)=true from rfl]) (by rw[e6];rfl)
  simp only[e6,show M.inR 6 3 8=true from rfl,Bool.true_and] at h ⊢
  exact h
 by_cases e7:p.1=(7:Int)
 ·rw[sK (.inl e7)]
  unfold M.dh
  simp only[e7,decide_true,decide_false,cond_true,cond_false,Bool.not_true,Bool.not_false,Int.reduceEq,Bool.true_and,Bool.and_true,Bool.and_false,Bool.false_and,show ((false:Bool)==true)=false from rfl,show ((true:Bool)==false)=false from rfl,show ((false:Bool)==false)=true from rfl,show ((true:Bool)==true)=true from rfl,show (1:Int).toNat=1 from rfl,show M.inR 7 3 8=true from rfl]
  by_cases hl:1<=st.length
  ·have hd:=Et (t:=.int .i64) (st:=st) hl
   have hp:=IG (t:=.int .i64) (st:=st) hl
   rw[hd,decide_eq_true (show (0:Int)<(st.length:Int) by omega),decide_eq_true (show (1:Int)<=(st.length:Int) by omega)]
   simp only[decide_true,decide_false,cond_true,cond_false,Bool.not_true,Bool.not_false,Int.reduceEq,Bool.true_and,Bool.and_true,Bool.and_false,Bool.false_and,show ((false:Bool)==true)=false from rfl,show ((true:Bool)==false)=false from rfl,show ((false:Bool)==false)=true from rfl,show ((true:Bool)==true)=true from rfl]
   repeat rw[aq (by first | omega | (unfold lim;simp;omega))]
   refine⟨_,_,rfl,?_⟩
   have key:∀(y:Int),([y].all fun x=>decide (x=3))=decide (y=3):=fun y=>by simp
   rw[key]
   by_cases h3:nth (t:=.int .i64) st ((st.length:Int)-1)=3
   ·rw[decide_eq_true h3]
    rw[h3] at hp
    exact⟨rfl,hp.symm⟩
   ·rw[decide_eq_false h3]
    rfl
  ·rw[decide_eq_false (show ¬(0:Int)<(st.length:Int) by omega),decide_eq_false (show ¬(1:Int)<=(st.length:Int) by omega)]
   exact⟨_,_,rfl,rfl⟩
 by_cases e8:p.1=(8:Int)
 ·rw[sK (.inr e8)]
  unfold M.dh
  simp only[e8,decide_true,decide_false,cond_true,cond_false,Bool.not_true,Bool.not_false,Int.reduceEq,Bool.true_and,Bool.and_true,Bool.and_false,Bool.false_and,show ((false:Bool)==true)=false from rfl,show ((true:Bool)==false)=false from rfl,show ((false:Bool)==false)=true from rfl,show ((true:Bool)==true)=true from rfl,show (1:Int).toNat=1 from rfl,show M.inR 8 3 8=true from rfl]
  by_cases hl:1<=st.length
  ·have n1:((st.length:Int)-1).toNat=st.length-1:=by omega
   rw[decide_eq_true (show (0:Int)<(st.length:Int) by omega),decide_eq_true (show (1:Int)<=(st.length:Int) by omega),Cn (by omega),n1]
   repeat rw[aq (by first | omega | (unfold lim;simp;omega))]
   exact⟨_,_,rfl,rfl,rfl⟩
  ·rw[decide_eq_false (show ¬(0:Int)<(st.length:Int) by omega),decide_eq_false (show ¬(1:Int)<=(st.length:Int) by omega),Cm (by omega)]
   repeat rw[aq (by first | omega | (unfold lim;simp))]
   exact⟨_,_,rfl,rfl⟩
 simp only[e3,e5,e6,e7,e8,decide_true,decide_false,cond_true,cond_false,Bool.not_true,Bool.not_false,Int.reduceEq,Bool.true_and,Bool.and_true,Bool.and_false,Bool.false_and,show ((false:Bool)==true)=false from rfl,show ((true:Bool)==false)=false from rfl,show ((false:Bool)==false)=true from rfl,show ((true:Bool)==true)=true from rfl,Gp e3 e4 e5 e6 e7 e8]
 exact⟨_,_,rfl,rfl⟩
theorem zo {LJ:List ag.D} {E:List aD.D} {st:List Int} {k:Int} (h0:0<=k) (h1:k<(E.length:Int)) (hst:st.length<=1000) (hcl:LJ.length<=1048576) :
  ∃o s,F.dy LJ E (true,k,st)=some (.inl (o,wrap64 (k+1),s))/\oI (M.fU LJ st (@nth aD E k)) o s:=by
 obtain⟨o,s,e,h⟩:=vl (LJ:=LJ) (@nth aD E k) hst hcl
 refine⟨o,s,?_,h⟩
 unfold F.dy
 simp only
 rw[decide_eq_true h1]
 simp only[show ((true:Bool)==true)=true from rfl,cond_true]
 rw[aq h0,aq h1,aq (show Sm (.sl (.int .i64)) st from⟨by omega,fun _ _=>trivial⟩),aq hst]
 simp only[bX,M.wY,e]
 rfl
theorem Ba {LJ:List ag.D} {E:List aD.D} (hE:(E.length:Int)<=1000) (hcl:LJ.length<=1048576):∀(n:Nat) (k:Nat) (st:List Int),n=E.length-k->k<=E.length->st.length+n<=1000 →
  ∃o s,cF (F.dy LJ E) (true,(k:Int),st)=some (o,s)/\oI (M.jX LJ (E.drop k) st) o s:=by
 intro n
 induction n with
 | zero=>
  intro k st hn hk hl
  have hkE:k=E.length:=by omega
  refine⟨true,st,?_,?_⟩
  ·rw[jz]
   unfold F.dy
   simp only
   rw[decide_eq_false (show ¬(k:Int)<(E.length:Int) by omega)]
   rfl
  ·rw[List.drop_eq_nil_of_le (by omega)]
   exact⟨rfl,rfl⟩
 | succ n ih=>
  intro k st hn hk hl
  have hlt:k<E.length:=by omega
  obtain⟨o,s,h1,h2⟩:=zo (LJ:=LJ) (E:=E) (st:=st) (k:=(k:Int)) (by omega) (by omega) (by omega) hcl
  rw[aF (n:=(k:Int)+1) (by omega) (by omega)] at h1
  have hd:E.drop k=@nth aD E (k:Int)::E.drop (k+1):=by
   have:=wz (t:=aD) (xs:=E) (i:=(k:Int)) (by omega) (by omega)
   simpa using this
  rw[hd,jz,h1,bE]
  unfold M.jX
  unfold oI at h2
  cases hk2:M.fU LJ st (@nth aD E (k:Int)) with
  | none=>
   rw[hk2] at h2
   simp only at h2
   subst h2
   refine⟨false,s,?_,rfl⟩
   rw[jz]
   unfold F.dy
   simp only
   cases decide ((k:Int)+1<(E.length:Int))<;>rfl
  | some s'=>
   rw[hk2] at h2
   obtain⟨rfl,rfl⟩:=h2
   have:=uC hk2
   exact ih (k+1) s (by omega) (by omega) (by omega)
end Go.AE
