/- Rows of plans: they are what the plan's columns say. -/
import Derived.Test.YtiplhefglgpdoaaGreatAeY
import Derived.Test.YtiplhefglgpdoaaGreatAeEqI
namespace Go.AE
open Go Go.RowKit
set_option linter.unusedVariables false
theorem M.Ao {tables:List aq.D} (ht:M.ck tables=true) (hts:Sm (.sl aq) tables) {st st2:gA} {all:List (List (List aa.D))} {s:aj.D} (hR:M.Rows st all) (h:M.bW tables st s=some st2) :
  M.qY tables all s/\M.Rows st2 (M.eR tables all s):=by
 obtain⟨c,hc,hd,rfl⟩:=M.jP h
 have hm:M.aZ st.2 s<=300:=by have:=of_decide_eq_false hd;omega
 have hin:=M.qU hc
 have hal:(st.1.length:Int)=(all.length:Int):=by rw[hR.1]
 rw[hal] at hin
 unfold M.eR
 by_cases h1:s.1=(1:Int)
 ·unfold M.ct at hc
  obtain⟨_,hc⟩:=M.aQ hc
  rw[decide_eq_true h1,cond_true] at hc
  obtain⟨hN,hc⟩:=M.aQ hc
  have hc:=Option.some.inj hc
  have n0:=M.fY hN
  have n1:=Int.lt_of_le_sub_one (M.rC hN)
  have hmem:=iq (t:=aq) n0 n1
  have hm6:M.aZ st.2 s=6:=by unfold M.aZ;rw[decide_eq_true h1];rfl
  have hok:M.cW (nth (t:=aq) tables s.2.2.2.1)=true:=by
   unfold M.ck at ht
   exact List.all_eq_true.1 (Bool.and_eq_true_iff.1 ht).2 _ hmem
  unfold M.cW at hok
  obtain⟨hr6,hrok⟩:=Bool.and_eq_true_iff.1 hok
  have hr6:=of_decide_eq_true hr6
  have hcl:(nth (t:=aq) tables s.2.2.2.1).1.length<=4:=by
   unfold M.fX M.bA at hrok
   exact of_decide_eq_true (Bool.and_eq_true_iff.1 (Bool.and_eq_true_iff.1 hrok).1).1
  refine⟨⟨fun _=>⟨n0,n1⟩,hin,fun h=>absurd h1 h,fun e=>?_,fun e=>?_,fun e=>?_⟩,?_⟩
  ·rw[h1] at e;exact absurd e (by decide)
  ·rw[h1] at e;exact absurd e (by decide)
  ·rw[h1] at e;exact absurd e (by decide)
  ·have e:M.cr tables all s=(nth (t:=aq) tables s.2.2.2.1).2.1:=by unfold M.cr;rw[decide_eq_true h1];rfl
   rw[e]
   refine M.ou hR (by rw[hm6];omega) hm (by rw[<-hc];exact hcl) (aU hts _).2.1 (fun r hr=>?_)
   rw[<-hc]
   exact M.EH ht n0 n1 hr
 obtain⟨⟨a0,a1⟩,⟨b0,b1⟩⟩:=hin h1
 obtain⟨pa1,pa2,pa3,pa4,pa5⟩:=hR.2.2 _ a0 a1
 obtain⟨pb1,pb2,pb3,pb4,pb5⟩:=hR.2.2 _ b0 b1
 replace pa2:@LE.le Int _ (nth (t:=.int .i64) st.2 s.2.1) 300:=pa2
 replace pb2:@LE.le Int _ (nth (t:=.int .i64) st.2 s.2.2.1) 300:=pb2
 have fa:M.xx (nth (t:=.sl (.sl aa)) all s.2.1):=⟨by omega,fun r hr=>by rw[pa5 r hr];exact pa3⟩
 have fb:M.xx (nth (t:=.sl (.sl aa)) all s.2.2.1):=⟨by omega,fun r hr=>by rw[pb5 r hr];exact pb3⟩
 unfold M.ct at hc
 obtain⟨_,hc⟩:=M.aQ hc
 rw[decide_eq_false h1,cond_false] at hc
 obtain⟨_,hc⟩:=M.aQ hc
 by_cases h2:s.1=(2:Int)
 ·rw[decide_eq_true h2,cond_true] at hc
  obtain⟨hk,hc⟩:=M.aQ hc
  have hk:=of_decide_eq_true hk
  have hc:=Option.some.inj hc
  have hm2:M.aZ st.2 s=nth (t:=.int .i64) st.2 s.2.1:=by unfold M.aZ;rw[h2];rfl
  refine⟨⟨fun e=>absurd e h1,hin,fun _=>⟨fa,fb⟩,fun _ r hr=>?_,fun e=>?_,fun e=>?_⟩,?_⟩
  ·have:=Af (columns:=nth (t:=.sl ag) st.1 s.2.1) (e:=s.2.2.2.2.1) (by rw[hk];decide)
   rw[pa5 r hr]
   exact this
  ·rw[h2] at e;exact absurd e (by decide)
  ·rw[h2] at e;exact absurd e (by decide)
  ·have e:M.cr tables all s=List.filter (fun r=>M.holds r s.2.2.2.2.1) (nth (t:=.sl (.sl aa)) all s.2.1):=by unfold M.cr;rw[h2];rfl
   rw[e]
   refine M.ou hR ?_ hm (by rw[<-hc];exact pa3) (M.Fw (t:=.sl aa) _ pa4) (fun r hr=>?_)
   ·rw[hm2]
    refine Int.le_trans (Int.ofNat_le.2 (List.length_filter_le _ _)) pa1
   ·rw[<-hc]
    exact pa5 r (List.mem_filter.1 hr).1
 by_cases h3:s.1=(3:Int)
 ·rw[decide_eq_false h2,cond_false,decide_eq_true h3,cond_true] at hc
  obtain⟨hk,hc⟩:=M.aQ hc
  have hc:=Option.some.inj hc
  obtain⟨hl,hl4⟩:=Bool.and_eq_true_iff.1 hk
  have hl4:=of_decide_eq_true hl4
  have hm3:M.aZ st.2 s=nth (t:=.int .i64) st.2 s.2.1:=by unfold M.aZ;rw[h3];rfl
  have hinr:∀r∈(nth (t:=.sl (.sl aa)) all s.2.1:List (List aa.D)),M.Av r s.2.2.2.2.2.1:=by
   intro r hr n hn
   have:=List.all_eq_true.1 hl n hn
   rw[pa5 r hr]
   exact⟨M.fY this,Int.lt_of_le_sub_one (M.rC this)⟩
  refine⟨⟨fun e=>absurd e h1,hin,fun _=>⟨fa,fb⟩,fun e=>absurd e h2,fun _=>hinr,fun e=>?_⟩,?_⟩
  ·rw[h3] at e;exact absurd e (by decide)
  ·have e:M.cr tables all s=List.map (fun r=>M.taken r s.2.2.2.2.2.1) (nth (t:=.sl (.sl aa)) all s.2.1):=by unfold M.cr;rw[h3];rfl
   rw[e]
   have hcl:c.length=s.2.2.2.2.2.1.length:=by rw[<-hc];simp
   refine M.ou hR ?_ hm (by omega) ⟨by rw[List.length_map];exact pa4.1,fun x hx=>?_⟩ (fun r hr=>?_)
   ·rw[hm3,List.length_map];exact pa1
   ·obtain⟨r,hr,rfl⟩:=List.mem_map.1 hx
    refine⟨?_,fun v hv=>?_⟩
    ·unfold M.taken;rw[List.length_map];omega
    ·unfold M.taken at hv
     obtain⟨i,_,rfl⟩:=List.mem_map.1 hv
     exact aU (pa4.2 r hr) i
   ·obtain⟨q,hq,rfl⟩:=List.mem_map.1 hr
    unfold M.taken
    rw[List.length_map,hcl]
 by_cases h4:s.1=(4:Int)
 ·rw[decide_eq_false h2,cond_false,decide_eq_false h3,cond_false,decide_eq_true h4,cond_true] at hc
  obtain⟨hk,hc⟩:=M.aQ hc
  have hc:=Option.some.inj hc
  obtain⟨hl4,hk3⟩:=Bool.and_eq_true_iff.1 hk
  have hl4:=of_decide_eq_true hl4
  have hk3:=of_decide_eq_true hk3
  have hcl:c.length=(nth (t:=.sl ag) st.1 s.2.1:List ag.D).length+(nth (t:=.sl ag) st.1 s.2.2.1:List ag.D).length:=by rw[<-hc,List.length_append]
  have hjoin:∀r∈(nth (t:=.sl (.sl aa)) all s.2.1:List (List aa.D)),∀q∈(nth (t:=.sl (.sl aa)) all s.2.2.1:List (List aa.D)),(r++q:List aa.D).length=c.length:=by
   intro r hr q hq
   rw[List.length_append,pa5 r hr,pb5 q hq,hcl]
  have q0:@LE.le Int _ 0 (nth (t:=.int .i64) st.2 s.2.1):=by omega
  have q1:@LE.le Int _ 0 (nth (t:=.int .i64) st.2 s.2.2.1):=by omega
  have hm4:M.aZ st.2 s=nth (t:=.int .i64) st.2 s.2.1 * nth (t:=.int .i64) st.2 s.2.2.1:=by
   have:M.aZ st.2 s=wrap64 (nth (t:=.int .i64) st.2 s.2.1 * nth (t:=.int .i64) st.2 s.2.2.1):=by unfold M.aZ;rw[h4];rfl
   rw[this]
   have u1:@LE.le Int _ (nth (t:=.int .i64) st.2 s.2.1 * nth (t:=.int .i64) st.2 s.2.2.1) (300 * 300):=Int.mul_le_mul pa2 pb2 q1 (by decide)
   have u0:@LE.le Int _ 0 (nth (t:=.int .i64) st.2 s.2.1 * nth (t:=.int .i64) st.2 s.2.2.1):=Int.mul_nonneg q0 q1
   exact aI (by omega) (by omega)
  refine⟨⟨fun e=>absurd e h1,hin,fun _=>⟨fa,fb⟩,fun e=>absurd e h2,fun e=>absurd e h3,fun _ r hr q hq=>?_⟩,?_⟩
  ·have:=Af (columns:=(nth (t:=.sl ag) st.1 s.2.1++nth (t:=.sl ag) st.1 s.2.2.1:List ag.D)) (e:=s.2.2.2.2.1) (by rw[hk3];decide)
   rw[hjoin r hr q hq,<-hc]
   exact this
  ·have e:M.cr tables all s=List.flatMap (fun r=>M.joined s.2.2.2.2.1 r (nth (t:=.sl (.sl aa)) all s.2.2.1)) (nth (t:=.sl (.sl aa)) all s.2.1):=by unfold M.cr;rw[h4];rfl
   rw[e]
   have hfl:=M.Dg (fun r=>M.joined s.2.2.2.2.1 r (nth (t:=.sl (.sl aa)) all s.2.2.1)) (nth (t:=.sl (.sl aa)) all s.2.2.1:List (List aa.D)).length (nth (t:=.sl (.sl aa)) all s.2.1) (fun r _=>M.yN _ _ _)
   have hmemj:∀x∈List.flatMap (fun r=>M.joined s.2.2.2.2.1 r (nth (t:=.sl (.sl aa)) all s.2.2.1)) (nth (t:=.sl (.sl aa)) all s.2.1),∃r∈(nth (t:=.sl (.sl aa)) all s.2.1:List (List aa.D)),∃q∈(nth (t:=.sl (.sl aa)) all s.2.2.1:List (List aa.D)),r++q=x:=by
    intro x hx
    obtain⟨r,hr,hx⟩:=List.mem_flatMap.1 hx
    unfold M.joined at hx
    obtain⟨q,hq,e⟩:=List.mem_map.1 (List.mem_filter.1 hx).1
    exact⟨r,hr,q,hq,e⟩
   have hle:((List.flatMap (fun r=>M.joined s.2.2.2.2.1 r (nth (t:=.sl (.sl aa)) all s.2.2.1)) (nth (t:=.sl (.sl aa)) all s.2.1)).length:Int)<=M.aZ st.2 s:=by
    rw[hm4]
    refine Int.le_trans (Int.ofNat_le.2 hfl) ?_
    rw[Int.natCast_mul]
    exact Int.mul_le_mul pa1 pb1 (by omega) q0
   have hc4:c.length<=4:=by rw[<-hc];omega
   refine M.ou hR hle hm hc4 ⟨by omega,fun x hx=>?_⟩ (fun x hx=>?_)
   ·obtain⟨r,hr,q,hq,rfl⟩:=hmemj x hx
    refine⟨by rw[hjoin r hr q hq];omega,fun v hv=>?_⟩
    rcases List.mem_append.1 hv with hv | hv
    ·exact(pa4.2 r hr).2 v hv
    ·exact(pb4.2 q hq).2 v hv
   ·obtain⟨r,hr,q,hq,rfl⟩:=hmemj x hx
    exact hjoin r hr q hq
 by_cases h5:s.1=(5:Int)
 ·rw[decide_eq_false h2,cond_false,decide_eq_false h3,cond_false,decide_eq_false h4,cond_false,decide_eq_true h5,cond_true] at hc
  unfold M.both at hc
  obtain⟨hl,hc⟩:=M.aQ hc
  have hl:=of_decide_eq_true hl
  have hcl:=M.kg hc
  have hm5:M.aZ st.2 s=nth (t:=.int .i64) st.2 s.2.1+nth (t:=.int .i64) st.2 s.2.2.1:=by
   have:M.aZ st.2 s=wrap64 (nth (t:=.int .i64) st.2 s.2.1+nth (t:=.int .i64) st.2 s.2.2.1):=by unfold M.aZ;rw[h5];rfl
   rw[this]
   exact aI (by omega) (by omega)
  refine⟨⟨fun e=>absurd e h1,hin,fun _=>⟨fa,fb⟩,fun e=>absurd e h2,fun e=>absurd e h3,fun e=>absurd e h4⟩,?_⟩
  have e:M.cr tables all s=(nth (t:=.sl (.sl aa)) all s.2.1++nth (t:=.sl (.sl aa)) all s.2.2.1:List (List aa.D)):=by unfold M.cr;rw[h5];rfl
  rw[e]
  refine M.ou hR (by rw[hm5,List.length_append];omega) hm (by omega) ⟨by rw[List.length_append];omega,fun x hx=>?_⟩ (fun x hx=>?_)
  ·rcases List.mem_append.1 hx with hx | hx
   ·exact pa4.2 x hx
   ·exact pb4.2 x hx
  ·rcases List.mem_append.1 hx with hx | hx
   ·rw[pa5 x hx,hcl]
   ·rw[pb5 x hx,hcl,hl]
 rw[decide_eq_false h2,cond_false,decide_eq_false h3,cond_false,decide_eq_false h4,cond_false,decide_eq_false h5,cond_false] at hc
 obtain⟨h6,hc⟩:=M.aQ hc
 have h6:=of_decide_eq_true h6
 have hc:=Option.some.inj hc
 have hm6:M.aZ st.2 s=nth (t:=.int .i64) st.2 s.2.1:=by unfold M.aZ;rw[h6];rfl
 refine⟨⟨fun e=>absurd e h1,hin,fun _=>⟨fa,fb⟩,fun e=>absurd e h2,fun e=>absurd e h3,fun e=>absurd e h4⟩,?_⟩
 have e:M.cr tables all s=M.iA (nth (t:=.sl (.sl aa)) all s.2.1):=by unfold M.cr;rw[h6];rfl
 rw[e]
 obtain⟨o1,o2⟩:=M.Hf (nth (t:=.sl (.sl aa)) all s.2.1)
 refine M.ou hR (by rw[hm6];omega) hm (by rw[<-hc];exact pa3) ⟨Nat.le_trans o1 pa4.1,fun x hx=>pa4.2 x (o2 x hx)⟩ (fun x hx=>?_)
 rw[<-hc]
 exact pa5 x (o2 x hx)
end Go.AE
namespace Go.AE
open Go Go.RowKit
theorem zD {f:List aa.D->List (List aa.D)->Option (Sum (List (List aa.D)) Unit)} (rows:List (List aa.D)) (h:Sm (.sl (.sl aa)) rows)
  (hf:∀z v,z∈rows->Sm (.sl (.sl aa)) v/\v.length<1048576->f z v=some (.inl (M.eT v z))) :
  aL f rows []=some (.inl (rows.foldl M.eT []))/\Sm (.sl (.sl aa)) (rows.foldl M.eT []):=by
 have key:∀(ys zs:List (List aa.D)) (v:List (List aa.D)),rows=zs++ys->v.length<=zs.length->(∀x∈v,Sm (.sl aa) x)->aL f ys v=some (.inl (ys.foldl M.eT v))/\(ys.foldl M.eT v).length<=rows.length/\∀x∈ys.foldl M.eT v,Sm (.sl aa) x:=by
  intro ys
  induction ys with
  | nil=>intro zs v e hl hv;exact⟨rfl,by rw[e];simpa using hl,hv⟩
  | cons y ys ih=>
   intro zs v e hl hv
   have hle:=h.1
   have hlen:rows.length=zs.length+(ys.length+1):=by rw[e];simp
   have hy:y∈rows:=by rw[e];simp
   obtain⟨q1,q2⟩:=M.Ch v y
   rw[bw,hf y v hy ⟨⟨by omega,hv⟩,by omega⟩,aO,List.foldl_cons]
   refine ih (zs++[y]) _ (by rw[e];simp) (by simp;omega) (fun x hx=>?_)
   rcases q2 x hx with hx | hx
   ·exact hv x hx
   ·rw[hx];exact h.2 y hy
 obtain⟨k1,k2,k3⟩:=key rows [] [] rfl (by simp) (fun x hx=>by cases hx)
 exact⟨k1,Nat.le_trans k2 h.1,k3⟩
theorem wg {tables:List aq.D} (ht:M.ck tables=true) (hts:Sm (.sl aq) tables):∀(xs:List aj.D) (st st':gA) (all:List (List (List aa.D))),M.Rows st all->M.fF (M.bW tables) xs st=some st'->M.Rows st' (xs.foldl (M.eR tables) all)
 | [],st,st',all,hR,h=>by cases h;exact hR
 | x::xs,st,st',all,hR,h=>by
  unfold M.fF at h
  cases hp:M.bW tables st x with
  | none=>rw[hp] at h;cases h
  | some st1=>
   rw[hp] at h
   exact wg ht hts xs st1 st' _ (M.Ao ht hts hR hp).2 h
theorem AQ:M.Rows ([],[]) []:=⟨rfl,rfl,fun j j0 j1=>by simp at j1;omega⟩
theorem yy {tables:List aq.D} {plan:List aj.D} (h:M.bQ tables plan=true):M.ck tables=true/\∃st,M.fF (M.bW tables) plan ([],[])=some st:=by
 unfold M.bQ at h
 obtain⟨h1,h2⟩:=Bool.and_eq_true_iff.1 h
 refine⟨(Bool.and_eq_true_iff.1 h2).1,?_⟩
 unfold M.cY at h1
 cases hr:M.lC tables plan with
 | none=>rw[hr] at h1;cases h1
 | some st=>exact⟨st,hr⟩
theorem Dy {tables:List aq.D} {plan:List aj.D} (hts:Sm (.sl aq) tables) (hp:Sm (.sl aj) plan) (h:M.bQ tables plan=true):∃st,M.fF (M.bW tables) plan ([],[])=some st/\M.Rows st (M.fG tables plan):=by
 obtain⟨ht,st,hs⟩:=yy h
 exact⟨st,hs,wg ht hts plan _ _ _ AQ hs⟩
theorem BG {st:gA} {all:List (List (List aa.D))} (h:M.Rows st all) (hl:all.length<=1048576):Sm (.sl (.sl (.sl aa))) all:=by
 refine⟨hl,fun R hR=>?_⟩
 obtain⟨k,hk,e⟩:=List.getElem_of_mem hR
 have:=(h.2.2 (k:Int) (by omega) (by omega)).2.2.2.1
 rw[vu (t:=.sl (.sl aa)) (by omega) (by omega)] at this
 have e2:all[((k:Int)).toNat]'(by simpa using hk)=R:=by simpa using e
 rw[e2] at this
 exact this
theorem Fc {tables:List aq.D} {plan:List aj.D} {f:aj.D->List (List (List aa.D))->Option (Sum (List (List (List aa.D))) Unit)} (hts:Sm (.sl aq) tables) (hp:Sm (.sl aj) plan) (h:M.bQ tables plan=true)
  (hf:∀z v,Sm (.sl (.sl (.sl aa))) v->M.qY tables v z->v.length<1048576->f z v=some (.inl (M.eR tables v z))) :
  aL f plan []=some (.inl (plan.foldl (M.eR tables) []))/\(plan.foldl (M.eR tables) []).length=plan.length:=by
 obtain⟨ht,st,hs⟩:=yy h
 have key:∀(ys zs:List aj.D) (st st':gA) (v:List (List (List aa.D))),plan=zs++ys->v.length=zs.length->M.Rows st v->M.fF (M.bW tables) ys st=some st'->aL f ys v=some (.inl (ys.foldl (M.eR tables) v))/\(ys.foldl (M.eR tables) v).length=plan.length:=by
  intro ys
  induction ys with
  | nil=>intro zs st st' v e hl hR _;exact⟨rfl,by rw[e];simpa using hl⟩
  | cons y ys ih=>
   intro zs st st' v e hl hR hs
   unfold M.fF at hs
   cases hq:M.bW tables st y with
   | none=>rw[hq] at hs;cases hs
   | some st1=>
    rw[hq] at hs
    obtain⟨q1,q2⟩:=M.Ao ht hts hR hq
    have hle:=hp.1
    have hlen:plan.length=zs.length+(ys.length+1):=by rw[e];simp
    rw[bw,hf y v (BG hR (by omega)) q1 (by omega),aO,List.foldl_cons]
    exact ih (zs++[y]) st1 st' _ (by rw[e];simp) (by unfold M.eR;simp[hl]) q2 hs
 exact key plan [] _ st [] rfl rfl AQ hs
end Go.AE
namespace Go.AE
open Go Go.RowKit
theorem Gg (tables:List aq.D) (plan:List aj.D):(M.fG tables plan).length=plan.length:=by
 have key:∀(l:List aj.D) (v:List (List (List aa.D))),(l.foldl (M.eR tables) v).length=v.length+l.length:=by
  intro l
  induction l with
  | nil=>intro v;rfl
  | cons x l ih=>
   intro v
   rw[List.foldl_cons,ih]
   unfold M.eR
   simp
   omega
 have:=key plan []
 unfold M.fG
 simpa using this
theorem Cx {tables:List aq.D} {plan:List aj.D} (hts:Sm (.sl aq) tables) (hp:Sm (.sl aj) plan):Sm (.sl (.sl aa)) (M.dm tables plan):=by
 unfold M.dm
 cases h:M.bQ tables plan with
 | false=>exact lY _
 | true=>
  obtain⟨st,_,hR⟩:=Dy hts hp h
  exact aU (BG hR (by rw[Gg];exact hp.1)) _
theorem vw {α β:Type} {f:α->List β->Option (Sum (List β) Unit)} (F:α->List β) (xs:List α) (B:Nat) (hB:∀x∈xs,(F x).length<=B) (s0:List β)
  (h:∀x∈xs,∀s:List β,s.length<=s0.length+xs.length * B->f x s=some (.inl (s++F x))):aL f xs s0=some (.inl (s0++xs.flatMap F)):=by
 have key:∀(ys zs:List α) (s:List β),xs=zs++ys->s.length<=s0.length+zs.length * B->aL f ys s=some (.inl (s++ys.flatMap F)):=by
  intro ys
  induction ys with
  | nil=>intro zs s _ _;simp[aL]
  | cons y ys ih=>
   intro zs s e hs
   have hb:=hB y (by rw[e];simp)
   have hm:zs.length * B<=xs.length * B:=Nat.mul_le_mul_right _ (by rw[e];simp)
   rw[bw,h y (by rw[e];simp) s (by omega),aO,ih (zs++[y]) _ (by rw[e];simp) (by rw[List.length_append,List.length_append,Nat.add_mul];simp;omega),List.flatMap_cons,List.append_assoc]
 simpa using key xs [] s0 rfl (by simp)
theorem DF {t:Ty} {β:Type} {f:Int->List β->Option (Sum (List β) Unit)} (F:t.D->List β) (xs:List t.D) (B:Nat) (hB:∀x∈xs,(F x).length<=B) (s0:List β)
  (h:∀(i:Int) (s:List β),0<=i->i<(xs.length:Int)->s.length<=s0.length+xs.length * B->f i s=some (.inl (s++F (nth xs i)))):aL f (aM 0 (xs.length:Int)) s0=some (.inl (s0++xs.flatMap F)):=by
 have key:∀(n:Nat) (i:Int) (s:List β),(xs.length:Int)-i=n->0<=i->s.length<=s0.length+i.toNat * B->aL f (aM i (xs.length:Int)) s=some (.inl (s++(xs.drop i.toNat).flatMap F)):=by
  intro n
  induction n with
  | zero=>
   intro i s hn h0 hs
   rw[ew (by omega),List.drop_eq_nil_of_le (by omega)]
   simp[aL]
  | succ n ih=>
   intro i s hn h0 hs
   have hlt:i<(xs.length:Int):=by omega
   have hd:=uW (t:=t) (xs:=xs) (i:=i) h0 hlt
   have hb:=hB _ (iq (t:=t) h0 hlt)
   have hm:i.toNat * B<=xs.length * B:=Nat.mul_le_mul_right _ (by omega)
   have e1:(i+1).toNat=i.toNat+1:=by omega
   rw[dG hlt,bw,h i s h0 hlt (by omega),aO,ih (i+1) _ (by omega) (by omega) (by rw[e1,List.length_append,Nat.succ_mul];omega),hd,List.flatMap_cons,e1,List.append_assoc]
 simpa using key xs.length 0 s0 (by omega) (by omega) (by simp)
theorem Cg {α β:Type} (g:α->β):∀xs:List α,xs.flatMap (fun x=>[g x])=xs.map g
 | []=>rfl
 | x::xs=>by rw[List.flatMap_cons,Cg g xs];rfl
theorem wA {α:Type} (p:α->Bool):∀xs:List α,xs.flatMap (fun x=>cond (p x) [x] [])=xs.filter p
 | []=>rfl
 | x::xs=>by
  rw[List.flatMap_cons,wA p xs]
  cases h:p x<;>simp[h]
theorem vN (e:List aE.D) (r:List aa.D):∀xs:List (List aa.D),xs.flatMap (fun q=>cond (M.holds (r++q) e) [r++q] [])=M.joined e r xs
 | []=>rfl
 | x::xs=>by
  rw[List.flatMap_cons,vN e r xs]
  unfold M.joined
  rw[List.map_cons]
  cases h:M.holds (r++x) e<;>simp[h]
end Go.AE
