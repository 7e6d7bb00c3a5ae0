/- Rows of plans: they are what the plan's columns say. -/
import Derived.Test.YtmkgiaecgkicoaaGreatAeInl
import Derived.Test.YtmkgiaecgkicoaaGreatAeEqI
namespace Go.AE
open Go Go.RowKit
set_option linter.unusedVariables false
theorem M.BY {LK:List ai.D} (ht:M.bw LK=true) (hts:Sm (.sl ai) LK) {st st2:fC} {all:List (List (List af.D))} {s:ah.D} (hR:M.Rows st all) (h:M.bg LK st s=some st2) :
  M.sI LK all s/\M.Rows st2 (M.fD LK all s):=by
 obtain⟨c,hc,hd,rfl⟩:=M.jl h
 have hm:M.aN st.2 s<=300:=by have:=of_decide_eq_false hd;omega
 have hin:=M.nX hc
 have hal:(st.1.length:Int)=(all.length:Int):=by rw[hR.1]
 rw[hal] at hin
 unfold M.fD
 by_cases h1:s.1=(1:Int)
 ·unfold M.bF at hc
  obtain⟨_,hc⟩:=M.aQ hc
  rw[decide_eq_true h1,cond_true] at hc
  obtain⟨hN,hc⟩:=M.aQ hc
  have hc:=Option.some.inj hc
  have n0:=M.fk hN
  have n1:=Int.lt_of_le_sub_one (M.nQ hN)
  have hmem:=hU (t:=ai) n0 n1
  have hm6:M.aN st.2 s=6:=by unfold M.aN;rw[decide_eq_true h1];rfl
  have hok:M.dU (@nth ai LK s.2.2.2.1)=true:=by
   unfold M.bw at ht
   exact List.all_eq_true.1 (Bool.and_eq_true_iff.1 ht).2 _ hmem
  unfold M.dU at hok
  obtain⟨hr6,hrok⟩:=Bool.and_eq_true_iff.1 hok
  have hr6:=of_decide_eq_true hr6
  have hcl:(@nth ai LK s.2.2.2.1).1.length<=4:=by
   unfold M.jV M.cm at hrok
   exact of_decide_eq_true (Bool.and_eq_true_iff.1 (Bool.and_eq_true_iff.1 hrok).1).1
  refine⟨⟨fun _=>⟨n0,n1⟩,hin,fun h=>absurd h1 h,fun e=>?_,fun e=>?_,fun e=>?_⟩,?_⟩
  ·rw[h1] at e;exact absurd e (by decide)
  ·rw[h1] at e;exact absurd e (by decide)
  ·rw[h1] at e;exact absurd e (by decide)
  ·have e:M.cu LK all s=(@nth ai LK s.2.2.2.1).2.1:=by unfold M.cu;rw[decide_eq_true h1];rfl
   rw[e]
   refine M.pW hR (by rw[hm6];omega) hm (by rw[<-hc];exact hcl) (aO hts _).2.1 (fun r hr=>?_)
   rw[<-hc]
   exact M.Gm ht n0 n1 hr
 obtain⟨⟨a0,a1⟩,⟨b0,b1⟩⟩:=hin h1
 obtain⟨pa1,pa2,pa3,pa4,pa5⟩:=hR.2.2 _ a0 a1
 obtain⟨pb1,pb2,pb3,pb4,pb5⟩:=hR.2.2 _ b0 b1
 replace pa2:@LE.le Int _ (nth (t:=.int .i64) st.2 s.2.1) 300:=pa2
 replace pb2:@LE.le Int _ (nth (t:=.int .i64) st.2 s.2.2.1) 300:=pb2
 have fa:M.yW (nth (t:=.sl (.sl af)) all s.2.1):=⟨by omega,fun r hr=>by rw[pa5 r hr];exact pa3⟩
 have fb:M.yW (nth (t:=.sl (.sl af)) all s.2.2.1):=⟨by omega,fun r hr=>by rw[pb5 r hr];exact pb3⟩
 unfold M.bF at hc
 obtain⟨_,hc⟩:=M.aQ hc
 rw[decide_eq_false h1,cond_false] at hc
 obtain⟨_,hc⟩:=M.aQ hc
 by_cases h2:s.1=(2:Int)
 ·rw[decide_eq_true h2,cond_true] at hc
  obtain⟨hk,hc⟩:=M.aQ hc
  have hk:=of_decide_eq_true hk
  have hc:=Option.some.inj hc
  have hm2:M.aN st.2 s=nth (t:=.int .i64) st.2 s.2.1:=by unfold M.aN;rw[h2];rfl
  refine⟨⟨fun e=>absurd e h1,hin,fun _=>⟨fa,fb⟩,fun _ r hr=>?_,fun e=>?_,fun e=>?_⟩,?_⟩
  ·have:=wV (LJ:=nth (t:=.sl ag) st.1 s.2.1) (e:=s.2.2.2.2.1) (by rw[hk];decide)
   rw[pa5 r hr]
   exact this
  ·rw[h2] at e;exact absurd e (by decide)
  ·rw[h2] at e;exact absurd e (by decide)
  ·have e:M.cu LK all s=List.filter (fun r=>M.holds r s.2.2.2.2.1) (nth (t:=.sl (.sl af)) all s.2.1):=by unfold M.cu;rw[h2];rfl
   rw[e]
   refine M.pW hR ?_ hm (by rw[<-hc];exact pa3) (M.GY (t:=.sl af) _ pa4) (fun r hr=>?_)
   ·rw[hm2]
    refine Int.le_trans (Int.ofNat_le.2 (List.length_filter_le _ _)) pa1
   ·rw[<-hc]
    exact pa5 r (List.mem_filter.1 hr).1
 by_cases h3:s.1=(3:Int)
 ·rw[decide_eq_false h2,cond_false,decide_eq_true h3,cond_true] at hc
  obtain⟨hk,hc⟩:=M.aQ hc
  have hc:=Option.some.inj hc
  obtain⟨hl,hl4⟩:=Bool.and_eq_true_iff.1 hk
  have hl4:=of_decide_eq_true hl4
  have hm3:M.aN st.2 s=nth (t:=.int .i64) st.2 s.2.1:=by unfold M.aN;rw[h3];rfl
  have hinr:∀r∈(nth (t:=.sl (.sl af)) all s.2.1:List (List af.D)),M.BJ r s.2.2.2.2.2.1:=by
   intro r hr n hn
   have:=List.all_eq_true.1 hl n hn
   rw[pa5 r hr]
   exact⟨M.fk this,Int.lt_of_le_sub_one (M.nQ this)⟩
  refine⟨⟨fun e=>absurd e h1,hin,fun _=>⟨fa,fb⟩,fun e=>absurd e h2,fun _=>hinr,fun e=>?_⟩,?_⟩
  ·rw[h3] at e;exact absurd e (by decide)
  ·have e:M.cu LK all s=List.map (fun r=>M.taken r s.2.2.2.2.2.1) (nth (t:=.sl (.sl af)) all s.2.1):=by unfold M.cu;rw[h3];rfl
   rw[e]
   have hcl:c.length=s.2.2.2.2.2.1.length:=by rw[<-hc];simp
   refine M.pW hR ?_ hm (by omega) ⟨by rw[List.length_map];exact pa4.1,fun x hx=>?_⟩ (fun r hr=>?_)
   ·rw[hm3,List.length_map];exact pa1
   ·obtain⟨r,hr,rfl⟩:=List.mem_map.1 hx
    refine⟨?_,fun v hv=>?_⟩
    ·unfold M.taken;rw[List.length_map];omega
    ·unfold M.taken at hv
     obtain⟨i,_,rfl⟩:=List.mem_map.1 hv
     exact aO (pa4.2 r hr) i
   ·obtain⟨q,hq,rfl⟩:=List.mem_map.1 hr
    unfold M.taken
    rw[List.length_map,hcl]
 by_cases h4:s.1=(4:Int)
 ·rw[decide_eq_false h2,cond_false,decide_eq_false h3,cond_false,decide_eq_true h4,cond_true] at hc
  obtain⟨hk,hc⟩:=M.aQ hc
  have hc:=Option.some.inj hc
  obtain⟨hl4,hk3⟩:=Bool.and_eq_true_iff.1 hk
  have hl4:=of_decide_eq_true hl4
  have hk3:=of_decide_eq_true hk3
  have hcl:c.length=(nth (t:=.sl ag) st.1 s.2.1:List ag.D).length+(nth (t:=.sl ag) st.1 s.2.2.1:List ag.D).length:=by rw[<-hc,List.length_append]
  have hjoin:∀r∈(nth (t:=.sl (.sl af)) all s.2.1:List (List af.D)),∀q∈(nth (t:=.sl (.sl af)) all s.2.2.1:List (List af.D)),(r++q:List af.D).length=c.length:=by
   intro r hr q hq
   rw[List.length_append,pa5 r hr,pb5 q hq,hcl]
  have q0:@LE.le Int _ 0 (nth (t:=.int .i64) st.2 s.2.1):=by omega
  have q1:@LE.le Int _ 0 (nth (t:=.int .i64) st.2 s.2.2.1):=by omega
  have hm4:M.aN st.2 s=nth (t:=.int .i64) st.2 s.2.1 * nth (t:=.int .i64) st.2 s.2.2.1:=by
   have:M.aN st.2 s=wrap64 (nth (t:=.int .i64) st.2 s.2.1 * nth (t:=.int .i64) st.2 s.2.2.1):=by unfold M.aN;rw[h4];rfl
   rw[this]
   have u1:@LE.le Int _ (nth (t:=.int .i64) st.2 s.2.1 * nth (t:=.int .i64) st.2 s.2.2.1) (300 * 300):=Int.mul_le_mul pa2 pb2 q1 (by decide)
   have u0:@LE.le Int _ 0 (nth (t:=.int .i64) st.2 s.2.1 * nth (t:=.int .i64) st.2 s.2.2.1):=Int.mul_nonneg q0 q1
   exact aF (by omega) (by omega)
  refine⟨⟨fun e=>absurd e h1,hin,fun _=>⟨fa,fb⟩,fun e=>absurd e h2,fun e=>absurd e h3,fun _ r hr q hq=>?_⟩,?_⟩
  ·have:=wV (LJ:=(nth (t:=.sl ag) st.1 s.2.1++nth (t:=.sl ag) st.1 s.2.2.1:List ag.D)) (e:=s.2.2.2.2.1) (by rw[hk3];decide)
   rw[hjoin r hr q hq,<-hc]
   exact this
  ·have e:M.cu LK all s=List.flatMap (fun r=>M.joined s.2.2.2.2.1 r (nth (t:=.sl (.sl af)) all s.2.2.1)) (nth (t:=.sl (.sl af)) all s.2.1):=by unfold M.cu;rw[h4];rfl
   rw[e]
   have hfl:=M.EB (fun r=>M.joined s.2.2.2.2.1 r (nth (t:=.sl (.sl af)) all s.2.2.1)) (nth (t:=.sl (.sl af)) all s.2.2.1:List (List af.D)).length (nth (t:=.sl (.sl af)) all s.2.1) (fun r _=>M.Aj _ _ _)
   have hmemj:∀x∈List.flatMap (fun r=>M.joined s.2.2.2.2.1 r (nth (t:=.sl (.sl af)) all s.2.2.1)) (nth (t:=.sl (.sl af)) all s.2.1),∃r∈(nth (t:=.sl (.sl af)) all s.2.1:List (List af.D)),∃q∈(nth (t:=.sl (.sl af)) all s.2.2.1:List (List af.D)),r++q=x:=by
    intro x hx
    obtain⟨r,hr,hx⟩:=List.mem_flatMap.1 hx
    unfold M.joined at hx
    obtain⟨q,hq,e⟩:=List.mem_map.1 (List.mem_filter.1 hx).1
    exact⟨r,hr,q,hq,e⟩
   have hle:((List.flatMap (fun r=>M.joined s.2.2.2.2.1 r (nth (t:=.sl (.sl af)) all s.2.2.1)) (nth (t:=.sl (.sl af)) all s.2.1)).length:Int)<=M.aN st.2 s:=by
    rw[hm4]
    refine Int.le_trans (Int.ofNat_le.2 hfl) ?_
    rw[Int.natCast_mul]
    exact Int.mul_le_mul pa1 pb1 (by omega) q0
   have hc4:c.length<=4:=by rw[<-hc];omega
   refine M.pW hR hle hm hc4 ⟨by omega,fun x hx=>?_⟩ (fun x hx=>?_)
   ·obtain⟨r,hr,q,hq,rfl⟩:=hmemj x hx
    refine⟨by rw[hjoin r hr q hq];omega,fun v hv=>?_⟩
    rcases List.mem_append.1 hv with hv | hv
    ·exact(pa4.2 r hr).2 v hv
    ·exact(pb4.2 q hq).2 v hv
   ·obtain⟨r,hr,q,hq,rfl⟩:=hmemj x hx
    exact hjoin r hr q hq
 by_cases h5:s.1=(5:Int)
 ·rw[decide_eq_false h2,cond_false,decide_eq_false h3,cond_false,decide_eq_false h4,cond_false,decide_eq_true h5,cond_true] at hc
  unfold M.both at hc
  obtain⟨hl,hc⟩:=M.aQ hc
  have hl:=of_decide_eq_true hl
  have hcl:=M.lz hc
  have hm5:M.aN st.2 s=nth (t:=.int .i64) st.2 s.2.1+nth (t:=.int .i64) st.2 s.2.2.1:=by
   have:M.aN st.2 s=wrap64 (nth (t:=.int .i64) st.2 s.2.1+nth (t:=.int .i64) st.2 s.2.2.1):=by unfold M.aN;rw[h5];rfl
   rw[this]
   exact aF (by omega) (by omega)
  refine⟨⟨fun e=>absurd e h1,hin,fun _=>⟨fa,fb⟩,fun e=>absurd e h2,fun e=>absurd e h3,fun e=>absurd e h4⟩,?_⟩
  have e:M.cu LK all s=(nth (t:=.sl (.sl af)) all s.2.1++nth (t:=.sl (.sl af)) all s.2.2.1:List (List af.D)):=by unfold M.cu;rw[h5];rfl
  rw[e]
  refine M.pW hR (by rw[hm5,List.length_append];omega) hm (by omega) ⟨by rw[List.length_append];omega,fun x hx=>?_⟩ (fun x hx=>?_)
  ·rcases List.mem_append.1 hx with hx | hx
   ·exact pa4.2 x hx
   ·exact pb4.2 x hx
  ·rcases List.mem_append.1 hx with hx | hx
   ·rw[pa5 x hx,hcl]
   ·rw[pb5 x hx,hcl,hl]
 rw[decide_eq_false h2,cond_false,decide_eq_false h3,cond_false,decide_eq_false h4,cond_false,decide_eq_false h5,cond_false] at hc
 obtain⟨h6,hc⟩:=M.aQ hc
 have h6:=of_decide_eq_true h6
 have hc:=Option.some.inj hc
 have hm6:M.aN st.2 s=nth (t:=.int .i64) st.2 s.2.1:=by unfold M.aN;rw[h6];rfl
 refine⟨⟨fun e=>absurd e h1,hin,fun _=>⟨fa,fb⟩,fun e=>absurd e h2,fun e=>absurd e h3,fun e=>absurd e h4⟩,?_⟩
 have e:M.cu LK all s=M.gC (nth (t:=.sl (.sl af)) all s.2.1):=by unfold M.cu;rw[h6];rfl
 rw[e]
 obtain⟨o1,o2⟩:=M.vo (nth (t:=.sl (.sl af)) all s.2.1)
 refine M.pW hR (by rw[hm6];omega) hm (by rw[<-hc];exact pa3) ⟨Nat.le_trans o1 pa4.1,fun x hx=>pa4.2 x (o2 x hx)⟩ (fun x hx=>?_)
 rw[<-hc]
 exact pa5 x (o2 x hx)
end Go.AE
namespace Go.AE
open Go Go.RowKit
theorem AL {f:List af.D->List (List af.D)->Option (Sum (List (List af.D)) Unit)} (rows:List (List af.D)) (h:Sm (.sl (.sl af)) rows)
  (hf:∀z v,z∈rows->Sm (.sl (.sl af)) v/\v.length<1048576->f z v=some (.inl (M.fK v z))) :
  aU f rows []=some (.inl (rows.foldl M.fK []))/\Sm (.sl (.sl af)) (rows.foldl M.fK []):=by
 have key:∀(ys zs:List (List af.D)) (v:List (List af.D)),rows=zs++ys->v.length<=zs.length->(∀x∈v,Sm (.sl af) x)->aU f ys v=some (.inl (ys.foldl M.fK v))/\(ys.foldl M.fK v).length<=rows.length/\∀x∈ys.foldl M.fK v,Sm (.sl af) x:=by
  intro ys
  induction ys with
  | nil=>intro zs v e hl hv;exact⟨rfl,by rw[e];simpa using hl,hv⟩
  | cons y ys ih=>
   intro zs v e hl hv
   have hle:=h.1
   have hlen:rows.length=zs.length+(ys.length+1):=by rw[e];simp
   have hy:y∈rows:=by rw[e];simp
   obtain⟨q1,q2⟩:=M.DJ v y
   rw[ck,hf y v hy ⟨⟨by omega,hv⟩,by omega⟩,bE,List.foldl_cons]
   refine ih (zs++[y]) _ (by rw[e];simp) (by simp;omega) (fun x hx=>?_)
   rcases q2 x hx with hx | hx
   ·exact hv x hx
   ·rw[hx];exact h.2 y hy
 obtain⟨k1,k2,k3⟩:=key rows [] [] rfl (by simp) (fun x hx=>by cases hx)
 exact⟨k1,Nat.le_trans k2 h.1,k3⟩
theorem xw {LK:List ai.D} (ht:M.bw LK=true) (hts:Sm (.sl ai) LK):∀(xs:List ah.D) (st st':fC) (all:List (List (List af.D))),M.Rows st all->M.dH (M.bg LK) xs st=some st'->M.Rows st' (xs.foldl (M.fD LK) all)
 | [],st,st',all,hR,h=>by cases h;exact hR
 | x::xs,st,st',all,hR,h=>by
  unfold M.dH at h
  cases hp:M.bg LK st x with
  | none=>rw[hp] at h;cases h
  | some st1=>
   rw[hp] at h
   exact xw ht hts xs st1 st' _ (M.BY ht hts hR hp).2 h
theorem Ca:M.Rows ([],[]) []:=⟨rfl,rfl,fun j j0 j1=>by simp at j1;omega⟩
theorem zy {LK:List ai.D} {plan:List ah.D} (h:M.bU LK plan=true):M.bw LK=true/\∃st,M.dH (M.bg LK) plan ([],[])=some st:=by
 unfold M.bU at h
 obtain⟨h1,h2⟩:=Bool.and_eq_true_iff.1 h
 refine⟨(Bool.and_eq_true_iff.1 h2).1,?_⟩
 unfold M.dM at h1
 cases hr:M.iM LK plan with
 | none=>rw[hr] at h1;cases h1
 | some st=>exact⟨st,hr⟩
theorem Ay {LK:List ai.D} {plan:List ah.D} (hts:Sm (.sl ai) LK) (hp:Sm (.sl ah) plan) (h:M.bU LK plan=true):∃st,M.dH (M.bg LK) plan ([],[])=some st/\M.Rows st (M.cQ LK plan):=by
 obtain⟨ht,st,hs⟩:=zy h
 exact⟨st,hs,xw ht hts plan _ _ _ Ca hs⟩
theorem Ch {st:fC} {all:List (List (List af.D))} (h:M.Rows st all) (hl:all.length<=1048576):Sm (.sl (.sl (.sl af))) all:=by
 refine⟨hl,fun R hR=>?_⟩
 obtain⟨k,hk,e⟩:=List.getElem_of_mem hR
 have:=(h.2.2 (k:Int) (by omega) (by omega)).2.2.2.1
 rw[qI (t:=.sl (.sl af)) (by omega) (by omega)] at this
 have e2:all[((k:Int)).toNat]'(by simpa using hk)=R:=by simpa using e
 rw[e2] at this
 exact this
theorem GH {LK:List ai.D} {plan:List ah.D} {f:ah.D->List (List (List af.D))->Option (Sum (List (List (List af.D))) Unit)} (hts:Sm (.sl ai) LK) (hp:Sm (.sl ah) plan) (h:M.bU LK plan=true)
  (hf:∀z v,Sm (.sl (.sl (.sl af))) v->M.sI LK v z->v.length<1048576->f z v=some (.inl (M.fD LK v z))) :
  aU f plan []=some (.inl (plan.foldl (M.fD LK) []))/\(plan.foldl (M.fD LK) []).length=plan.length:=by
 obtain⟨ht,st,hs⟩:=zy h
 have key:∀(ys zs:List ah.D) (st st':fC) (v:List (List (List af.D))),plan=zs++ys->v.length=zs.length->M.Rows st v->M.dH (M.bg LK) ys st=some st'->aU f ys v=some (.inl (ys.foldl (M.fD LK) v))/\(ys.foldl (M.fD LK) v).length=plan.length:=by
  intro ys
  induction ys with
  | nil=>intro zs st st' v e hl hR _;exact⟨rfl,by rw[e];simpa using hl⟩
  | cons y ys ih=>
   intro zs st st' v e hl hR hs
   unfold M.dH at hs
   cases hq:M.bg LK st y with
   | none=>rw[hq] at hs;cases hs
   | some st1=>
    rw[hq] at hs
    obtain⟨q1,q2⟩:=M.BY ht hts hR hq
    have hle:=hp.1
    have hlen:plan.length=zs.length+(ys.length+1):=by rw[e];simp
    rw[ck,hf y v (Ch hR (by omega)) q1 (by omega),bE,List.foldl_cons]
    exact ih (zs++[y]) st1 st' _ (by rw[e];simp) (by unfold M.fD;simp[hl]) q2 hs
 exact key plan [] _ st [] rfl rfl Ca hs
end Go.AE
namespace Go.AE
open Go Go.RowKit
theorem Dc (LK:List ai.D) (plan:List ah.D):(M.cQ LK plan).length=plan.length:=by
 have key:∀(l:List ah.D) (v:List (List (List af.D))),(l.foldl (M.fD LK) v).length=v.length+l.length:=by
  intro l
  induction l with
  | nil=>intro v;rfl
  | cons x l ih=>
   intro v
   rw[List.foldl_cons,ih]
   unfold M.fD
   simp
   omega
 have:=key plan []
 unfold M.cQ
 simpa using this
theorem nL {LK:List ai.D} {plan:List ah.D} (hts:Sm (.sl ai) LK) (hp:Sm (.sl ah) plan):Sm (.sl (.sl af)) (M.dZ LK plan):=by
 unfold M.dZ
 cases h:M.bU LK plan with
 | false=>exact kJ _
 | true=>
  obtain⟨st,_,hR⟩:=Ay hts hp h
  exact aO (Ch hR (by rw[Dc];exact hp.1)) _
theorem vV {α β:Type} {f:α->List β->Option (Sum (List β) Unit)} (F:α->List β) (xs:List α) (B:Nat) (hB:∀x∈xs,(F x).length<=B) (s0:List β)
  (h:∀x∈xs,∀s:List β,s.length<=s0.length+xs.length * B->f x s=some (.inl (s++F x))):aU f xs s0=some (.inl (s0++xs.flatMap F)):=by
 have key:∀(ys zs:List α) (s:List β),xs=zs++ys->s.length<=s0.length+zs.length * B->aU f ys s=some (.inl (s++ys.flatMap F)):=by
  intro ys
  induction ys with
  | nil=>intro zs s _ _;simp[aU]
  | cons y ys ih=>
   intro zs s e hs
   have hb:=hB y (by rw[e];simp)
   have hm:zs.length * B<=xs.length * B:=Nat.mul_le_mul_right _ (by rw[e];simp)
   rw[ck,h y (by rw[e];simp) s (by omega),bE,ih (zs++[y]) _ (by rw[e];simp) (by rw[List.length_append,List.length_append,Nat.add_mul];simp;omega),List.flatMap_cons,List.append_assoc]
 simpa using key xs [] s0 rfl (by simp)
theorem FI {t:Ty} {β:Type} {f:Int->List β->Option (Sum (List β) Unit)} (F:t.D->List β) (xs:List t.D) (B:Nat) (hB:∀x∈xs,(F x).length<=B) (s0:List β)
  (h:∀(i:Int) (s:List β),0<=i->i<(xs.length:Int)->s.length<=s0.length+xs.length * B->f i s=some (.inl (s++F (nth xs i)))):aU f (aT 0 (xs.length:Int)) s0=some (.inl (s0++xs.flatMap F)):=by
 have key:∀(n:Nat) (i:Int) (s:List β),(xs.length:Int)-i=n->0<=i->s.length<=s0.length+i.toNat * B->aU f (aT i (xs.length:Int)) s=some (.inl (s++(xs.drop i.toNat).flatMap F)):=by
  intro n
  induction n with
  | zero=>
   intro i s hn h0 hs
   rw[gy (by omega),List.drop_eq_nil_of_le (by omega)]
   simp[aU]
  | succ n ih=>
   intro i s hn h0 hs
   have hlt:i<(xs.length:Int):=by omega
   have hd:=wz (t:=t) (xs:=xs) (i:=i) h0 hlt
   have hb:=hB _ (hU (t:=t) h0 hlt)
   have hm:i.toNat * B<=xs.length * B:=Nat.mul_le_mul_right _ (by omega)
   have e1:(i+1).toNat=i.toNat+1:=by omega
   rw[hY hlt,ck,h i s h0 hlt (by omega),bE,ih (i+1) _ (by omega) (by omega) (by rw[e1,List.length_append,Nat.succ_mul];omega),hd,List.flatMap_cons,e1,List.append_assoc]
 simpa using key xs.length 0 s0 (by omega) (by omega) (by simp)
theorem Ea {α β:Type} (g:α->β):∀xs:List α,xs.flatMap (fun x=>[g x])=xs.map g
 | []=>rfl
 | x::xs=>by rw[List.flatMap_cons,Ea g xs];rfl
theorem xq {α:Type} (p:α->Bool):∀xs:List α,xs.flatMap (fun x=>cond (p x) [x] [])=xs.filter p
 | []=>rfl
 | x::xs=>by
  rw[List.flatMap_cons,xq p xs]
  cases h:p x<;>simp[h]
theorem xT (e:List aD.D) (r:List af.D):∀xs:List (List af.D),xs.flatMap (fun q=>cond (M.holds (r++q) e) [r++q] [])=M.joined e r xs
 | []=>rfl
 | x::xs=>by
  rw[List.flatMap_cons,xT e r xs]
  unfold M.joined
  rw[List.map_cons]
  cases h:M.holds (r++x) e<;>simp[h]
end Go.AE
