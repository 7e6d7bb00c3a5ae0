/- What the rules of plans leave as it is: plain Lean. -/
import Derived.Test.YtmkgiaecgkicoaaGreatAeEqV
import Derived.Test.YtmkgiaecgkicoaaGreatAeEqH
import Derived.Test.YtmkgiaecgkicoaaGreatAeF
import Derived.Test.YtmkgiaecgkicoaaGreatAeEqI
import Derived.Test.YtmkgiaecgkicoaaGreatAeEqR
section
namespace Go.AE
open Go Go.RowKit
set_option linter.unusedVariables false
namespace M
theorem xP {row vs:List af.D} {p:aD.D}:(jo row vs p).length=vs.length-(takes p).toNat+1:=by
 unfold jo
 rw[List.length_append,List.length_take,List.length_singleton]
 omega
end M
end Go.AE
end
section
namespace Go.AE
open Go Go.RowKit
set_option linter.unusedVariables false
set_option linter.unusedSimpArgs false
namespace M
end M
end Go.AE
end
section
namespace Go.AE
open Go Go.RowKit
set_option linter.unusedVariables false
namespace M
abbrev TRs:Ty:=.sl (.sl af)
theorem HT {t:Ty} {xs:List t.D} {n:Nat} {i:Int} (h0:0<=i) (h1:i<(n:Int)):@nth t (xs.take n) i=@nth t xs i:=by
 unfold nth
 rw[List.getD_eq_getElem?_getD,List.getD_eq_getElem?_getD,List.getElem?_take_of_lt (by omega)]
section
variable {plan new:List ah.D} {a:Nat} (ha:a<plan.length)
include ha
end
section
variable {LK:List ai.D} {R:List (List (List af.D))}
end
end M
end Go.AE
end
section
namespace Go.AE
open Go Go.RowKit
set_option linter.unusedVariables false
end Go.AE
end
section
namespace Go.AE
open Go Go.RowKit
set_option linter.unusedVariables false
namespace M
end M
end Go.AE
end
section
namespace Go.AE
open Go Go.RowKit
set_option linter.unusedVariables false
namespace M
def HP (A B:List ai.D):Prop:=A.length=B.length/\(∀i:Int,0<=i->(@nth ai A i).1=(@nth ai B i).1)/\bw A=bw B
theorem Hv {A B:List ai.D} (h:HP A B) (LN:List (List ag.D)) (s:ah.D):bF A LN s=bF B LN s:=by
 unfold bF
 rw[h.1]
 by_cases h0:0<=s.2.2.2.1
 ·rw[h.2.1 _ h0]
 ·have:inR s.2.2.2.1 0 ((B.length:Int)-1)=false:=by
   unfold inR
   rw[decide_eq_false h0]
   rfl
  rw[this]
  rfl
theorem FT {A B:List ai.D} (h:HP A B) (plan:List ah.D):bU A plan=bU B plan:=by
 have e:bg A=bg B:=by
  funext st s
  unfold bg
  rw[Hv h]
 unfold bU dM iM
 rw[e,h.2.2]
end M
end Go.AE
end
section
namespace Go.AE
open Go Go.RowKit
set_option linter.unusedVariables false
namespace M
theorem mE {LK:List ai.D} {plan:List ah.D} (hts:Sm (.sl ai) LK) (hp:Sm (.sl ah) plan):(dZ LK plan).length<=300:=by
 unfold dZ
 cases h:bU LK plan with
 | false=>exact Nat.zero_le _
 | true=>
  obtain⟨st,_,hR⟩:=Ay hts hp h
  rw[cond_true]
  by_cases h0:plan.length=0
  ·have:plan=[]:=List.length_eq_zero_iff.1 h0
   rw[this]
   exact Nat.zero_le _
  ·obtain⟨h1,h2,_⟩:=hR.2.2 ((plan.length:Int)-1) (by omega) (by rw[Dc];omega)
   exact Int.ofNat_le.1 (Int.le_trans h1 h2)
theorem tW {ts:List ai.D} {c:aK.D} (h:cJ ts c=true):HP (bP ts c) ts:=⟨(ud h).1,(ud h).2,by rw[Ez h,(gj h).1]⟩
theorem xM {A B:List ai.D} (h:HP A B) (gs:List aI.D):bS A gs=bS B gs:=by
 have e:mC A gs=mC B gs:=by
  funext i
  unfold mC
  rw[h.1]
  by_cases h0:0<=(@nth aI gs i).1
  ·rw[h.2.1 _ h0]
  ·rw[Jn h0]
   rfl
 unfold bS
 rw[e,h.2.2]
theorem Cf {A B:List ai.D} (h:HP A B) (gs:List aI.D) (plan:List ah.D):bB A gs plan=bB B gs plan:=by
 unfold bB
 rw[xM h,FT h]
theorem Fq {LK:List ai.D} {gs:List aI.D} (h:bS LK gs=true) {g:aI.D} (hg:g∈gs):guardOf gs g.1=(g.2.1,true):=by
 unfold guardOf
 cases hf:gs.find? (fun x:aI.D=>decide (x.1=g.1)) with
 | none=>
  rw[List.find?_eq_none] at hf
  have:=hf g hg
  simp at this
 | some x=>
  have hx:=List.mem_of_find?_eq_some hf
  have he:x.1=g.1:=by
   have:=List.find?_some hf
   exact of_decide_eq_true this
  have hr:=List.pairwise_iff_getElem.1 (xQ h)
  obtain⟨i,hi,ei⟩:=List.getElem_of_mem hx
  obtain⟨j,hj,ej⟩:=List.getElem_of_mem hg
  have:i=j:=by
   rcases Nat.lt_trichotomy i j with q | q | q
   ·have:=hr i j hi hj q
    rw[ei,ej,he] at this
    exact absurd this (Int.lt_irrefl _)
   ·exact q
   ·have:=hr j i hj hi q
    rw[ei,ej,he] at this
    exact absurd this (Int.lt_irrefl _)
  subst this
  rw[<-ej,ei]
theorem HI {rows:List (List af.D)} {x:List af.D} (h:0<=rowAt rows x):∃hk:(rowAt rows x).toNat<rows.length,rows[(rowAt rows x).toNat]=x:=by
 unfold rowAt idx at h ⊢
 cases hf:rows.findIdx? (fun e=>decide (e=x)) with
 | none=>rw[hf] at h;exact absurd h (by decide)
 | some k=>
  obtain⟨h1,h2,_⟩:=List.findIdx?_eq_some_iff_getElem.1 hf
  exact⟨h1,of_decide_eq_true h2⟩
theorem Fj {ts:List ai.D} {gs:List aI.D} {c:aK.D} (hc:cJ ts c=true) (hg:bS ts gs=true) {g:aI.D} (hm:g∈gs) (hi:g.1=c.1) (hh:holds c.2.1 g.2.1=false):bN (bP ts c) gs=bN ts gs:=by
 have hg':bS (bP ts c) gs=true:=by rw[xM (tW hc)];exact hg
 have hcols:=ud hc
 obtain⟨_,⟨c0,c1⟩,_,_,h6⟩:=gj hc
 refine JW (t:=ai) (((ow hg').1.trans hcols.1).trans (ow hg).1.symm) fun i i0=>?_
 rw[(ow hg').2 i i0,(ow hg).2 i i0]
 by_cases e:c.1=i
 ·subst e
  rw[<-hi,Fq hg hm,cond_true,cond_true,hi,hcols.2 _ c0]
  have hr:=Fm hc c0
  rw[if_pos rfl] at hr
  unfold rowsOf at hr
  rw[hr]
  refine Prod.ext rfl (Prod.ext ?_ rfl)
  show List.filter (fun r=>holds r g.2.1) (gJ (@nth ai ts c.1).2.1 c)=List.filter (fun r=>holds r g.2.1) (@nth ai ts c.1).2.1
  unfold gJ
  cases hcm:c.2.2.1 with
  | true=>
   rw[cond_true,List.filter_append,List.filter_cons,hh]
   simp
  | false=>
   obtain⟨k1,k2⟩:=HI (h6 hcm)
   exact EM _ _ _ k1 (by unfold rowsOf at k2;rw[k2];exact hh)
 ·have:@nth ai (bP ts c) i=@nth ai ts i:=by
   unfold bP
   exact vT c0 i0 e
  rw[this]
theorem hidden {ts:List ai.D} {gs:List aI.D} {plan:List ah.D} {c:aK.D} (h:(bB ts gs plan).2=true) (hc:cJ ts c=true) {g:aI.D} (hm:g∈gs) (hi:g.1=c.1) (hh:ld (@nth ai ts c.1).1 c.2.1 g.2.1=false) :
  dZ ts (bB ts gs plan).1=dZ (bP ts c) (bB ts gs plan).1:=by
 have hg:=zf h
 have h1:=(uG h).2
 have hL:=Cf (tW hc) gs plan
 have h2:=(uG (LK:=bP ts c) (LL:=gs) (plan:=plan) (by rw[hL];exact h)).2
 have hk:=(ri hg hm).2.1
 have hf:=(gj hc).2.2.1
 have:holds c.2.1 g.2.1=false:=by
  unfold ld at hh
  rw[<-hi] at hh hf
  rw[hk,hf] at hh
  simpa using hh
 rw[hL,Fj hc hg hm hi this] at h2
 rw[h1,h2]
end M
end Go.AE
end
