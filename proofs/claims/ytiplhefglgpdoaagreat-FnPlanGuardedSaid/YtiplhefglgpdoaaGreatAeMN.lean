/- Guards, copies and plans: plain Lean. -/
import Derived.Test.YtiplhefglgpdoaaGreatAeMark
namespace Go.AE
open Go Go.RowKit
set_option linter.unusedVariables false
def M.holds (row:List aa.D) (e:List aC.D):Bool:=Ty.beq aa (M.lT row e) (M.valueOf 1)
def M.lB (tables:List ax.D) (guards:List az.D) (i:Int):Bool:=
 M.inR (nth (t:=az) guards i).1 0 ((tables.length:Int)-1)&&(decide (M.bT (nth (t:=ax) tables (nth (t:=az) guards i).1).1 (nth (t:=az) guards i).2.1=3) &&
  (!decide (0<i)||!decide ((nth (t:=az) guards i).1<=(nth (t:=az) guards (i-1)).1)))
def M.bH (tables:List ax.D) (guards:List az.D):Bool:=M.bN tables&&(aQ 0 (guards.length:Int)).all (M.lB tables guards)
def M.eg (v:List ax.D) (g:az.D):List ax.D:=
 v.set g.1.toNat ((nth (t:=ax) v g.1).1,List.filter (fun r=>M.holds r g.2.1) (nth (t:=ax) v g.1).2.1,())
def M.bf (tables:List ax.D) (guards:List az.D):List ax.D:=cond (M.bH tables guards) (guards.foldl M.eg tables) []
namespace M
theorem jl {α:Type} (xs:List α):ai xs (some ((0:Int),(xs.length:Int)))=xs:=by
 unfold ai
 simp
theorem fP {α:Type} (xs:List α):xs.take ((xs.length:Int)).toNat=xs:=by simp
theorem BW {α ρ:Type} {f:α->List α->Option (Sum (List α) ρ)} (p:α->Bool) {xs:List α} (h:∀x∈xs,∀s:List α,s.length<xs.length->f x s=some (.inl (cond (p x) (s++[x]) s))) :
  aO f xs []=some (.inl (xs.filter p)):=by
 have key:∀(ys zs:List α) (s:List α),xs=zs++ys->s.length<=zs.length->aO f ys s=some (.inl (s++ys.filter p)):=by
  intro ys
  induction ys with
  | nil=>intro zs s _ _;simp[aO]
  | cons y ys ih=>
   intro zs s e hs
   rw[bS,h y (by rw[e];simp) s (by rw[e];simp;omega),bq]
   cases hp:p y with
   | true=>
    have:=ih (zs++[y]) (s++[y]) (by rw[e];simp) (by simp;omega)
    rw[cond_true,this]
    simp[hp]
   | false=>
    have:=ih (zs++[y]) s (by rw[e];simp) (by simp;omega)
    rw[cond_false,this]
    simp[hp]
 simpa using key xs [] [] (by simp) (by simp)
theorem vG {α σ ρ:Type} {f:α->σ->Option (Sum σ ρ)} (g:σ->α->σ) (I:σ->Prop) {xs:List α} {s:σ} (h0:I s)
  (h:∀x∈xs,∀s,I s->f x s=some (.inl (g s x))/\I (g s x)):aO f xs s=some (.inl (xs.foldl g s))/\I (xs.foldl g s):=by
 induction xs generalizing s with
 | nil=>exact⟨rfl,h0⟩
 | cons x xs ih=>
  obtain⟨h1,h2⟩:=h x (by simp) s h0
  rw[bS,h1,bq]
  exact ih h2 (fun y hy=>h y (by simp[hy]))
theorem rF {t:Ty} {xs:List t.D}:cond (decide ((xs.length:Int)=(0:Int))) (some ([]:List t.D)) (some (xs.take (xs.length:Int).toNat))=some xs:=by
 rw[fP]
 cases xs with
 | nil=>rfl
 | cons x xs=>rw[decide_eq_false (by simp;omega)];rfl
theorem Ad {B:Nat} {t:Ty} {xs:List t.D} (p:t.D->Bool) (h:SmB B (.sl t) xs):SmB B (.sl t) (xs.filter p):=⟨Nat.le_trans (List.length_filter_le _ _) h.1,fun x hx=>h.2 x (List.mem_filter.1 hx).1⟩
theorem tX {α:Type} (xs:List α):xs.map (fun x=>x)=xs:=by simp
def dx (tables v:List ax.D):Prop:=v.length=tables.length/\∀i:Int,0<=i->i<(tables.length:Int)->(nth (t:=ax) v i).1=(nth (t:=ax) tables i).1 ∧
 (nth (t:=ax) v i).2.1.length<=(nth (t:=ax) tables i).2.1.length/\∀r∈(nth (t:=ax) v i).2.1,r∈(nth (t:=ax) tables i).2.1
theorem dx.refl (tables:List ax.D):dx tables tables:=⟨rfl,fun _ _ _=>⟨rfl,Nat.le_refl _,fun _ h=>h⟩⟩
theorem pq {t:Ty} {a:List t.D} {i j:Int} {z:t.D} (h0:0<=i) (h1:0<=j) (hne:i≠j):nth (t:=t) (a.set i.toNat z) j=nth a j:=by
 have:i.toNat≠j.toNat:=by omega
 unfold nth
 rw[List.getD_eq_getElem?_getD,List.getD_eq_getElem?_getD,List.getElem?_set_ne this]
theorem dx.step {tables v:List ax.D} (h:dx tables v) {g:az.D} (h0:0<=g.1) (h1:g.1<(tables.length:Int)):dx tables (eg v g):=by
 refine⟨by unfold eg;simp[h.1],fun i i0 i1=>?_⟩
 have hl:g.1<(v.length:Int):=by rw[h.1];exact h1
 by_cases e:g.1=i
 ·subst e
  obtain⟨q1,q2,q3⟩:=h.2 _ i0 i1
  unfold eg
  rw[AY i0 hl]
  exact⟨q1,Nat.le_trans (List.length_filter_le _ _) q2,fun r hr=>q3 r (List.mem_filter.1 hr).1⟩
 ·unfold eg
  rw[pq h0 i0 e]
  exact h.2 i i0 i1
theorem dx.sm {tables v:List ax.D} (h:dx tables v) (hs:Sm (.sl ax) tables):Sm (.sl ax) v:=by
 refine⟨by rw[h.1];exact hs.1,fun t ht=>?_⟩
 obtain⟨k,hk,e⟩:=List.getElem_of_mem ht
 have hi:(k:Int)<(tables.length:Int):=by rw[<-h.1];omega
 have hn:nth (t:=ax) v (k:Int)=t:=by
  unfold nth
  rw[List.getD_eq_getElem?_getD]
  simp[hk,e]
 obtain⟨q1,q2,q3⟩:=h.2 (k:Int) (by omega) hi
 rw[hn] at q1 q2 q3
 have hm:=aN hs (k:Int)
 refine⟨by rw[q1];exact hm.1,⟨Nat.le_trans q2 hm.2.1.1,fun r hr=>hm.2.1.2 r (q3 r hr)⟩,trivial⟩
theorem mY {tables:List ax.D} {guards:List az.D} (h:bH tables guards=true) {g:az.D} (hg:g∈guards) :
  (0<=g.1/\g.1<(tables.length:Int))/\bT (nth (t:=ax) tables g.1).1 g.2.1=3/\bN tables=true:=by
 unfold bH at h
 obtain⟨h1,h2⟩:=Bool.and_eq_true_iff.1 h
 obtain⟨k,hk,e⟩:=List.getElem_of_mem hg
 have:=List.all_eq_true.1 h2 (k:Int) (eY.2 ⟨by omega,by omega⟩)
 have hn:nth (t:=az) guards (k:Int)=g:=by
  unfold nth
  rw[List.getD_eq_getElem?_getD]
  simp[hk,e]
 unfold lB at this
 rw[hn] at this
 obtain⟨q1,q2⟩:=Bool.and_eq_true_iff.1 this
 obtain⟨q2,_⟩:=Bool.and_eq_true_iff.1 q2
 have a0:=ew q1
 have a1:=mZ q1
 exact⟨⟨a0,Int.lt_of_le_sub_one a1⟩,of_decide_eq_true q2,h1⟩
theorem Bm {tables:List ax.D} (h:bN tables=true) {i:Int} (h0:0<=i) (h1:i<(tables.length:Int)) {r:List aa.D} (hr:r∈(nth (t:=ax) tables i).2.1):r.length=(nth (t:=ax) tables i).1.length:=by
 have hm:=qi (t:=ax) h0 h1
 unfold bN at h
 obtain⟨_,h2⟩:=Bool.and_eq_true_iff.1 h
 have h3:=List.all_eq_true.1 h2 _ hm
 unfold cY at h3
 obtain⟨_,h4⟩:=Bool.and_eq_true_iff.1 h3
 unfold gb at h4
 obtain⟨_,h5⟩:=Bool.and_eq_true_iff.1 h4
 have h6:=List.all_eq_true.1 h5 r hr
 unfold cA at h6
 simp only[Bool.and_eq_true,decide_eq_true_eq] at h6
 omega
theorem He {tables:List ax.D} {guards:List az.D} (hs:Sm (.sl ax) tables):Sm (.sl ax) (bf tables guards):=by
 unfold bf
 cases h:bH tables guards with
 | false=>exact gR _
 | true=>
  have key:∀(l:List az.D) (v:List ax.D),(∀g∈l,g∈guards)->dx tables v->dx tables (l.foldl eg v):=by
   intro l
   induction l with
   | nil=>intro v _ hv;exact hv
   | cons g l ih=>
    intro v hl hv
    have:=(mY h (hl g (by simp))).1
    exact ih _ (fun x hx=>hl x (by simp[hx])) (hv.step this.1 this.2)
  exact(key guards tables (fun _ h=>h) (dx.refl tables)).sm hs
end M
end Go.AE
