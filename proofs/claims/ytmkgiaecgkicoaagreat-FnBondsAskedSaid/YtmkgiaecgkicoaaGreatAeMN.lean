/- Guards, copies and plans: plain Lean. -/
import Derived.Test.YtmkgiaecgkicoaaGreatAeMM
import Derived.Test.YtmkgiaecgkicoaaGreatAeX
import Derived.Test.YtmkgiaecgkicoaaGreatChecked
import Derived.KernelRfl
section
namespace Go.AE
open Go Go.RowKit
set_option linter.unusedVariables false
def M.holds (row:List aa.D) (e:List aE.D):Bool:=Ty.beq aa (M.dY row e) (M.valueOf 1)
def M.uJ (v:List ag.D) (g:lz.D):List ag.D:=
 v.set g.1.toNat ((nth (t:=ag) v g.1).1,List.filter (fun r=>M.holds r g.2.1) (nth (t:=ag) v g.1).2.1,())
namespace M
theorem uc {α:Type} (xs:List α):aD xs (some ((0:Int),(xs.length:Int)))=xs:=by
 unfold aD
 simp
theorem yI {α:Type} (xs:List α):xs.take ((xs.length:Int)).toNat=xs:=by simp
theorem vU {α ρ:Type} {f:α->List α->Option (Sum (List α) ρ)} (p:α->Bool) {xs:List α} (h:∀x∈xs,∀s:List α,s.length<xs.length->f x s=some (.inl (cond (p x) (s++[x]) s))) :
  aZ f xs []=some (.inl (xs.filter p)):=by
 have key:∀(ys zs:List α) (s:List α),xs=zs++ys->s.length<=zs.length->aZ f ys s=some (.inl (s++ys.filter p)):=by
  intro ys
  induction ys with
  | nil=>intro zs s _ _;simp[aZ]
  | cons y ys ih=>
   intro zs s e hs
   rw[dQ,h y (by rw[e];simp) s (by rw[e];simp;omega),cD]
   cases hp:p y with
   | true=>
    have:=ih (zs++[y]) (s++[y]) (by rw[e];simp) (by simp;omega)
    rw[cond_true,this]
    simp[hp]
   | false=>
    have:=ih (zs++[y]) s (by rw[e];simp) (by simp;omega)
    rw[cond_false,this]
    simp[hp]
 simpa using key xs [] [] (by simp) (by simp)
theorem AN {α σ ρ:Type} {f:α->σ->Option (Sum σ ρ)} (g:σ->α->σ) (I:σ->Prop) {xs:List α} {s:σ} (h0:I s)
  (h:∀x∈xs,∀s,I s->f x s=some (.inl (g s x))/\I (g s x)):aZ f xs s=some (.inl (xs.foldl g s))/\I (xs.foldl g s):=by
 induction xs generalizing s with
 | nil=>exact⟨rfl,h0⟩
 | cons x xs ih=>
  obtain⟨h1,h2⟩:=h x (by simp) s h0
  rw[dQ,h1,cD]
  exact ih h2 (fun y hy=>h y (by simp[hy]))
theorem vM {t:Ty} {xs:List t.D}:cond (decide ((xs.length:Int)=(0:Int))) (some ([]:List t.D)) (some (xs.take (xs.length:Int).toNat))=some xs:=by
 rw[yI]
 cases xs with
 | nil=>rfl
 | cons x xs=>rw[decide_eq_false (by simp;omega)];rfl
theorem Ca {α:Type} (xs:List α):xs.map (fun x=>x)=xs:=by simp
def eF (tables v:List ag.D):Prop:=v.length=tables.length/\∀i:Int,0<=i->i<(tables.length:Int)->(nth (t:=ag) v i).1=(nth (t:=ag) tables i).1 ∧
 (nth (t:=ag) v i).2.1.length<=(nth (t:=ag) tables i).2.1.length/\∀r∈(nth (t:=ag) v i).2.1,r∈(nth (t:=ag) tables i).2.1
theorem eF.refl (tables:List ag.D):eF tables tables:=⟨rfl,fun _ _ _=>⟨rfl,Nat.le_refl _,fun _ h=>h⟩⟩
theorem Dg {t:Ty} {a:List t.D} {i j:Int} {z:t.D} (h0:0<=i) (h1:0<=j) (hne:i≠j):nth (t:=t) (a.set i.toNat z) j=nth a j:=by
 have:i.toNat≠j.toNat:=by omega
 unfold nth
 rw[List.getD_eq_getElem?_getD,List.getD_eq_getElem?_getD,List.getElem?_set_ne this]
theorem eF.step {tables v:List ag.D} (h:eF tables v) {g:lz.D} (h0:0<=g.1) (h1:g.1<(tables.length:Int)):eF tables (uJ v g):=by
 refine⟨by unfold uJ;simp[h.1],fun i i0 i1=>?_⟩
 have hl:g.1<(v.length:Int):=by rw[h.1];exact h1
 by_cases e:g.1=i
 ·subst e
  obtain⟨q1,q2,q3⟩:=h.2 _ i0 i1
  unfold uJ
  rw[Hi i0 hl]
  exact⟨q1,Nat.le_trans (List.length_filter_le _ _) q2,fun r hr=>q3 r (List.mem_filter.1 hr).1⟩
 ·unfold uJ
  rw[Dg h0 i0 e]
  exact h.2 i i0 i1
theorem xy {tables:List ag.D} (h:aH tables=true) {i:Int} (h0:0<=i) (h1:i<(tables.length:Int)) {r:List aa.D} (hr:r∈(nth (t:=ag) tables i).2.1):r.length=(nth (t:=ag) tables i).1.length:=by
 have hm:=cI (t:=ag) h0 h1
 unfold aH at h
 obtain⟨_,h2⟩:=Bool.and_eq_true_iff.1 h
 have h3:=List.all_eq_true.1 h2 _ hm
 unfold dr at h3
 obtain⟨_,h4⟩:=Bool.and_eq_true_iff.1 h3
 unfold gp at h4
 obtain⟨_,h5⟩:=Bool.and_eq_true_iff.1 h4
 have h6:=List.all_eq_true.1 h5 r hr
 unfold bI at h6
 simp only[Bool.and_eq_true,decide_eq_true_eq] at h6
 omega
end M
end Go.AE
end
section
namespace Go.AE
open Go Go.RowKit
set_option linter.unusedVariables false
abbrev FV:Ty:=.pair (.sl ax) (.pair (.int .i64) .unit)
def M.two (k:Int):Bool:=decide (k=4)||decide (k=5)
def M.eR (s:qk.D):Bool:=(!decide (s.1=(1:Int))||decide (s.2.1=(0:Int)))&&((two s.1||decide (s.2.2.1=(0:Int)))&&((decide (s.1=(1:Int))||decide (s.2.2.2.1=(0:Int))) &&
 ((decide (s.1=(2:Int))||decide (s.1=(4:Int))||decide ((s.2.2.2.2.1.length:Int)=(0:Int)))&&(decide (s.1=(3:Int))||decide ((s.2.2.2.2.2.1.length:Int)=(0:Int))))))
abbrev GH:Type:=List (List ax.D)×List Int
def M.ren (to:List Int) (s:qk.D):qk.D:=(s.1,cond (decide (s.1=(1:Int))) s.2.1 (nth (t:=.int .i64) to s.2.1),cond (two s.1) (nth (t:=.int .i64) to s.2.2.1) s.2.2.1,s.2.2.2)
namespace M
theorem yd {σ ρ:Type} {f:Int->σ->Option (Sum σ ρ)} (g:σ->Int->σ) (I:Int->σ->Prop) (N:Nat) {s:σ} (h0:I 0 s)
  (h:∀(i:Int) (s:σ),0<=i->i<(N:Int)->I i s->f i s=some (.inl (g s i))/\I (i+1) (g s i)) :
  aZ f (aP 0 (N:Int)) s=some (.inl ((aP 0 (N:Int)).foldl g s))/\I (N:Int) ((aP 0 (N:Int)).foldl g s):=by
 have key:∀(n:Nat) (i:Int) (s:σ),(N:Int)-i=n->0<=i->I i s->aZ f (aP i (N:Int)) s=some (.inl ((aP i (N:Int)).foldl g s))/\I (N:Int) ((aP i (N:Int)).foldl g s):=by
  intro n
  induction n with
  | zero=>
   intro i s hn h0 hI
   rw[jI (by omega)]
   have:i=(N:Int):=by omega
   subst this
   exact⟨rfl,hI⟩
  | succ n ih=>
   intro i s hn h0 hI
   obtain⟨h1,h2⟩:=h i s h0 (by omega) hI
   rw[iR (by omega),dQ,h1,cD]
   exact ih (i+1) _ (by omega) (by omega) h2
 exact key N 0 s (by omega) (by omega) h0
end M
end Go.AE
end
section
namespace Go.AE
open Go Go.RowKit
set_option linter.unusedVariables false
namespace M
def mb (st st':GH) (to:List Int) (k:Int):Prop:=(st.1.length:Int)=k/\(st.2.length:Int)=k/\st'.1.length=st'.2.length ∧
 ∀j:Int,0<=j->j<k->(0<=nth (t:=.int .i64) to j/\nth (t:=.int .i64) to j<(st'.1.length:Int))/\nth (t:=.sl ax) st'.1 (nth (t:=.int .i64) to j)=nth (t:=.sl ax) st.1 j/\nth (t:=.int .i64) st'.2 (nth (t:=.int .i64) to j)=nth (t:=.int .i64) st.2 j
theorem Hv {n N:Int}:inR n 0 (N-1)=true ↔ 0<=n/\n<N:=by
 unfold inR
 simp
 omega
end M
end Go.AE
namespace Go.AE
open Go Go.RowKit
end Go.AE
end
section
namespace Go.AE
open Go Go.RowKit
def mu:Env->Env
 | []=>[]
 | (j,v)::l=>(Nat.add j bH,v)::mu l
def mY:Env->Env
 | []=>[]
 | (j,v)::l=>bif Nat.ble bH j then (Nat.sub j bH,v)::mY l else mY l
def Bt (E:Tab) (deep:Bool) (rs:List ResultVar) (K:AV->St->Prop) (s:St):Prop:=match rs with
 | [r]=>cB (qI E deep s r) fun p=>K p.1 ⟨mY p.2.env,p.2.hp⟩
 | rs=>cB (qv E deep rs s) fun p=>K (.tup p.1) ⟨mY p.2.env,p.2.hp⟩
def Jo (E:Tab) (deep:Bool) (rs:List ResultVar) (K:AV->St->Prop):X->St->Prop
 | .normal,s=>Bt E deep rs K s
 | .ret,s=>Bt E deep rs K s
 | .exit _,_=>False
def ay:bD:=fun _ _ _ _=>False
def xW (C:Ctx) (ann:Nat->List Dir) (code:Code) (rs:List ResultVar):Inl:=fun args s K=>
 bif Nat.ble args.length C.n&&Nat.ble C.n bH then awp C ay ann code ⟨nx 0 args++mu s.env,s.hp⟩ (Jo C.tab C.deep rs K) else False
theorem lookup_append {α:Type}:∀(l k:List (Nat×α)) (j:Nat),lookup (l++k) j=match lookup l j with | some v=>some v | none=>lookup k j
 | [],k,j=>by simp[lookup]
 | (i,x)::l,k,j=>by
  rw[List.cons_append,lookup_cons,lookup_cons]
  by_cases h:i=j
  ·rw[if_pos h,if_pos h]
  ·rw[if_neg h,if_neg h]
   exact lookup_append l k j
theorem uF:∀(e:Env) (j:Nat) (v:AV),lookup (mu e) j=some v->∃k,j=k+bH/\lookup e k=some v
 | [],j,v,h=>by simp[mu,lookup] at h
 | (i,x)::l,j,v,h=>by
  unfold mu at h
  rw[lookup_cons] at h
  split at h
  ·rename_i e
   cases h
   exact⟨i,e.symm,by rw[lookup_cons,if_pos rfl]⟩
  ·rename_i hne
   obtain⟨k,hk,hl⟩:=uF l j v h
   refine⟨k,hk,?_⟩
   rw[lookup_cons,if_neg ?_]
   ·exact hl
   ·rintro rfl
    exact hne hk.symm
theorem mj:∀(e:Env) (k:Nat) (v:AV),lookup (mY e) k=some v->lookup e (k+bH)=some v
 | [],k,v,h=>by simp[mY,lookup] at h
 | (i,x)::l,k,v,h=>by
  unfold mY at h
  cases hb:Nat.ble bH i with
  | false=>
   rw[hb] at h
   have hlt:¬bH<=i:=by intro hc;rw[Nat.ble_eq_true_of_le hc] at hb;cases hb
   rw[lookup_cons,if_neg (by omega)]
   exact mj l k v h
  | true=>
   rw[hb] at h
   simp only[cond_true] at h
   have hle:bH<=i:=Nat.le_of_ble_eq_true hb
   rw[lookup_cons] at h
   have hs:Nat.sub i bH=i-bH:=rfl
   split at h
   ·rename_i e
    rw[hs] at e
    cases h
    rw[lookup_cons,if_pos (by omega)]
   ·rename_i e
    rw[hs] at e
    rw[lookup_cons,if_neg (by omega)]
    exact mj l k v h
section
variable {P:Program} {C:Ctx} {g:Gl} {N:Nat} {s:St} {a:Act} {w:World} {φ:Names}
def Aa (g:Gl) (gh:Nat->Value):Gl:={ g with gh:=gh }
def yX (g:Gl) (a:Act) (gh:Nat->Value):Prop:=∀k,gh (k+bH)=valOf g a k
theorem Da (g:Gl) (a:Act):∃gh,yX g a gh:=⟨fun j=>valOf g a (j-bH),fun k=>by simp only[Nat.add_sub_cancel]⟩
theorem va (gh:Nat->Value) {hp:Hp} {n:Nat}:imm (Aa g gh) φ hp n=imm g φ hp n:=by unfold imm Aa;rfl
theorem rI (gh:Nat->Value):aM (Aa g gh)=aM g:=by unfold aM Aa;rfl
theorem Ce {gh:Nat->Value} {a a':Act} {k:Nat} (hg:yX g a gh):valOf (Aa g gh) a' (k+bH)=valOf g a k:=by
 have hb:Nat.blt (k+bH) bH=false:=by
  cases hb:Nat.blt (k+bH) bH with
  | false=>rfl
  | true=>rw[Nat.blt_eq] at hb;omega
 unfold valOf
 rw[hb]
 simp only[cond_false,Aa]
 exact hg k
theorem Im {gh:Nat->Value} (hg:yX g a gh) {hp:Hp} {args:List AV} {vals:List Value} {n:Nat} {e:Env} (hv:ak w (imm g φ hp w.heap.size) (aM g) φ hp args vals) (he:∀j av,lookup e j=some av->ai w (imm g φ hp w.heap.size) (aM g) φ hp av (valOf g a j))
  (hle:args.length<=n) (hgl:n<=bH) (j:Nat) (av:AV) (hj:lookup (nx 0 args++mu e) j=some av) :
  ai w (imm g φ hp w.heap.size) (aM g) φ hp av (valOf (Aa g gh) { tmps:=vals.toArray++Array.replicate (n-vals.toArray.size) undef,defers:=[] } j):=by
 have hlen:=hv.length
 rw[lookup_append] at hj
 split at hj
 ·rename_i v hla
  cases hj
  obtain⟨_,u,h1,h2⟩:=qQ hv j av hla
  have h1:vals[j]? = some u:=by simpa using h1
  have hlt:j<vals.length:=(List.getElem?_eq_some_iff.1 h1).1
  have hu:(vals.toArray++Array.replicate (n-vals.toArray.size) undef).getD j undef=u:=by
   rw[Array.getD_eq_getD_getElem?,Array.getElem?_append_left (by simpa using hlt)]
   simp[h1]
  have hjg:Nat.blt j bH=true:=by rw[Nat.blt_eq];omega
  unfold valOf
  rw[hjg]
  simp only[cond_true]
  rw[hu]
  exact h2
 ·obtain⟨k,hk0,hk⟩:=uF _ _ _ hj
  rw[hk0,Ce hg]
  exact he k av hk
theorem Ik {gh:Nat->Value} (hg:yX g a gh) {args:List AV} {vals:List Value} {n:Nat} (h:Sim g N s a w φ) (hv:ak w (imm g φ s.hp w.heap.size) (aM g) φ s.hp args vals) (hle:args.length<=n) (hgl:n<=bH) :
  Sim (Aa g gh) n ⟨nx 0 args++mu s.env,s.hp⟩ { tmps:=vals.toArray++Array.replicate (n-vals.toArray.size) undef,defers:=[] } w φ:=by
 have hlen:=hv.length
 refine⟨rfl,by simp;omega,h.os,h.tape,h.output,h.hsize,h.frame,h.inj,h.apart,h.place,fun i blk hi=>?_,fun j av hj=>?_,h.pinned⟩
 ·rw[va,rI]
  exact h.blocks i blk hi
 ·rw[va,rI]
  exact Im hg hv h.env hle hgl j av hj
theorem Ea {gh:Nat->Value} (hg:yX g a gh) {a':Act} {w':World} {s1:St} {φ1:Names} {n:Nat} (h:Sim g N s a w φ) (hs:Sim (Aa g gh) n s1 a' w' φ1):Sim g N ⟨mY s1.env,s1.hp⟩ a w' φ1:=by
 refine⟨h.defers,h.size,hs.os,hs.tape,hs.output,hs.hsize,hs.frame,hs.inj,hs.apart,hs.place,fun i blk hi=>?_,fun k av hk=>?_,hs.pinned⟩
 ·have:=hs.blocks i blk hi
  rw[va,rI] at this
  exact this
 ·have:=hs.env _ _ (mj _ _ _ hk)
  rw[va,rI,Ce hg] at this
  exact this
theorem Iu (hT:TabOk P C) (hC:dK P C) (hm:P.follows .mixedOrders=true) {f:FuncId} {fn:Func} {code:Code} (hf:P.funcs[f]? = some fn) (hb:fn.body=some code) (hN:C.n=fn.ntmps) {ann:Nat->List Dir} (hl:bM code=[]) :
  BS P f (xW C ann code fn.results.toList):=by
 intro g N s a w φ args vals K h hv hop
 unfold xW at hop
 cases hq:(Nat.ble args.length C.n&&Nat.ble C.n bH) with
 | false=>rw[hq] at hop;exact hop.elim
 | true=>
 rw[hq] at hop
 simp only[cond_true] at hop
 obtain⟨hq1,hq2⟩:=Bool.and_eq_true_iff.1 hq
 have hle:args.length<=fn.ntmps:=by rw[<-hN];exact Nat.le_of_ble_eq_true hq1
 have hgl:fn.ntmps<=bH:=by rw[<-hN];exact Nat.le_of_ble_eq_true hq2
 obtain⟨gh,hg⟩:=Da g a
 have hS:=Ik hg h hv hle hgl
 refine calls_of_wp hf hb (wp_mono (GJ (L:=ay) (ann:=ann) hT hC hN hm code (by rw[hl];intro p hp;cases hp) _ _ _ _ φ hS hop) ?_)
 intro e a' w' hq
 have fin:(∃s1 φ1,Bt C.tab C.deep fn.results.toList K s1/\Sim (Aa g gh) fn.ntmps s1 a' w' φ1)->a'.defers=[]/\∃u,(results fn a'.tmps).run P w'=.ok u w' ∧
   ∃v s' φ',K v s'/\Sim g N s' a w' φ'/\ai w' (imm g φ' s'.hp w'.heap.size) (aM g) φ' s'.hp v u:=by
  rintro ⟨s1,φ1,hk,hs⟩
  refine⟨hs.defers,?_⟩
  unfold Bt at hk
  split at hk
  ·rename_i r ht
   obtain⟨p,hp,hk⟩:=aI hk
   obtain⟨u,hrun,h1,_,hv⟩:=uG hT hs (show qI C.tab _ s1 r=some (p.1,p.2) from hp)
   rw[va,rI] at hv
   refine⟨u,?_,p.1,_,φ1,hk,Ea hg h h1,hv⟩
   rw[iZ (us:=[u]) (by rw[ht];exact .cons hrun .nil)]
   simp
  ·rename_i hne
   obtain⟨p,hp,hk⟩:=aI hk
   obtain⟨us,h1,_,h3,h4⟩:=sL hT hs (show qv C.tab _ fn.results.toList s1=some (p.1,p.2) from hp)
   rw[va,rI] at h4
   have hlen:¬us.toArray.size=1:=by
    intro e
    have e:us.length=1:=e
    rw[<-h3.length_eq] at e
    match hq:fn.results.toList,e with
    | [r],_=>exact hne r hq
   refine⟨_,iZ h3,.tup p.1,_,φ1,hk,Ea hg h h1,?_⟩
   rw[dif_neg hlen]
   simp only[ai]
   exact⟨_,rfl,h4⟩
 cases e with
 | normal=>exact fin hq
 | ret=>exact fin hq
 | exit i=>obtain⟨s,φ,hk,_⟩:=hq;exact hk.elim
 | goto l=>exact hq.elim
 | panic c=>exact hq.elim
 | outgrown=>exact hq.elim
end
theorem ln_of_fine:∀{t:Ty} {x:t.D},vP t x->Ln t x
 | .int _,_,_=>trivial
 | .bool,_,_=>trivial
 | .str,_,h=>by
  have h:(_:ByteArray).size<=Go.maxLen:=h
  exact h
 | .unit,_,_=>trivial
 | .sl _,_,h=>⟨h.1,fun y hy=>ln_of_fine (h.2 y hy)⟩
 | .pair _ _,_,h=>⟨ln_of_fine h.1,ln_of_fine h.2⟩
end Go.AE
end
section
namespace Go.AE
open Go Go.RowKit
abbrev LD {α:Type} (x:α) (p:α->Prop):Prop:=∀r,r=x->p r
structure Pat (α:Type) where
 av:α->AV
 run:AV->(α->Prop)->Prop
 elim:∀{v:AV} {k:α->Prop},run v k->∃x,v=av x/\k x
abbrev pD (t:Ty):Pat t.D:=⟨fun x=>.data t x,eP t,bg⟩
abbrev pB (t:Ty):Pat (List t.D):=⟨fun x=>.brw t x,gf t,bK⟩
abbrev pA (t:Ty):Pat t.D:=⟨fun x=>.adr t x,CE t,sN⟩
abbrev pR (t:Ty):Pat t.D:=⟨fun x=>.ref (.data t x),lC t,cY⟩
abbrev pQ (t:Ty):Pat (List t.D):=⟨fun x=>.ref (.brw t x),Du t,CI⟩
section
variable {α β γ δ ε:Type} {l:List AV} {hp:Hp}
def g1 (p:Pat α) (F:α->Prop) (l:List AV) (hp:Hp):Prop:=args1 (fun a=>p.run a F) l hp
def g2 (p:Pat α) (q:Pat β) (F:α->β->Prop) (l:List AV) (hp:Hp):Prop:=args2 (fun a b=>p.run a fun x=>q.run b fun y=>F x y) l hp
def g3 (p:Pat α) (q:Pat β) (r:Pat γ) (F:α->β->γ->Prop) (l:List AV) (hp:Hp):Prop:=qK (fun a b c=>p.run a fun x=>q.run b fun y=>r.run c fun z=>F x y z) l hp
def g4 (p:Pat α) (q:Pat β) (r:Pat γ) (s:Pat δ) (F:α->β->γ->δ->Prop) (l:List AV) (hp:Hp):Prop:=Ee (fun a b c d=>p.run a fun x=>q.run b fun y=>r.run c fun z=>s.run d fun u=>F x y z u) l hp
theorem g1e {p:Pat α} {F:α->Prop} (h0:g1 p F l hp):∃x,l=[p.av x]/\hp=[]/\F x:=by
 obtain⟨a,rfl,rfl,h1⟩:=yA h0
 obtain⟨x,rfl,h2⟩:=p.elim h1
 exact⟨x,rfl,rfl,h2⟩
theorem g2e {p:Pat α} {q:Pat β} {F:α->β->Prop} (h0:g2 p q F l hp):∃x y,l=[p.av x,q.av y]/\hp=[]/\F x y:=by
 obtain⟨a,b,rfl,rfl,h1⟩:=br h0
 obtain⟨x,rfl,h2⟩:=p.elim h1
 obtain⟨y,rfl,h3⟩:=q.elim h2
 exact⟨x,y,rfl,rfl,h3⟩
theorem g3e {p:Pat α} {q:Pat β} {r:Pat γ} {F:α->β->γ->Prop} (h0:g3 p q r F l hp):∃x y z,l=[p.av x,q.av y,r.av z]/\hp=[]/\F x y z:=by
 obtain⟨a,b,c,rfl,rfl,h1⟩:=fU h0
 obtain⟨x,rfl,h2⟩:=p.elim h1
 obtain⟨y,rfl,h3⟩:=q.elim h2
 obtain⟨z,rfl,h4⟩:=r.elim h3
 exact⟨x,y,z,rfl,rfl,h4⟩
end
def hpR (F:List Int->Int->Prop) (hp:Hp):Prop:=match hp with
 | [(k,.box [.data u b,.data v p])]=>(match Ty.eq? u (.sl (.int .u8)),Ty.eq? v (.int .i64) with
  | some ⟨h⟩,some ⟨h'⟩=>bif Nat.beq k base then F (dD h b) (dD h' p) else False
  | _,_=>False)
 | _=>False
theorem eC {F:List Int->Int->Prop} {hp:Hp} (h:hpR F hp):∃(b:List Int) (p:Int),hp=[(1000000,.box [.data (.sl (.int .u8)) b,.data (.int .i64) p])]/\F b p:=by
 unfold hpR at h
 split at h
 ·rename_i k u b v p
  split at h
  ·rename_i h1 h2 _ _
   cases h1
   cases h2
   rcases aX k base with⟨rfl,hb⟩ | ⟨_,hb⟩
   ·rw[hb] at h
    exact⟨b,p,rfl,h⟩
   ·rw[hb] at h
    exact h.elim
  ·exact h.elim
 ·exact h.elim
def lD (a:AV) (F:Prop):Prop:=match a with
 | .ptr k 0=>bif Nat.beq k base then F else False
 | _=>False
theorem cQ {a:AV} {F:Prop} (h:lD a F):a=.ptr 1000000 0/\F:=by
 unfold lD at h
 split at h
 ·rename_i k
  rcases aX k base with⟨rfl,hb⟩ | ⟨_,hb⟩
  ·rw[hb] at h;exact⟨rfl,h⟩
  ·rw[hb] at h;exact h.elim
 ·exact h.elim
theorem oG {α:Type} {p q:Prop} {x:Option α} {K:α->Prop} (h:ok (af p x) K) (k:p->ok x K->q):p/\q:=⟨(aF h).1,k (aF h).1 (aF h).2⟩
theorem oL {α β:Type} {x:α} {f:α->Option β} {K:β->Prop} {Q:α->Prop} (h:ok (aL x f) K) (k:∀r,r=x->ok (f r) K->Q r):∀r,r=x->Q r:=fun r e=>k r e (di h r e)
theorem oC {α:Type} {b:Bool} {x y:Option α} {K:α->Prop} {T U:Prop} (h:ok (cond b x y) K) (h1:b=true->ok x K->T) (h2:b=false->ok y K->U):cond b T U:=HF h h1 h2
def Gn:Nat->Nat->Nat->List Nat
 | 0,_,_=>[]
 | f+1,i,b=>bif Nat.beq b 0 then [] else bif Nat.beq (Nat.mod b 2) 1 then i::Gn f (Nat.succ i) (Nat.div b 2) else Gn f (Nat.succ i) (Nat.div b 2)
def kp (b:Nat):Dir:=.keep (Gn 400 0 b)
def Gk:List (List Dir)->Nat->List Dir
 | [],_=>[]
 | d::l,n=>match n with
  | 0=>d
  | k+1=>Gk l k
def an (l m:List (List Dir)) (n:Nat):List Dir:=bif Nat.blt n 100000 then Gk l n else Gk m (Nat.sub n 100000)
def lp1 (a:Nat) (A:Nat->St->(X->St->Prop)->Prop):bD:=fun id m s K=>bif Nat.beq id a then A m s K else False
def lp2 (a:Nat) (A:Nat->St->(X->St->Prop)->Prop) (b:Nat) (B:Nat->St->(X->St->Prop)->Prop):bD:=fun id m s K=>bif Nat.beq id a then A m s K else bif Nat.beq id b then B m s K else False
abbrev vcT (C:Ctx) (L:bD) (ann:Nat->List Dir) (fn:Func) (args:List AV) (hp:Hp) (k:RK) (K:AV->Hp->Prop):Prop:=
 awp C L ann (eG fn) ⟨nx 0 args,hp⟩ (Jf C.tab C.deep fn.results.toList (Dq hp) (CG k K))
abbrev lvT (C:Ctx) (L:bD) (ann:Nat->List Dir) (fn:Func) (n id:Nat) (s:St) (m:Nat) (K:X->St->Prop):Prop:=
 awp C L ann (jN (eG fn) n) s (GX (fun s'=>∃m',m'<m/\L id m' s' K) (BH id (ann (behind id)) K))
abbrev nxT (A:Nat->St->(X->St->Prop)->Prop) (m:Nat) (K:X->St->Prop) (s:St):Prop:=∃m_,m_<m/\A m_ s K
def aV (P:Program) (f:FuncId) (con:Con):Prop:=(∀args w,(callFunc f args).run P w=.ok (.enter f args) w)/\yu P f con
def xU (P:Program) (f:FuncId) (T:Inl):Prop:=(∀args w,(callFunc f args).run P w=.ok (.enter f args) w)/\BS P f T
section
variable {P:Program} {E:Tab} {c:TypeId->Bool} {n off:Nat} {deep:Bool} {f:FuncId} {con:Con} {T:Inl} {l:Cons} {inl:List (Nat×Inl)}
theorem kC (h1:aV P f con) (h:dK P ⟨E,c,l,n,inl,off,deep⟩):dK P ⟨E,c,(f,con)::l,n,inl,off,deep⟩:=BK h1.1 h1.2 h
theorem kI (h1:xU P f T) (h:dK P ⟨E,c,[],n,inl,off,deep⟩):dK P ⟨E,c,[],n,(f,T)::inl,off,deep⟩:=DF h1.1 h1.2 h
theorem kN:dK P ⟨E,c,[],n,[],off,deep⟩:=CT
end
def vI (ds:List (Nat×Bool)) (fn:Func):Func:=match ds with
 | []=>fn
 | ds=>{ fn with body:=fn.body.map (fF ds) }
theorem HV {P:Program} {C:Ctx} (ds:List (Nat×Bool)) (hT:TabOk P C) (hm:P.follows .mixedOrders=true) {f:FuncId} {fn:Func} {con:Con} (hf:P.funcs[f]? = some fn) (hq:((fn.name == "runtime.NumGoroutine")||fn.body.isNone)=false) (hC:dK P C) (hN:C.n=fn.ntmps)
  (hcon:∀args hp K,con.run args hp K->(Nat.ble args.length fn.ntmps&&Nat.ble args.length bH)=true/\∃(ann:Nat->List Dir) (L:bD) (k:RK),(∀p∈bM (eG (vI ds fn)),fL C L ann p.1 p.2)/\vcT C L ann (vI ds fn) args hp k K):aV P f con:=by
 obtain⟨hq1,hq2⟩:=Bool.or_eq_false_iff.1 hq
 have hb:fn.body=some (eG fn):=by
  unfold eG
  cases h:fn.body with
  | none=>rw[h] at hq2;cases hq2
  | some c=>rfl
 have he:eG (vI ds fn)=fF ds (eG fn):=by
  cases ds with
  | nil=>exact(kK _).symm
  | cons d l=>unfold vI eG at *;rw[hb];rfl
 have hr:(vI ds fn).results=fn.results:=by cases ds<;>rfl
 refine⟨CB hf hq1 hq2,HG (ds:=ds) hT hC hm hf hb hN fun args hp K h=>?_⟩
 obtain⟨h1,h2⟩:=hcon args hp K h
 obtain⟨h3,h4⟩:=Bool.and_eq_true_iff.1 h1
 unfold vcT at h2
 rw[he,hr] at h2
 exact⟨⟨Nat.le_of_ble_eq_true h3,Nat.le_of_ble_eq_true h4⟩,h2⟩
theorem Jd {P:Program} {C:Ctx} (hT:TabOk P C) (hm:P.follows .mixedOrders=true) {f:FuncId} {fn:Func} (hf:P.funcs[f]? = some fn) (hq:((fn.name == "runtime.NumGoroutine")||fn.body.isNone)=false) (hC:dK P C) (hN:C.n=fn.ntmps) {ann:Nat->List Dir}
  (hl:bM (eG fn)=[]):xU P f (xW C ann (eG fn) fn.results.toList):=by
 obtain⟨hq1,hq2⟩:=Bool.or_eq_false_iff.1 hq
 have hb:fn.body=some (eG fn):=by
  unfold eG
  cases h:fn.body with
  | none=>rw[h] at hq2;cases hq2
  | some c=>rfl
 exact⟨CB hf hq1 hq2,Iu hT hC hm hf hb hN hl⟩
end Go.AE
end
section
namespace Go.AE
open Go Go.RowKit
noncomputable abbrev P:Program:=Go.Proofs.Tryz.prog
def tab:Tab:=[(4,⟨.val Ty.bool,1,1⟩),
  (43,⟨.sl 5 (Ty.int .u8),1,24⟩),
  (5,⟨.val (Ty.int .u8),1,1⟩),
  (3,⟨.val (Ty.int .i64),1,8⟩),
  (54,⟨.other,1,0⟩),
  (28,⟨.sl 75 ag,1,24⟩),
  (75,⟨.st [(0,73, "Columns"),(1,71, "Rows")] ag,2,48⟩),
  (73,⟨.sl 115 ax,1,24⟩),
  (115,⟨.st [(0,3, "Kind"),(1,4, "Empty")] ax,2,16⟩),
  (71,⟨.sl 48 (Ty.sl aa),1,24⟩),
  (48,⟨.sl 118 aa,1,24⟩),
  (118,⟨.st [(0,3, "Kind"),(1,3, "N"),(2,9, "S")] aa,3,32⟩),
  (9,⟨.val Ty.str,1,16⟩),
  (32,⟨.sl 61 ah,1,24⟩),
  (61,⟨.st [(0,3, "Kind"),(1,3, "In"),(2,56, "List"),(3,3, "Of"),(4,56, "To"),(5,4, "Follow"),(6,59, "E")] ah,7,104⟩),
  (56,⟨.sl 3 (Ty.int .i64),1,24⟩),
  (59,⟨.sl 165 aE,1,24⟩),
  (165,⟨.st [(0,3, "Kind"),(1,3, "N"),(2,118, "V")] aE,5,48⟩),
  (50,⟨.st [(0,3, "In"),(1,48, "Row"),(2,4, "Come")] aB,3,40⟩),
  (0,⟨.other,1,0⟩),
  (29,⟨.other,1,0⟩),
  (107,⟨.ptr 168,1,8⟩),
  (168,⟨.st [(0,43, "b"),(1,3, "p")] (Ty.pair (Ty.sl (Ty.int .u8)) (Ty.pair (Ty.int .i64) Ty.unit)),2,32⟩),
  (109,⟨.other,1,0⟩),
  (132,⟨.other,1,8⟩),
  (174,⟨.ptr 75,1,8⟩),
  (179,⟨.other,1,8⟩),
  (196,⟨.other,1,0⟩),
  (224,⟨.other,1,0⟩),
  (228,⟨.other,1,8⟩),
  (172,⟨.other,1,8⟩),
  (251,⟨.sl 9 Ty.str,1,24⟩)]
def FH:List TypeId:=[4,118]
theorem tab_check:Av P tab tab=true:=by kernel_rfl
theorem vp:CA P tab FH=true:=by kernel_rfl
theorem mixed:P.follows .mixedOrders=true:=by kernel_rfl
abbrev cx (l:Cons) (n:Nat) (inl:List (Nat×Inl)) (off:Nat) (deep:Bool):Ctx:=⟨tab,fun t=>jx t FH,l,n,inl,off,deep⟩
theorem bf (C:Ctx) {f:FuncId} {fn:Func} {con:Con} (hf:P.funcs[f]? = some fn) (hC:dK P C) (hcon:∀args hp K,con.run args hp K->(Nat.ble args.length fn.ntmps&&Nat.ble args.length bH)=true/\∃(ann:Nat->List Dir) (L:bD) (k:RK),(∀p∈bM (eG fn),fL C L ann p.1 p.2)/\vcT C L ann fn args hp k K)
    (hT:TabOk P C:=by exact AT tab_check vp) (hq:((fn.name == "runtime.NumGoroutine")||fn.body.isNone)=false:=by kernel_rfl) (hN:C.n=fn.ntmps:=by rfl):aV P f con:=HV [] hT mixed hf hq hC hN hcon
theorem HU (ds:List (Nat×Bool)) (C:Ctx) {f:FuncId} {fn:Func} {con:Con} (hf:P.funcs[f]? = some fn) (hC:dK P C) (hcon:∀args hp K,con.run args hp K->(Nat.ble args.length fn.ntmps&&Nat.ble args.length bH)=true/\∃(ann:Nat->List Dir) (L:bD) (k:RK),(∀p∈bM (eG (vI ds fn)),fL C L ann p.1 p.2)/\vcT C L ann (vI ds fn) args hp k K)
    (hT:TabOk P C:=by exact AT tab_check vp) (hq:((fn.name == "runtime.NumGoroutine")||fn.body.isNone)=false:=by kernel_rfl) (hN:C.n=fn.ntmps:=by rfl):aV P f con:=HV ds hT mixed hf hq hC hN hcon
theorem CS (C:Ctx) {f:FuncId} {fn:Func} (hf:P.funcs[f]? = some fn) (hC:dK P C) {ann:Nat->List Dir} (hT:TabOk P C:=by exact AT tab_check vp) (hq:((fn.name == "runtime.NumGoroutine")||fn.body.isNone)=false:=by kernel_rfl) (hN:C.n=fn.ntmps:=by rfl)
    (hl:bM (eG fn)=[]:=by kernel_rfl):xU P f (xW C ann (eG fn) fn.results.toList):=Jd hT mixed hf hq hC hN hl
abbrev nT (xs:List ag.D) (i:Int):ag.D:=nth (t:=ag) xs i
abbrev nS (xs:List qk.D) (i:Int):qk.D:=nth (t:=qk) xs i
abbrev nC (xs:List ax.D) (i:Int):ax.D:=nth (t:=ax) xs i
abbrev nI (xs:List az.D) (i:Int):az.D:=nth (t:=az) xs i
abbrev nP (xs:List aE.D) (i:Int):aE.D:=nth (t:=aE) xs i
abbrev nM (xs:List FV.D) (i:Int):FV.D:=nth (t:=FV) xs i
abbrev nG (xs:List lz.D) (i:Int):lz.D:=nth (t:=lz) xs i
abbrev nV (xs:List aa.D) (i:Int):aa.D:=nth (t:=aa) xs i
abbrev Z0:Int:=0
abbrev Z1:Int:=1
abbrev Z2:Int:=2
abbrev Z3:Int:=3
abbrev Z4:Int:=4
abbrev Z5:Int:=5
abbrev Z6:Int:=6
abbrev dI (n:Int):AV:=.data az n
abbrev dB (b:Bool):AV:=.data Ty.bool b
abbrev KA:Type:=AV->Hp->Prop
abbrev KX:Type:=X->St->Prop
abbrev TBy:Ty:=.sl (.int .u8)
abbrev LI:Type:=List Int
abbrev LLI:Type:=List LI
end Go.AE
end
