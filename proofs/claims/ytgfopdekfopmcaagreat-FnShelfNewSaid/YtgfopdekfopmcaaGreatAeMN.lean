/- Guards, copies and plans: plain Lean. -/
import Derived.Test.YtgfopdekfopmcaaGreatAeMM
import Derived.Test.YtgfopdekfopmcaaGreatAeX
section
namespace Go.AE
open Go Go.RowKit
set_option linter.unusedVariables false
def M.holds (row:List ag.D) (e:List dy.D):Bool:=Ty.beq ag (M.xQ row e) (M.valueOf 1)
def M.nF (v:List aj.D) (g:gQ.D):List aj.D:=
 v.set g.1.toNat ((nth (t:=aj) v g.1).1,List.filter (fun r=>M.holds r g.2.1) (nth (t:=aj) v g.1).2.1,())
namespace M
theorem qL {α:Type} (xs:List α):ax xs (some ((0:Int),(xs.length:Int)))=xs:=by
 unfold ax
 simp
theorem rz {α:Type} (xs:List α):xs.take ((xs.length:Int)).toNat=xs:=by simp
theorem uq {t:Ty} {f:Int×List t.D->Option (Sum (Int×List t.D) (List t.D))} (p:t.D->Bool) (xs:List t.D)
  (h:∀(i:Int) (s:List t.D),0<=i->i<(xs.length:Int)->(s.length:Int)<=i->f (i,s)=some (.inl (i+1,cond (p (nth xs i)) (s++[nth xs i]) s)))
  (he:∀(i:Int) (s:List t.D),0<=i->(xs.length:Int)<=i->f (i,s)=some (.inr s)) :
  bM f ((0:Int),[])=some (xs.filter p):=by
 have key:∀(n:Nat) (i:Int) (s:List t.D),n=((xs.length:Int)-i).toNat->0<=i->(s.length:Int)<=i->bM f (i,s)=some (s++(xs.drop i.toNat).filter p):=by
  intro n
  induction n with
  | zero=>
   intro i s hn h0 hs
   rw[fC,he i s h0 (by omega),List.drop_eq_nil_of_le (by omega)]
   simp[bG]
  | succ n ih=>
   intro i s hn h0 hs
   have hlt:i<(xs.length:Int):=by omega
   have hd:=tq (t:=t) (xs:=xs) (i:=i) h0 hlt
   have e1:(i+1).toNat=i.toNat+1:=by omega
   rw[fC,h i s h0 hlt hs,eT,hd]
   cases hp:p (nth xs i) with
   | true=>
    rw[cond_true,ih (i+1) _ (by omega) (by omega) (by simp;omega),e1]
    simp[hp]
   | false=>
    rw[cond_false,ih (i+1) _ (by omega) (by omega) (by omega),e1]
    simp[hp]
 have:=key (xs.length) 0 [] (by omega) (by omega) (by simp)
 simpa using this
theorem tc {α σ ρ:Type} {f:α->σ->Option (Sum σ ρ)} (g:σ->α->σ) (I:σ->Prop) {xs:List α} {s:σ} (h0:I s)
  (h:∀x∈xs,∀s,I s->f x s=some (.inl (g s x))/\I (g s x)):aU f xs s=some (.inl (xs.foldl g s))/\I (xs.foldl g s):=by
 induction xs generalizing s with
 | nil=>exact⟨rfl,h0⟩
 | cons x xs ih=>
  obtain⟨h1,h2⟩:=h x (by simp) s h0
  rw[fz,h1,eT]
  exact ih h2 (fun y hy=>h y (by simp[hy]))
theorem qE {t:Ty} {ρ:Type} {f:Int->List t.D->Option (Sum (List t.D) ρ)} (xs:List t.D)
  (h:∀(i:Int) (s:List t.D),0<=i->i<(xs.length:Int)->(s.length:Int)<=i->f i s=some (.inl (s++[nth xs i]))) :
  aU f (aN (0:Int) (xs.length:Int)) []=some (.inl xs):=by
 have key:∀(ys zs:List t.D),xs=zs++ys->aU f (aN (zs.length:Int) (xs.length:Int)) zs=some (.inl xs):=by
  intro ys
  induction ys with
  | nil=>
   intro zs e
   rw[iR (by rw[e];simp),e]
   simp[aU]
  | cons y ys ih=>
   intro zs e
   have hlt:(zs.length:Int)<(xs.length:Int):=by rw[e];simp;omega
   have hn:nth (t:=t) xs (zs.length:Int)=y:=by
    rw[e]
    unfold nth
    rw[List.getD_eq_getElem?_getD]
    simp
   have h1:=h (zs.length:Int) zs (by omega) hlt (Int.le_refl _)
   rw[hn] at h1
   rw[gE hlt,fz,h1,eT]
   have e2:(zs.length:Int)+1=((zs++[y]).length:Int):=by simp
   rw[e2]
   exact ih (zs++[y]) (by rw[e];simp)
 exact key xs [] (by simp)
theorem wq {t:Ty} {f:Int×List t.D->Option (Sum (Int×List t.D) (List t.D))} (xs:List t.D)
  (h:∀(i:Int) (s:List t.D),0<=i->i<(xs.length:Int)->(s.length:Int)<=i->f (i,s)=some (.inl (i+1,s++[nth xs i])))
  (he:∀(i:Int) (s:List t.D),0<=i->(xs.length:Int)<=i->f (i,s)=some (.inr s)):bM f ((0:Int),[])=some xs:=by
 have:=uq (fun _=>true) xs (fun i s i0 i1 hs=>by rw[h i s i0 i1 hs];rfl) he
 rw[List.filter_eq_self.2 (fun _ _=>rfl)] at this
 exact this
theorem tE {t:Ty} {xs:List t.D}:cond (decide ((xs.length:Int)=(0:Int))) (some ([]:List t.D)) (some (xs.take (xs.length:Int).toNat))=some xs:=by
 rw[rz]
 cases xs with
 | nil=>rfl
 | cons x xs=>rw[decide_eq_false (by simp;omega)];rfl
theorem vl {α:Type} (xs:List α):xs.map (fun x=>x)=xs:=by simp
def cN (tables v:List aj.D):Prop:=v.length=tables.length/\∀i:Int,0<=i->i<(tables.length:Int)->(nth (t:=aj) v i).1=(nth (t:=aj) tables i).1 ∧
 (nth (t:=aj) v i).2.1.length<=(nth (t:=aj) tables i).2.1.length/\∀r∈(nth (t:=aj) v i).2.1,r∈(nth (t:=aj) tables i).2.1
theorem cN.refl (tables:List aj.D):cN tables tables:=⟨rfl,fun _ _ _=>⟨rfl,Nat.le_refl _,fun _ h=>h⟩⟩
theorem vJ {t:Ty} {a:List t.D} {i j:Int} {z:t.D} (h0:0<=i) (h1:0<=j) (hne:i≠j):nth (t:=t) (a.set i.toNat z) j=nth a j:=by
 have:i.toNat≠j.toNat:=by omega
 unfold nth
 rw[List.getD_eq_getElem?_getD,List.getD_eq_getElem?_getD,List.getElem?_set_ne this]
theorem cN.step {tables v:List aj.D} (h:cN tables v) {g:gQ.D} (h0:0<=g.1) (h1:g.1<(tables.length:Int)):cN tables (nF v g):=by
 refine⟨by unfold nF;simp[h.1],fun i i0 i1=>?_⟩
 have hl:g.1<(v.length:Int):=by rw[h.1];exact h1
 by_cases e:g.1=i
 ·subst e
  obtain⟨q1,q2,q3⟩:=h.2 _ i0 i1
  unfold nF
  rw[zK i0 hl]
  exact⟨q1,Nat.le_trans (List.length_filter_le _ _) q2,fun r hr=>q3 r (List.mem_filter.1 hr).1⟩
 ·unfold nF
  rw[vJ h0 i0 e]
  exact h.2 i i0 i1
end M
end Go.AE
end
section
namespace Go.AE
open Go Go.RowKit
set_option linter.unusedVariables false
abbrev yS:Ty:=.pair (.sl ai) (.pair (.int .i64) .unit)
def M.two (k:Int):Bool:=decide (k=4)||decide (k=5)
def M.cY (s:de.D):Bool:=(!decide (s.1=(1:Int))||decide (s.2.1=(0:Int)))&&((two s.1||decide (s.2.2.1=(0:Int)))&&((decide (s.1=(1:Int))||decide (s.2.2.2.1=(0:Int))) &&
 ((decide (s.1=(2:Int))||decide (s.1=(4:Int))||decide ((s.2.2.2.2.1.length:Int)=(0:Int)))&&(decide (s.1=(3:Int))||decide ((s.2.2.2.2.2.1.length:Int)=(0:Int))))))
abbrev Av:Type:=List (List ai.D)×List Int
def M.ren (to:List Int) (s:de.D):de.D:=(s.1,cond (decide (s.1=(1:Int))) s.2.1 (nth (t:=.int .i64) to s.2.1),cond (two s.1) (nth (t:=.int .i64) to s.2.2.1) s.2.2.1,s.2.2.2)
namespace M
theorem qT {σ ρ:Type} {f:Int->σ->Option (Sum σ ρ)} (g:σ->Int->σ) (I:Int->σ->Prop) (N:Nat) {s:σ} (h0:I 0 s)
  (h:∀(i:Int) (s:σ),0<=i->i<(N:Int)->I i s->f i s=some (.inl (g s i))/\I (i+1) (g s i)) :
  aU f (aN 0 (N:Int)) s=some (.inl ((aN 0 (N:Int)).foldl g s))/\I (N:Int) ((aN 0 (N:Int)).foldl g s):=by
 have key:∀(n:Nat) (i:Int) (s:σ),(N:Int)-i=n->0<=i->I i s->aU f (aN i (N:Int)) s=some (.inl ((aN i (N:Int)).foldl g s))/\I (N:Int) ((aN i (N:Int)).foldl g s):=by
  intro n
  induction n with
  | zero=>
   intro i s hn h0 hI
   rw[iR (by omega)]
   have:i=(N:Int):=by omega
   subst this
   exact⟨rfl,hI⟩
  | succ n ih=>
   intro i s hn h0 hI
   obtain⟨h1,h2⟩:=h i s h0 (by omega) hI
   rw[gE (by omega),fz,h1,eT]
   exact ih (i+1) _ (by omega) (by omega) h2
 exact key N 0 s (by omega) (by omega) h0
end M
end Go.AE
end
section
namespace Go.AE
open Go Go.RowKit
set_option linter.unusedVariables false
namespace M
def iT (st st':Av) (to:List Int) (k:Int):Prop:=(st.1.length:Int)=k/\(st.2.length:Int)=k/\st'.1.length=st'.2.length ∧
 ∀j:Int,0<=j->j<k->(0<=nth (t:=.int .i64) to j/\nth (t:=.int .i64) to j<(st'.1.length:Int))/\nth (t:=.sl ai) st'.1 (nth (t:=.int .i64) to j)=nth (t:=.sl ai) st.1 j/\nth (t:=.int .i64) st'.2 (nth (t:=.int .i64) to j)=nth (t:=.int .i64) st.2 j
end M
end Go.AE
namespace Go.AE
open Go Go.RowKit
end Go.AE
end
section
namespace Go.AE
open Go Go.RowKit
def iW:Env->Env
 | []=>[]
 | (j,v)::l=>(Nat.add j aM,v)::iW l
def jb:Env->Env
 | []=>[]
 | (j,v)::l=>bif Nat.ble aM j then (Nat.sub j aM,v)::jb l else jb l
def tK (E:Tab) (deep:Bool) (rs:List ResultVar) (K:AV->St->Prop) (s:St):Prop:=match rs with
 | [r]=>bw (lP E deep s r) fun p=>K p.1 ⟨jb p.2.env,p.2.hp⟩
 | rs=>bw (lC E deep rs s) fun p=>K (.tup p.1) ⟨jb p.2.env,p.2.hp⟩
def Bi (E:Tab) (deep:Bool) (rs:List ResultVar) (K:AV->St->Prop):X->St->Prop
 | .normal,s=>tK E deep rs K s
 | .ret,s=>tK E deep rs K s
 | .exit _,_=>False
def aC:br:=fun _ _ _ _=>False
def sF (C:Ctx) (ann:Nat->List Dir) (code:Code) (rs:List ResultVar):Inl:=fun args s K=>
 bif Nat.ble args.length C.n&&Nat.ble C.n aM then awp C aC ann code ⟨jn 0 args++iW s.env,s.hp⟩ (Bi C.tab C.deep rs K) else False
theorem lookup_append {α:Type}:∀(l k:List (Nat×α)) (j:Nat),lookup (l++k) j=match lookup l j with | some v=>some v | none=>lookup k j
 | [],k,j=>by simp[lookup]
 | (i,x)::l,k,j=>by
  rw[List.cons_append,lookup_cons,lookup_cons]
  by_cases h:i=j
  ·rw[if_pos h,if_pos h]
  ·rw[if_neg h,if_neg h]
   exact lookup_append l k j
theorem nR:∀(e:Env) (j:Nat) (v:AV),lookup (iW e) j=some v->∃k,j=k+aM/\lookup e k=some v
 | [],j,v,h=>by simp[iW,lookup] at h
 | (i,x)::l,j,v,h=>by
  unfold iW at h
  rw[lookup_cons] at h
  split at h
  ·rename_i e
   cases h
   exact⟨i,e.symm,by rw[lookup_cons,if_pos rfl]⟩
  ·rename_i hne
   obtain⟨k,hk,hl⟩:=nR l j v h
   refine⟨k,hk,?_⟩
   rw[lookup_cons,if_neg ?_]
   ·exact hl
   ·rintro rfl
    exact hne hk.symm
theorem iJ:∀(e:Env) (k:Nat) (v:AV),lookup (jb e) k=some v->lookup e (k+aM)=some v
 | [],k,v,h=>by simp[jb,lookup] at h
 | (i,x)::l,k,v,h=>by
  unfold jb at h
  cases hb:Nat.ble aM i with
  | false=>
   rw[hb] at h
   have hlt:¬aM<=i:=by intro hc;rw[Nat.ble_eq_true_of_le hc] at hb;cases hb
   rw[lookup_cons,if_neg (by omega)]
   exact iJ l k v h
  | true=>
   rw[hb] at h
   simp only[cond_true] at h
   have hle:aM<=i:=Nat.le_of_ble_eq_true hb
   rw[lookup_cons] at h
   have hs:Nat.sub i aM=i-aM:=rfl
   split at h
   ·rename_i e
    rw[hs] at e
    cases h
    rw[lookup_cons,if_pos (by omega)]
   ·rename_i e
    rw[hs] at e
    rw[lookup_cons,if_neg (by omega)]
    exact iJ l k v h
section
variable {P:Program} {C:Ctx} {g:Gl} {N:Nat} {s:St} {a:Act} {w:World} {φ:Names}
def sO (g:Gl) (gh:Nat->Value):Gl:={ g with gh:=gh }
def rD (g:Gl) (a:Act) (gh:Nat->Value):Prop:=∀k,gh (k+aM)=valOf g a k
theorem vL (g:Gl) (a:Act):∃gh,rD g a gh:=⟨fun j=>valOf g a (j-aM),fun k=>by simp only[Nat.add_sub_cancel]⟩
theorem pP (gh:Nat->Value) {hp:Hp} {n:Nat}:imm (sO g gh) φ hp n=imm g φ hp n:=by unfold imm sO;rfl
theorem mo (gh:Nat->Value):aA (sO g gh)=aA g:=by unfold aA sO;rfl
theorem vc {gh:Nat->Value} {a a':Act} {k:Nat} (hg:rD g a gh):valOf (sO g gh) a' (k+aM)=valOf g a k:=by
 have hb:Nat.blt (k+aM) aM=false:=by
  cases hb:Nat.blt (k+aM) aM with
  | false=>rfl
  | true=>rw[Nat.blt_eq] at hb;omega
 unfold valOf
 rw[hb]
 simp only[cond_false,sO]
 exact hg k
theorem Az {gh:Nat->Value} (hg:rD g a gh) {hp:Hp} {args:List AV} {vals:List Value} {n:Nat} {e:Env} (hv:af w (imm g φ hp w.heap.size) (aA g) φ hp args vals) (he:∀j av,lookup e j=some av->aa w (imm g φ hp w.heap.size) (aA g) φ hp av (valOf g a j))
  (hle:args.length<=n) (hgl:n<=aM) (j:Nat) (av:AV) (hj:lookup (jn 0 args++iW e) j=some av) :
  aa w (imm g φ hp w.heap.size) (aA g) φ hp av (valOf (sO g gh) { tmps:=vals.toArray++Array.replicate (n-vals.toArray.size) undef,defers:=[] } j):=by
 have hlen:=hv.length
 rw[lookup_append] at hj
 split at hj
 ·rename_i v hla
  cases hj
  obtain⟨_,u,h1,h2⟩:=lV hv j av hla
  have h1:vals[j]? = some u:=by simpa using h1
  have hlt:j<vals.length:=(List.getElem?_eq_some_iff.1 h1).1
  have hu:(vals.toArray++Array.replicate (n-vals.toArray.size) undef).getD j undef=u:=by
   rw[Array.getD_eq_getD_getElem?,Array.getElem?_append_left (by simpa using hlt)]
   simp[h1]
  have hjg:Nat.blt j aM=true:=by rw[Nat.blt_eq];omega
  unfold valOf
  rw[hjg]
  simp only[cond_true]
  rw[hu]
  exact h2
 ·obtain⟨k,hk0,hk⟩:=nR _ _ _ hj
  rw[hk0,vc hg]
  exact he k av hk
theorem AB {gh:Nat->Value} (hg:rD g a gh) {args:List AV} {vals:List Value} {n:Nat} (h:Sim g N s a w φ) (hv:af w (imm g φ s.hp w.heap.size) (aA g) φ s.hp args vals) (hle:args.length<=n) (hgl:n<=aM) :
  Sim (sO g gh) n ⟨jn 0 args++iW s.env,s.hp⟩ { tmps:=vals.toArray++Array.replicate (n-vals.toArray.size) undef,defers:=[] } w φ:=by
 have hlen:=hv.length
 refine⟨rfl,by simp;omega,h.os,h.tape,h.output,h.hsize,h.frame,h.inj,h.apart,h.place,fun i blk hi=>?_,fun j av hj=>?_,h.pinned⟩
 ·rw[pP,mo]
  exact h.blocks i blk hi
 ·rw[pP,mo]
  exact Az hg hv h.env hle hgl j av hj
theorem wI {gh:Nat->Value} (hg:rD g a gh) {a':Act} {w':World} {s1:St} {φ1:Names} {n:Nat} (h:Sim g N s a w φ) (hs:Sim (sO g gh) n s1 a' w' φ1):Sim g N ⟨jb s1.env,s1.hp⟩ a w' φ1:=by
 refine⟨h.defers,h.size,hs.os,hs.tape,hs.output,hs.hsize,hs.frame,hs.inj,hs.apart,hs.place,fun i blk hi=>?_,fun k av hk=>?_,hs.pinned⟩
 ·have:=hs.blocks i blk hi
  rw[pP,mo] at this
  exact this
 ·have:=hs.env _ _ (iJ _ _ _ hk)
  rw[pP,mo,vc hg] at this
  exact this
theorem Au (hT:TabOk P C) (hC:cr P C) (hm:P.follows .mixedOrders=true) {f:FuncId} {fn:Func} {code:Code} (hf:P.funcs[f]? = some fn) (hb:fn.body=some code) (hN:C.n=fn.ntmps) {ann:Nat->List Dir} (hl:aS code=[]) :
  wT P f (sF C ann code fn.results.toList):=by
 intro g N s a w φ args vals K h hv hop
 unfold sF at hop
 cases hq:(Nat.ble args.length C.n&&Nat.ble C.n aM) with
 | false=>rw[hq] at hop;exact hop.elim
 | true=>
 rw[hq] at hop
 simp only[cond_true] at hop
 obtain⟨hq1,hq2⟩:=Bool.and_eq_true_iff.1 hq
 have hle:args.length<=fn.ntmps:=by rw[<-hN];exact Nat.le_of_ble_eq_true hq1
 have hgl:fn.ntmps<=aM:=by rw[<-hN];exact Nat.le_of_ble_eq_true hq2
 obtain⟨gh,hg⟩:=vL g a
 have hS:=AB hg h hv hle hgl
 refine calls_of_wp hf hb (wp_mono (yW (L:=aC) (ann:=ann) hT hC hN hm code (by rw[hl];intro p hp;cases hp) _ _ _ _ φ hS hop) ?_)
 intro e a' w' hq
 have fin:(∃s1 φ1,tK C.tab C.deep fn.results.toList K s1/\Sim (sO g gh) fn.ntmps s1 a' w' φ1)->a'.defers=[]/\∃u,(results fn a'.tmps).run P w'=.ok u w' ∧
   ∃v s' φ',K v s'/\Sim g N s' a w' φ'/\aa w' (imm g φ' s'.hp w'.heap.size) (aA g) φ' s'.hp v u:=by
  rintro ⟨s1,φ1,hk,hs⟩
  refine⟨hs.defers,?_⟩
  unfold tK at hk
  split at hk
  ·rename_i r ht
   obtain⟨p,hp,hk⟩:=ay hk
   obtain⟨u,hrun,h1,_,hv⟩:=nY hT hs (show lP C.tab _ s1 r=some (p.1,p.2) from hp)
   rw[pP,mo] at hv
   refine⟨u,?_,p.1,_,φ1,hk,wI hg h h1,hv⟩
   rw[fE (us:=[u]) (by rw[ht];exact .cons hrun .nil)]
   simp
  ·rename_i hne
   obtain⟨p,hp,hk⟩:=ay hk
   obtain⟨us,h1,_,h3,h4⟩:=mQ hT hs (show lC C.tab _ fn.results.toList s1=some (p.1,p.2) from hp)
   rw[pP,mo] at h4
   have hlen:¬us.toArray.size=1:=by
    intro e
    have e:us.length=1:=e
    rw[<-h3.length_eq] at e
    match hq:fn.results.toList,e with
    | [r],_=>exact hne r hq
   refine⟨_,fE h3,.tup p.1,_,φ1,hk,wI hg h h1,?_⟩
   rw[dif_neg hlen]
   simp only[aa]
   exact⟨_,rfl,h4⟩
 cases e with
 | normal=>exact fin hq
 | ret=>exact fin hq
 | exit i=>obtain⟨s,φ,hk,_⟩:=hq;exact hk.elim
 | goto l=>exact hq.elim
 | panic c=>exact hq.elim
 | outgrown=>exact hq.elim
end
theorem ln_of_fine:∀{t:Ty} {x:t.D},pK t x->Ln t x
 | .int _,_,_=>trivial
 | .bool,_,_=>trivial
 | .str,_,h=>by
  have h:(_:ByteArray).size<=Go.maxLen:=h
  exact h
 | .unit,_,_=>trivial
 | .sl _,_,h=>⟨h.1,fun y hy=>ln_of_fine (h.2 y hy)⟩
 | .pair _ _,_,h=>⟨ln_of_fine h.1,ln_of_fine h.2⟩
end Go.AE
end
