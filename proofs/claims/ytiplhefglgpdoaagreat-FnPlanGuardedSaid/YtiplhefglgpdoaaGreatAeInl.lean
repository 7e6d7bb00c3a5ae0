/- Small functions, followed in place: what the caller knows goes along. -/
import Derived.Test.YtiplhefglgpdoaaGreatAeX
namespace Go.AE
open Go Go.RowKit
def mb:Env->Env
 | []=>[]
 | (j,v)::l=>(Nat.add j bX,v)::mb l
def nc:Env->Env
 | []=>[]
 | (j,v)::l=>bif Nat.ble bX j then (Nat.sub j bX,v)::nc l else nc l
def Bg (E:Tab) (deep:Bool) (rs:List ResultVar) (K:AV->St->Prop) (s:St):Prop:=match rs with
 | [r]=>cF (qH E deep s r) fun p=>K p.1 ⟨nc p.2.env,p.2.hp⟩
 | rs=>cF (qy E deep rs s) fun p=>K (.tup p.1) ⟨nc p.2.env,p.2.hp⟩
def Iw (E:Tab) (deep:Bool) (rs:List ResultVar) (K:AV->St->Prop):X->St->Prop
 | .normal,s=>Bg E deep rs K s
 | .ret,s=>Bg E deep rs K s
 | .exit _,_=>False
def aD:bD:=fun _ _ _ _=>False
def rK (C:Ctx) (ann:Nat->List Dir) (code:Code) (rs:List ResultVar):Inl:=fun args s K=>
 bif Nat.ble args.length C.n&&Nat.ble C.n bX then awp C aD ann code ⟨nt 0 args++mb s.env,s.hp⟩ (Iw C.tab C.deep rs K) else False
theorem lookup_append {α:Type}:∀(l k:List (Nat×α)) (j:Nat),lookup (l++k) j=match lookup l j with | some v=>some v | none=>lookup k j
 | [],k,j=>by simp[lookup]
 | (i,x)::l,k,j=>by
  rw[List.cons_append,lookup_cons,lookup_cons]
  by_cases h:i=j
  ·rw[if_pos h,if_pos h]
  ·rw[if_neg h,if_neg h]
   exact lookup_append l k j
theorem tQ:∀(e:Env) (j:Nat) (v:AV),lookup (mb e) j=some v->∃k,j=k+bX/\lookup e k=some v
 | [],j,v,h=>by simp[mb,lookup] at h
 | (i,x)::l,j,v,h=>by
  unfold mb at h
  rw[lookup_cons] at h
  split at h
  ·rename_i e
   cases h
   exact⟨i,e.symm,by rw[lookup_cons,if_pos rfl]⟩
  ·rename_i hne
   obtain⟨k,hk,hl⟩:=tQ l j v h
   refine⟨k,hk,?_⟩
   rw[lookup_cons,if_neg ?_]
   ·exact hl
   ·rintro rfl
    exact hne hk.symm
theorem mG:∀(e:Env) (k:Nat) (v:AV),lookup (nc e) k=some v->lookup e (k+bX)=some v
 | [],k,v,h=>by simp[nc,lookup] at h
 | (i,x)::l,k,v,h=>by
  unfold nc at h
  cases hb:Nat.ble bX i with
  | false=>
   rw[hb] at h
   have hlt:¬bX<=i:=by intro hc;rw[Nat.ble_eq_true_of_le hc] at hb;cases hb
   rw[lookup_cons,if_neg (by omega)]
   exact mG l k v h
  | true=>
   rw[hb] at h
   simp only[cond_true] at h
   have hle:bX<=i:=Nat.le_of_ble_eq_true hb
   rw[lookup_cons] at h
   have hs:Nat.sub i bX=i-bX:=rfl
   split at h
   ·rename_i e
    rw[hs] at e
    cases h
    rw[lookup_cons,if_pos (by omega)]
   ·rename_i e
    rw[hs] at e
    rw[lookup_cons,if_neg (by omega)]
    exact mG l k v h
section
variable {P:Program} {C:Ctx} {g:Gl} {N:Nat} {s:St} {a:Act} {w:World} {φ:Names}
def zQ (g:Gl) (gh:Nat->Value):Gl:={ g with gh:=gh }
def xQ (g:Gl) (a:Act) (gh:Nat->Value):Prop:=∀k,gh (k+bX)=valOf g a k
theorem Da (g:Gl) (a:Act):∃gh,xQ g a gh:=⟨fun j=>valOf g a (j-bX),fun k=>by simp only[Nat.add_sub_cancel]⟩
theorem vw (gh:Nat->Value) {hp:Hp} {n:Nat}:imm (zQ g gh) φ hp n=imm g φ hp n:=by unfold imm zQ;rfl
theorem rz (gh:Nat->Value):aM (zQ g gh)=aM g:=by unfold aM zQ;rfl
theorem Cj {gh:Nat->Value} {a a':Act} {k:Nat} (hg:xQ g a gh):valOf (zQ g gh) a' (k+bX)=valOf g a k:=by
 have hb:Nat.blt (k+bX) bX=false:=by
  cases hb:Nat.blt (k+bX) bX with
  | false=>rfl
  | true=>rw[Nat.blt_eq] at hb;omega
 unfold valOf
 rw[hb]
 simp only[cond_false,zQ]
 exact hg k
theorem HJ {gh:Nat->Value} (hg:xQ g a gh) {hp:Hp} {args:List AV} {vals:List Value} {n:Nat} {e:Env} (hv:aq w (imm g φ hp w.heap.size) (aM g) φ hp args vals) (he:∀j av,lookup e j=some av->ak w (imm g φ hp w.heap.size) (aM g) φ hp av (valOf g a j))
  (hle:args.length<=n) (hgl:n<=bX) (j:Nat) (av:AV) (hj:lookup (nt 0 args++mb e) j=some av) :
  ak w (imm g φ hp w.heap.size) (aM g) φ hp av (valOf (zQ g gh) { tmps:=vals.toArray++Array.replicate (n-vals.toArray.size) undef,defers:=[] } j):=by
 have hlen:=hv.length
 rw[lookup_append] at hj
 split at hj
 ·rename_i v hla
  cases hj
  obtain⟨_,u,h1,h2⟩:=qx hv j av hla
  have h1:vals[j]? = some u:=by simpa using h1
  have hlt:j<vals.length:=(List.getElem?_eq_some_iff.1 h1).1
  have hu:(vals.toArray++Array.replicate (n-vals.toArray.size) undef).getD j undef=u:=by
   rw[Array.getD_eq_getD_getElem?,Array.getElem?_append_left (by simpa using hlt)]
   simp[h1]
  have hjg:Nat.blt j bX=true:=by rw[Nat.blt_eq];omega
  unfold valOf
  rw[hjg]
  simp only[cond_true]
  rw[hu]
  exact h2
 ·obtain⟨k,hk0,hk⟩:=tQ _ _ _ hj
  rw[hk0,Cj hg]
  exact he k av hk
theorem HQ {gh:Nat->Value} (hg:xQ g a gh) {args:List AV} {vals:List Value} {n:Nat} (h:Sim g N s a w φ) (hv:aq w (imm g φ s.hp w.heap.size) (aM g) φ s.hp args vals) (hle:args.length<=n) (hgl:n<=bX) :
  Sim (zQ g gh) n ⟨nt 0 args++mb s.env,s.hp⟩ { tmps:=vals.toArray++Array.replicate (n-vals.toArray.size) undef,defers:=[] } w φ:=by
 have hlen:=hv.length
 refine⟨rfl,by simp;omega,h.os,h.tape,h.output,h.hsize,h.frame,h.inj,h.apart,h.place,fun i blk hi=>?_,fun j av hj=>?_,h.pinned⟩
 ·rw[vw,rz]
  exact h.blocks i blk hi
 ·rw[vw,rz]
  exact HJ hg hv h.env hle hgl j av hj
theorem DS {gh:Nat->Value} (hg:xQ g a gh) {a':Act} {w':World} {s1:St} {φ1:Names} {n:Nat} (h:Sim g N s a w φ) (hs:Sim (zQ g gh) n s1 a' w' φ1):Sim g N ⟨nc s1.env,s1.hp⟩ a w' φ1:=by
 refine⟨h.defers,h.size,hs.os,hs.tape,hs.output,hs.hsize,hs.frame,hs.inj,hs.apart,hs.place,fun i blk hi=>?_,fun k av hk=>?_,hs.pinned⟩
 ·have:=hs.blocks i blk hi
  rw[vw,rz] at this
  exact this
 ·have:=hs.env _ _ (mG _ _ _ hk)
  rw[vw,rz,Cj hg] at this
  exact this
theorem HN (hT:TabOk P C) (hC:dG P C) (hm:P.follows .mixedOrders=true) {f:FuncId} {fn:Func} {code:Code} (hf:P.funcs[f]? = some fn) (hb:fn.body=some code) (hN:C.n=fn.ntmps) {ann:Nat->List Dir} (hl:bV code=[]) :
  DZ P f (rK C ann code fn.results.toList):=by
 intro g N s a w φ args vals K h hv hop
 unfold rK at hop
 cases hq:(Nat.ble args.length C.n&&Nat.ble C.n bX) with
 | false=>rw[hq] at hop;exact hop.elim
 | true=>
 rw[hq] at hop
 simp only[cond_true] at hop
 obtain⟨hq1,hq2⟩:=Bool.and_eq_true_iff.1 hq
 have hle:args.length<=fn.ntmps:=by rw[<-hN];exact Nat.le_of_ble_eq_true hq1
 have hgl:fn.ntmps<=bX:=by rw[<-hN];exact Nat.le_of_ble_eq_true hq2
 obtain⟨gh,hg⟩:=Da g a
 have hS:=HQ hg h hv hle hgl
 refine calls_of_wp hf hb (wp_mono (Gj (L:=aD) (ann:=ann) hT hC hN hm code (by rw[hl];intro p hp;cases hp) _ _ _ _ φ hS hop) ?_)
 intro e a' w' hq
 have fin:(∃s1 φ1,Bg C.tab C.deep fn.results.toList K s1/\Sim (zQ g gh) fn.ntmps s1 a' w' φ1)->a'.defers=[]/\∃u,(results fn a'.tmps).run P w'=.ok u w' ∧
   ∃v s' φ',K v s'/\Sim g N s' a w' φ'/\ak w' (imm g φ' s'.hp w'.heap.size) (aM g) φ' s'.hp v u:=by
  rintro ⟨s1,φ1,hk,hs⟩
  refine⟨hs.defers,?_⟩
  unfold Bg at hk
  split at hk
  ·rename_i r ht
   obtain⟨p,hp,hk⟩:=aH hk
   obtain⟨u,hrun,h1,_,hv⟩:=uw hT hs (show qH C.tab _ s1 r=some (p.1,p.2) from hp)
   rw[vw,rz] at hv
   refine⟨u,?_,p.1,_,φ1,hk,DS hg h h1,hv⟩
   rw[iX (us:=[u]) (by rw[ht];exact .cons hrun .nil)]
   simp
  ·rename_i hne
   obtain⟨p,hp,hk⟩:=aH hk
   obtain⟨us,h1,_,h3,h4⟩:=sJ hT hs (show qy C.tab _ fn.results.toList s1=some (p.1,p.2) from hp)
   rw[vw,rz] at h4
   have hlen:¬us.toArray.size=1:=by
    intro e
    have e:us.length=1:=e
    rw[<-h3.length_eq] at e
    match hq:fn.results.toList,e with
    | [r],_=>exact hne r hq
   refine⟨_,iX h3,.tup p.1,_,φ1,hk,DS hg h h1,?_⟩
   rw[dif_neg hlen]
   simp only[ak]
   exact⟨_,rfl,h4⟩
 cases e with
 | normal=>exact fin hq
 | ret=>exact fin hq
 | exit i=>obtain⟨s,φ,hk,_⟩:=hq;exact hk.elim
 | goto l=>exact hq.elim
 | panic c=>exact hq.elim
 | outgrown=>exact hq.elim
end
theorem ln_of_fine:∀{t:Ty} {x:t.D},vP t x->Ln t x
 | .int _,_,_=>trivial
 | .bool,_,_=>trivial
 | .str,_,h=>by
  have h:(_:ByteArray).size<=Go.maxLen:=h
  exact h
 | .unit,_,_=>trivial
 | .sl _,_,h=>⟨h.1,fun y hy=>ln_of_fine (h.2 y hy)⟩
 | .pair _ _,_,h=>⟨ln_of_fine h.1,ln_of_fine h.2⟩
end Go.AE
