/- Contracts as they are written down, and the law at the top. -/
import Derived.Test.YtgfopdekfopmcaaGreatAeOpen
import Derived.Below
namespace Go.AE
open Go Go.RowKit
def kR (t:Ty) (v:AV) (k:t.D->Prop):Prop:=match v with
 | .data u x=>(match Ty.eq? u t with
  | some ⟨h⟩=>k (cq h x)
  | none=>False)
 | _=>False
def gZ (t:Ty) (v:AV) (k:List t.D->Prop):Prop:=match v with
 | .brw u x=>(match Ty.eq? u t with
  | some ⟨h⟩=>k (cq (congrArg Ty.sl h) x)
  | none=>False)
 | _=>False
theorem dc {t:Ty} {v:AV} {k:t.D->Prop} (h:kR t v k):∃x,v=.data t x/\k x:=by
 unfold kR at h
 split at h
 ·split at h
  ·rename_i hh _
   cases hh
   exact⟨_,rfl,h⟩
  ·exact h.elim
 ·exact h.elim
theorem bT {t:Ty} {v:AV} {k:List t.D->Prop} (h:gZ t v k):∃x,v=.brw t x/\k x:=by
 unfold gZ at h
 split at h
 ·split at h
  ·rename_i hh _
   cases hh
   exact⟨_,rfl,h⟩
  ·exact h.elim
 ·exact h.elim
def yp (t:Ty) (v:AV) (k:t.D->Prop):Prop:=match v with
 | .adr u x=>(match Ty.eq? u t with
  | some ⟨h⟩=>k (cq h x)
  | none=>False)
 | _=>False
def uT (t:Ty) (v:AV) (k:t.D->Prop):Prop:=match v with
 | .ref w=>kR t w k
 | _=>False
def wG (t:Ty) (v:AV) (k:List t.D->Prop):Prop:=match v with
 | .ref w=>gZ t w k
 | _=>False
theorem vg {t:Ty} {v:AV} {k:List t.D->Prop} (h:wG t v k):∃x,v=.ref (.brw t x)/\k x:=by
 unfold wG at h
 split at h
 ·obtain⟨x,rfl,hk⟩:=bT h
  exact⟨x,rfl,hk⟩
 ·exact h.elim
def kM (f:FuncId) (v:AV) (k:List AV->Prop):Prop:=match v with
 | .fn g caps=>bif Nat.beq g f then k caps else False
 | _=>False
def mC (F:Prop) (l:List AV):Prop:=match l with
 | []=>F
 | _=>False
def wO (F:AV->Prop) (l:List AV):Prop:=match l with
 | [a]=>F a
 | _=>False
theorem vM {t:Ty} {v:AV} {k:t.D->Prop} (h:yp t v k):∃x,v=.adr t x/\k x:=by
 unfold yp at h
 split at h
 ·split at h
  ·rename_i hh _
   cases hh
   exact⟨_,rfl,h⟩
  ·exact h.elim
 ·exact h.elim
theorem mZ {t:Ty} {v:AV} {k:t.D->Prop} (h:uT t v k):∃x,v=.ref (.data t x)/\k x:=by
 unfold uT at h
 split at h
 ·obtain⟨x,rfl,hk⟩:=dc h
  exact⟨x,rfl,hk⟩
 ·exact h.elim
theorem cZ {f:FuncId} {v:AV} {k:List AV->Prop} (h:kM f v k):∃caps,v=.fn f caps/\k caps:=by
 unfold kM at h
 split at h
 ·rename_i g caps
  rcases aH g f with⟨e,hb⟩ | ⟨_,hb⟩
  ·rw[hb] at h
   subst e
   exact⟨caps,rfl,h⟩
  ·rw[hb] at h
   exact h.elim
 ·exact h.elim
theorem ez {F:Prop} {l:List AV} (h:mC F l):l=[]/\F:=by
 unfold mC at h
 split at h
 ·exact⟨rfl,h⟩
 ·exact h.elim
theorem rX {F:AV->Prop} {l:List AV} (h:wO F l):∃a,l=[a]/\F a:=by
 unfold wO at h
 split at h
 ·exact⟨_,rfl,h⟩
 ·exact h.elim
def zp (F:Prop) (l:List AV) (hp:Hp):Prop:=match l,hp with
 | [],[]=>F
 | _,_=>False
def args1 (F:AV->Prop) (l:List AV) (hp:Hp):Prop:=match l,hp with
 | [a],[]=>F a
 | _,_=>False
def args2 (F:AV->AV->Prop) (l:List AV) (hp:Hp):Prop:=match l,hp with
 | [a,b],[]=>F a b
 | _,_=>False
def uI (F:AV->AV->AV->Prop) (l:List AV) (hp:Hp):Prop:=match l,hp with
 | [a,b,c],[]=>F a b c
 | _,_=>False
def AY (F:AV->AV->AV->AV->Prop) (l:List AV) (hp:Hp):Prop:=match l,hp with
 | [a,b,c,d],[]=>F a b c d
 | _,_=>False
theorem vK {F:Prop} {l:List AV} {hp:Hp} (h:zp F l hp):l=[]/\hp=[]/\F:=by
 unfold zp at h
 split at h
 ·exact⟨rfl,rfl,h⟩
 ·exact h.elim
theorem vR {F:AV->Prop} {l:List AV} {hp:Hp} (h:args1 F l hp):∃a,l=[a]/\hp=[]/\F a:=by
 unfold args1 at h
 split at h
 ·exact⟨_,rfl,rfl,h⟩
 ·exact h.elim
theorem bp {F:AV->AV->Prop} {l:List AV} {hp:Hp} (h:args2 F l hp):∃a b,l=[a,b]/\hp=[]/\F a b:=by
 unfold args2 at h
 split at h
 ·exact⟨_,_,rfl,rfl,h⟩
 ·exact h.elim
theorem mM {F:AV->AV->AV->Prop} {l:List AV} {hp:Hp} (h:uI F l hp):∃a b c,l=[a,b,c]/\hp=[]/\F a b c:=by
 unfold uI at h
 split at h
 ·exact⟨_,_,_,rfl,rfl,h⟩
 ·exact h.elim
abbrev cP (f:Func):Code:=match f.body with
 | some c=>c
 | none=>.skip
def mU (c:Code) (n:Nat):Code:=match kf (aS c) n with
 | some p=>p.2
 | none=>.skip
theorem aQ {C:Ctx} {L:br} {ann:Nat->List Dir} {c:Code} (h:aS c=[]):∀p∈aS c,eX C L ann p.1 p.2:=by
 rw[h];intro p hp;cases hp
theorem wk {P:Program} {E:Tab} {c:TypeId->Bool} {n off:Nat} {deep:Bool}:cr P ⟨E,c,[],n,[],off,deep⟩:=⟨fun f con h=>by simp[lookup] at h,fun f T h=>by simp[lookup] at h⟩
theorem vX {P:Program} {E:Tab} {c:TypeId->Bool} {n off:Nat} {deep:Bool} {f:FuncId} {T:Inl} {l:List (Nat×Inl)} (h1:∀args w,(callFunc f args).run P w=.ok (.enter f args) w) (h2:wT P f T)
  (h:cr P ⟨E,c,[],n,l,off,deep⟩):cr P ⟨E,c,[],n,(f,T)::l,off,deep⟩:=by
 refine⟨h.1,fun g T' hg=>?_⟩
 have hk:lookup ((f,T)::l) g=some T':=hg
 clear hg
 rw[lookup_cons] at hk
 by_cases e:f=g
 ·rw[if_pos e] at hk
  subst e
  cases hk
  exact⟨h1,h2⟩
 ·rw[if_neg e] at hk
  exact h.2 g T' hk
theorem vo {P:Program} {E:Tab} {c:TypeId->Bool} {n off:Nat} {deep:Bool} {f:FuncId} {con:Con} {l:Cons} {inl:List (Nat×Inl)} (h1:∀args w,(callFunc f args).run P w=.ok (.enter f args) w) (h2:sA P f con)
  (h:cr P ⟨E,c,l,n,inl,off,deep⟩):cr P ⟨E,c,(f,con)::l,n,inl,off,deep⟩:=by
 refine⟨fun g cg hg=>?_,h.2⟩
 have hk:lookup ((f,con)::l) g=some cg:=hg
 clear hg
 rw[lookup_cons] at hk
 by_cases e:f=g
 ·rw[if_pos e] at hk
  subst e
  cases hk
  exact⟨h1,h2⟩
 ·rw[if_neg e] at hk
  exact h.1 g cg hk
theorem uH {P:Program} {f:FuncId} {fn:Func} (hf:P.funcs[f]? = some fn) (hn:(fn.name == "runtime.NumGoroutine")=false) (hb:fn.body.isNone=false) (args:Array Value) (w:World) :
  (callFunc f args).run P w=.ok (.enter f args) w:=by
 have hn':¬fn.name = "runtime.NumGoroutine" :=by simpa using hn
 have hb':¬fn.body=none:=by intro e;rw[e] at hb;cases hb
 simp[callFunc,hf,hn',hb']
theorem law_calls {P:Program} {f:FuncId} {con:Con} (hc:sA P f con) {args:List AV} {vals:List Value} {W:World}
  (hv:∀I S φ hp,(∀b,b<W.heap.size->I b)->af W I S φ hp args vals) (hrun:con.run args [] fun r _=>r=.data .bool true) :
  Calls P f vals.toArray W fun e W'=>e=.returned (.bool true)/\Below W.heap.size W W':=by
 let g:Gl:={ w0:=W,ok:=fun b=>b<W.heap.size,io:=fun _=>False,okLt:=fun _ h=>h }
 have hS:Sim g 0 ⟨[],[]⟩ idle g.w0 ⟨fun _=>none,fun _=>[]⟩:=
  ⟨rfl,rfl,rfl,rfl,rfl,Nat.le_refl _,fun _ _ _=>rfl,fun _ _ _ _ _ h=>by simp[lookup] at h,fun _ _ _ h=>by simp[lookup] at h,fun _ _ _ h=>by simp[lookup] at h,fun _ _ h=>by simp[lookup] at h,fun _ _ h=>by simp[lookup] at h,fun _ h=>by simp[lookup] at h⟩
 refine Calls.mono (hc g args [] _ ⟨fun _=>none,fun _=>[]⟩ vals hrun hS (hv _ _ _ _ fun b hb=>⟨.inl hb,hb,fun _ _ h=>by simp[lookup] at h⟩)) ?_
 intro e w' he
 cases e with
 | returned u=>
  obtain⟨r,hp',φ',rfl,hs,hr⟩:=he
  exact⟨by rw[jM hr],hs.os,hs.tape,hs.output,hs.hsize,fun k hk=>hs.frame k hk (fun h=>h)⟩
 | panicked c=>exact he.elim
 | outgrown=>exact he.elim
theorem args_nil {W:World}:∀I S φ hp,(∀b,b<W.heap.size->I b)->af W I S φ hp [] []:=fun _ _ _ _ _=>by simp[af]
theorem args_cons {W:World} {t:Ty} {x:t.D} {v:Value} {l:List AV} {vs:List Value} (h:∃cs,Rep W (fun b=>b<W.heap.size) t x cs/\v=mkv t cs)
  (hl:∀I S φ hp,(∀b,b<W.heap.size->I b)->af W I S φ hp l vs):∀I S φ hp,(∀b,b<W.heap.size->I b)->af W I S φ hp (.data t x::l) (v::vs):=by
 intro I S φ hp hI
 obtain⟨cs,hr,rfl⟩:=h
 simp only[af,aa]
 exact⟨_,_,rfl,⟨cs,hr.mono hI (fun _ _ _=>rfl),rfl⟩,hl I S φ hp hI⟩
end Go.AE
