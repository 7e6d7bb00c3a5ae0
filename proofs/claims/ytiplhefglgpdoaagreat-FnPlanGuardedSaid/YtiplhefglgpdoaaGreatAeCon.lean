/- Contracts as they are written down, and the law at the top. -/
import Derived.Test.YtiplhefglgpdoaaGreatAeOpen
import Derived.Below
namespace Go.AE
open Go Go.RowKit
def fc (t:Ty) (v:AV) (k:t.D->Prop):Prop:=match v with
 | .data u x=>(match Ty.eq? u t with
  | some ⟨h⟩=>k (dw h x)
  | none=>False)
 | _=>False
def mW (t:Ty) (v:AV) (k:List t.D->Prop):Prop:=match v with
 | .brw u x=>(match Ty.eq? u t with
  | some ⟨h⟩=>k (dw (congrArg Ty.sl h) x)
  | none=>False)
 | _=>False
theorem bu {t:Ty} {v:AV} {k:t.D->Prop} (h:fc t v k):∃x,v=.data t x/\k x:=by
 unfold fc at h
 split at h
 ·split at h
  ·rename_i hh _
   cases hh
   exact⟨_,rfl,h⟩
  ·exact h.elim
 ·exact h.elim
theorem dS {t:Ty} {v:AV} {k:List t.D->Prop} (h:mW t v k):∃x,v=.brw t x/\k x:=by
 unfold mW at h
 split at h
 ·split at h
  ·rename_i hh _
   cases hh
   exact⟨_,rfl,h⟩
  ·exact h.elim
 ·exact h.elim
def Et (t:Ty) (v:AV) (k:t.D->Prop):Prop:=match v with
 | .adr u x=>(match Ty.eq? u t with
  | some ⟨h⟩=>k (dw h x)
  | none=>False)
 | _=>False
def xW (t:Ty) (v:AV) (k:t.D->Prop):Prop:=match v with
 | .ref w=>fc t w k
 | _=>False
def CZ (t:Ty) (v:AV) (k:List t.D->Prop):Prop:=match v with
 | .ref w=>mW t w k
 | _=>False
theorem BS {t:Ty} {v:AV} {k:List t.D->Prop} (h:CZ t v k):∃x,v=.ref (.brw t x)/\k x:=by
 unfold CZ at h
 split at h
 ·obtain⟨x,rfl,hk⟩:=dS h
  exact⟨x,rfl,hk⟩
 ·exact h.elim
def og (f:FuncId) (v:AV) (k:List AV->Prop):Prop:=match v with
 | .fn g caps=>bif Nat.beq g f then k caps else False
 | _=>False
def wE (F:Prop) (l:List AV):Prop:=match l with
 | []=>F
 | _=>False
def zd (F:AV->Prop) (l:List AV):Prop:=match l with
 | [a]=>F a
 | _=>False
theorem xV {t:Ty} {v:AV} {k:t.D->Prop} (h:Et t v k):∃x,v=.adr t x/\k x:=by
 unfold Et at h
 split at h
 ·split at h
  ·rename_i hh _
   cases hh
   exact⟨_,rfl,h⟩
  ·exact h.elim
 ·exact h.elim
theorem lW {t:Ty} {v:AV} {k:t.D->Prop} (h:xW t v k):∃x,v=.ref (.data t x)/\k x:=by
 unfold xW at h
 split at h
 ·obtain⟨x,rfl,hk⟩:=bu h
  exact⟨x,rfl,hk⟩
 ·exact h.elim
theorem eC {f:FuncId} {v:AV} {k:List AV->Prop} (h:og f v k):∃caps,v=.fn f caps/\k caps:=by
 unfold og at h
 split at h
 ·rename_i g caps
  rcases aY g f with⟨e,hb⟩ | ⟨_,hb⟩
  ·rw[hb] at h
   subst e
   exact⟨caps,rfl,h⟩
  ·rw[hb] at h
   exact h.elim
 ·exact h.elim
theorem jJ {F:Prop} {l:List AV} (h:wE F l):l=[]/\F:=by
 unfold wE at h
 split at h
 ·exact⟨rfl,h⟩
 ·exact h.elim
theorem mm {F:AV->Prop} {l:List AV} (h:zd F l):∃a,l=[a]/\F a:=by
 unfold zd at h
 split at h
 ·exact⟨_,rfl,h⟩
 ·exact h.elim
def Fy (F:Prop) (l:List AV) (hp:Hp):Prop:=match l,hp with
 | [],[]=>F
 | _,_=>False
def args1 (F:AV->Prop) (l:List AV) (hp:Hp):Prop:=match l,hp with
 | [a],[]=>F a
 | _,_=>False
def args2 (F:AV->AV->Prop) (l:List AV) (hp:Hp):Prop:=match l,hp with
 | [a,b],[]=>F a b
 | _,_=>False
def wG (F:AV->AV->AV->Prop) (l:List AV) (hp:Hp):Prop:=match l,hp with
 | [a,b,c],[]=>F a b c
 | _,_=>False
def DX (F:AV->AV->AV->AV->Prop) (l:List AV) (hp:Hp):Prop:=match l,hp with
 | [a,b,c,d],[]=>F a b c d
 | _,_=>False
theorem CV {F:Prop} {l:List AV} {hp:Hp} (h:Fy F l hp):l=[]/\hp=[]/\F:=by
 unfold Fy at h
 split at h
 ·exact⟨rfl,rfl,h⟩
 ·exact h.elim
theorem zh {F:AV->Prop} {l:List AV} {hp:Hp} (h:args1 F l hp):∃a,l=[a]/\hp=[]/\F a:=by
 unfold args1 at h
 split at h
 ·exact⟨_,rfl,rfl,h⟩
 ·exact h.elim
theorem bW {F:AV->AV->Prop} {l:List AV} {hp:Hp} (h:args2 F l hp):∃a b,l=[a,b]/\hp=[]/\F a b:=by
 unfold args2 at h
 split at h
 ·exact⟨_,_,rfl,rfl,h⟩
 ·exact h.elim
theorem jD {F:AV->AV->AV->Prop} {l:List AV} {hp:Hp} (h:wG F l hp):∃a b c,l=[a,b,c]/\hp=[]/\F a b c:=by
 unfold wG at h
 split at h
 ·exact⟨_,_,_,rfl,rfl,h⟩
 ·exact h.elim
theorem yW {F:AV->AV->AV->AV->Prop} {l:List AV} {hp:Hp} (h:DX F l hp):∃a b c d,l=[a,b,c,d]/\hp=[]/\F a b c d:=by
 unfold DX at h
 split at h
 ·exact⟨_,_,_,_,rfl,rfl,h⟩
 ·exact h.elim
def hpN (n:Nat) (d:Bool) (t:Ty) (F:List t.D->Prop) (hp:Hp):Prop:=match hp with
 | [(k,.arr e u xs)]=>(match Ty.eq? u t with
  | some ⟨h⟩=>bif Nat.beq k n&&(e==d) then F (dw (congrArg Ty.sl h) xs) else False
  | none=>False)
 | _=>False
theorem FO {n:Nat} {d:Bool} {t:Ty} {F:List t.D->Prop} {hp:Hp} (h:hpN n d t F hp):∃xs,hp=[(n,.arr d t xs)]/\F xs:=by
 unfold hpN at h
 split at h
 ·rename_i k e u xs
  split at h
  ·rename_i hh _
   cases hh
   cases hb:(Nat.beq k n&&(e==d)) with
   | false=>rw[hb] at h;exact h.elim
   | true=>
    rw[hb] at h
    obtain⟨h1,h2⟩:=Bool.and_eq_true_iff.1 hb
    have:=Nat.eq_of_beq_eq_true h1
    have h2:e=d:=by simpa using h2
    subst this
    subst h2
    exact⟨xs,rfl,h⟩
  ·exact h.elim
 ·exact h.elim
def Ff (n:Nat) (a:AV) (F:Prop):Prop:=match a with
 | .own k none=>bif Nat.beq k n then F else False
 | _=>False
theorem Dn {n:Nat} {a:AV} {F:Prop} (h:Ff n a F):a=.own n none/\F:=by
 unfold Ff at h
 split at h
 ·rename_i k
  rcases aY k n with⟨rfl,hb⟩ | ⟨_,hb⟩
  ·rw[hb] at h;exact⟨rfl,h⟩
  ·rw[hb] at h;exact h.elim
 ·exact h.elim
def BX (a:AV) (F:Prop):Prop:=match a with
 | .cst (.slice none 0 0)=>F
 | _=>False
theorem sv {a:AV} {F:Prop} (h:BX a F):a=.cst (.slice none 0 0)/\F:=by
 unfold BX at h
 split at h
 ·exact⟨rfl,h⟩
 ·exact h.elim
@[reducible] def de (f:Func):Code:=match f.body with
 | some c=>c
 | none=>.skip
def iR (c:Code) (n:Nat):Code:=match pH (bV c) n with
 | some p=>p.2
 | none=>.skip
theorem aJ {C:Ctx} {L:bD} {ann:Nat->List Dir} {c:Code} (h:bV c=[]):∀p∈bV c,eZ C L ann p.1 p.2:=by
 rw[h];intro p hp;cases hp
theorem Dr {P:Program} {E:Tab} {c:TypeId->Bool} {n off:Nat} {deep:Bool}:dG P ⟨E,c,[],n,[],off,deep⟩:=⟨fun f con h=>by simp[lookup] at h,fun f T h=>by simp[lookup] at h⟩
theorem Dk {P:Program} {E:Tab} {c:TypeId->Bool} {n off:Nat} {deep:Bool} {f:FuncId} {T:Inl} {l:List (Nat×Inl)} (h1:∀args w,(callFunc f args).run P w=.ok (.enter f args) w) (h2:DZ P f T)
  (h:dG P ⟨E,c,[],n,l,off,deep⟩):dG P ⟨E,c,[],n,(f,T)::l,off,deep⟩:=by
 refine⟨h.1,fun g T' hg=>?_⟩
 have hk:lookup ((f,T)::l) g=some T':=hg
 clear hg
 rw[lookup_cons] at hk
 by_cases e:f=g
 ·rw[if_pos e] at hk
  subst e
  cases hk
  exact⟨h1,h2⟩
 ·rw[if_neg e] at hk
  exact h.2 g T' hk
theorem CC {P:Program} {E:Tab} {c:TypeId->Bool} {n off:Nat} {deep:Bool} {f:FuncId} {con:Con} {l:Cons} {inl:List (Nat×Inl)} (h1:∀args w,(callFunc f args).run P w=.ok (.enter f args) w) (h2:zf P f con)
  (h:dG P ⟨E,c,l,n,inl,off,deep⟩):dG P ⟨E,c,(f,con)::l,n,inl,off,deep⟩:=by
 refine⟨fun g cg hg=>?_,h.2⟩
 have hk:lookup ((f,con)::l) g=some cg:=hg
 clear hg
 rw[lookup_cons] at hk
 by_cases e:f=g
 ·rw[if_pos e] at hk
  subst e
  cases hk
  exact⟨h1,h2⟩
 ·rw[if_neg e] at hk
  exact h.1 g cg hk
theorem CO {P:Program} {f:FuncId} {fn:Func} (hf:P.funcs[f]? = some fn) (hn:(fn.name == "runtime.NumGoroutine")=false) (hb:fn.body.isNone=false) (args:Array Value) (w:World) :
  (callFunc f args).run P w=.ok (.enter f args) w:=by
 have hn':¬fn.name = "runtime.NumGoroutine" :=by simpa using hn
 have hb':¬fn.body=none:=by intro e;rw[e] at hb;cases hb
 simp[callFunc,hf,hn',hb']
theorem law_calls {P:Program} {f:FuncId} {con:Con} (hc:zf P f con) {args:List AV} {vals:List Value} {W:World}
  (hv:∀I S φ hp,(∀b,b<W.heap.size->I b)->aq W I S φ hp args vals) (hrun:con.run args [] fun r _=>r=.data .bool true) :
  Calls P f vals.toArray W fun e W'=>e=.returned (.bool true)/\Below W.heap.size W W':=by
 let g:Gl:={ w0:=W,ok:=fun b=>b<W.heap.size,io:=fun _=>False,okLt:=fun _ h=>h }
 have hS:Sim g 0 ⟨[],[]⟩ idle g.w0 ⟨fun _=>none,fun _=>[]⟩:=
  ⟨rfl,rfl,rfl,rfl,rfl,Nat.le_refl _,fun _ _ _=>rfl,fun _ _ _ _ _ h=>by simp[lookup] at h,fun _ _ _ h=>by simp[lookup] at h,fun _ _ _ h=>by simp[lookup] at h,fun _ _ h=>by simp[lookup] at h,fun _ _ h=>by simp[lookup] at h,fun _ h=>by simp[lookup] at h⟩
 refine Calls.mono (hc g args [] _ ⟨fun _=>none,fun _=>[]⟩ vals hrun hS (hv _ _ _ _ fun b hb=>⟨.inl hb,hb,fun _ _ h=>by simp[lookup] at h⟩)) ?_
 intro e w' he
 cases e with
 | returned u=>
  obtain⟨r,hp',φ',rfl,hs,hr⟩:=he
  exact⟨by rw[oz hr],hs.os,hs.tape,hs.output,hs.hsize,fun k hk=>hs.frame k hk (fun h=>h)⟩
 | panicked c=>exact he.elim
 | outgrown=>exact he.elim
theorem args_nil {W:World}:∀I S φ hp,(∀b,b<W.heap.size->I b)->aq W I S φ hp [] []:=fun _ _ _ _ _=>by simp[aq]
theorem args_cons {W:World} {t:Ty} {x:t.D} {v:Value} {l:List AV} {vs:List Value} (h:∃cs,Rep W (fun b=>b<W.heap.size) t x cs/\v=mkv t cs)
  (hl:∀I S φ hp,(∀b,b<W.heap.size->I b)->aq W I S φ hp l vs):∀I S φ hp,(∀b,b<W.heap.size->I b)->aq W I S φ hp (.data t x::l) (v::vs):=by
 intro I S φ hp hI
 obtain⟨cs,hr,rfl⟩:=h
 simp only[aq,ak]
 exact⟨_,_,rfl,⟨cs,hr.mono hI (fun _ _ _=>rfl),rfl⟩,hl I S φ hp hI⟩
end Go.AE
