/- Calls: what is handed over. -/
import Derived.Test.YtgfopdekfopmcaaGreatAeOpG
namespace Go.AE
open Go Go.RowKit
section
variable {P:Program} {C:Ctx} {g:Gl} {N:Nat} {o:Oper} {s:St} {a:Act} {w:World} {φ:Names} {K:AV->St->Prop}
structure Moved (g:Gl) (w:World) (φ:Names) (s s':St):Prop where
 wh:∀b,eY g φ s w b->eY g φ s' w b
 gone:eS s s'
theorem Moved.imm {s s':St} (h:Moved g w φ s s'):∀b,imm g φ s.hp w.heap.size b->imm g φ s'.hp w.heap.size b:=h.gone.imm
theorem Moved.refl (g:Gl) (w:World) (φ:Names) (s:St):Moved g w φ s s:=⟨fun _ h=>h,eS.refl s⟩
theorem Moved.trans {s s' s'':St} (h:Moved g w φ s s') (k:Moved g w φ s' s''):Moved g w φ s s'':=⟨fun b hb=>k.wh b (h.wh b hb),h.gone.trans k.gone⟩
theorem Moved.later {s s':St} (h:Moved g w φ s s') {S S':Nat->Prop} (hS:∀b,S b->S' b):Later w w (AE.imm g φ s.hp w.heap.size) (AE.imm g φ s'.hp w.heap.size) S S' φ φ s.hp s'.hp:=h.gone.later hS
theorem Sim.sw (h:Sim g N s a w φ) {s':St} (k:eS s s'):Moved g w φ s s':=by
 refine⟨?_,k⟩
 rintro b (hb | hb | ⟨j,d,t,xs,hj,hjb,hne⟩)
 ·exact .inl (k.imm b hb)
 ·exact .inr (.inl hb)
 ·cases hq:lookup s'.hp j with
  | some blk=>
   obtain⟨b0,h0,e0,_⟩:=k j blk hq
   rw[hj] at h0
   cases h0
   have:=e0 d t xs rfl
   subst this
   exact .inr (.inr ⟨j,d,t,xs,hq,hjb,hne⟩)
  | none=>
   left
   obtain⟨p1,p2⟩:=h.place j _ b hj (.inl hjb)
   refine⟨Gl.gI (p2.resolve_right (fun q=>hne q.2)),p1,fun i blk' hi ho=>?_⟩
   obtain⟨b0,h0,_⟩:=k i blk' hi
   have:=h.inj i j _ _ b h0 hj ho (.inl hjb)
   subst this
   rw[hq] at hi
   cases hi
theorem Sim.ue (h:Sim g N s a w φ) (id:Nat):Moved g w φ s (s.freeze id):=h.sw (gz s id)
theorem Sim.mN (h:Sim g N s a w φ) {s':St} {t:Ty} {v:AV} {x:t.D} (hx:s.eO t v=some (x,s')):Moved g w φ s s':=h.sw (tn hx)
theorem AA {hp:Hp} {id:Nat} {cut:Option (Int×Int)} {t:Ty} {xs:List t.D} (h:lookup hp id=some (.arr .sh t xs)):(AV.own id cut).as hp (.sl t)=some (ax xs cut):=by
 simp[AV.as,h,jK,cq,Dp.whole]
theorem sC {n m:Nat} (h:Nat.blt n m=true):n<m:=by rwa [Nat.blt_eq] at h
theorem qZ (b:Nat) (hb:aA g b):eY g φ s w b:=.inr (.inl hb)
theorem oE (h:Sim g N s a w φ):∀{l l':List AV} {vs:List Value},af w (imm g φ s.hp w.heap.size) (aA g) φ s.hp l vs->lE s.hp l=some l' →
  af w (imm g φ s.hp w.heap.size) (eY g φ s w) φ s.hp l' vs/\AV.kJ l'=true
 | [],l',vs,hv,hl=>by
  simp only[lE,Option.some.injEq] at hl
  subst hl
  exact⟨by simpa only[af] using hv,rfl⟩
 | v::l,l',vs,hv,hl=>by
  simp only[af] at hv
  obtain⟨u,us,rfl,hv,hvs⟩:=hv
  unfold lE at hl
  split at hl
  case h_2=>cases hl
  rename_i k hk
  obtain⟨ih1,ih2⟩:=oE h hvs hk
  have hsame:=(Moved.refl g w φ s).later (S:=aA g) (S':=eY g φ s w) qZ
  have fin:∀{v':AV},aa w (imm g φ s.hp w.heap.size) (eY g φ s w) φ s.hp v' u->v'.free=true →
    af w (imm g φ s.hp w.heap.size) (eY g φ s w) φ s.hp (v'::k) (u::us)/\AV.kJ (v'::k)=true:=by
   intro v' h1 h2
   exact⟨by simp only[af];exact⟨u,us,rfl,h1,ih1⟩,by simp[AV.kJ,h2,ih2]⟩
  split at hl
  ·rename_i id cut
   split at hl
   case h_2=>cases hl
   rename_i t xs hx
   obtain⟨hb,hl⟩:=bH hl
   obtain⟨_,hb2⟩:=Bool.and_eq_true_iff.1 hb
   cases hl
   have hne:Nat.beq id base=false:=by simpa using hb2
   have hne2:Nat.beq base id=false:=by
    rw[<-Bool.not_eq_true,Nat.beq_eq] at hne ⊢
    exact fun e=>hne e.symm
   exact fin (by have:=h.nA hv (AA hx) (by simp[AV.deep,hx,Dp.lz]) (by simp[AV.refs,fU,hne2]);simp only[aa];exact this) rfl
  ·cases hf:v.free with
   | false=>rw[hf] at hl;cases hl
   | true=>
    rw[hf] at hl
    simp only[cond_true,Option.some.injEq] at hl
    subst hl
    exact fin (aa.later hsame _ _ hv) hf
theorem uZ (h:Sim g N s a w φ) {p:Par} {v v':AV} {s':St} {u:Value} (hv:aa w (imm g φ s.hp w.heap.size) (aA g) φ s.hp v u) (hp:uo p v s=some (v',s')) :
  Sim g N s' a w φ/\Moved g w φ s s'/\aa w (imm g φ s'.hp w.heap.size) (eY g φ s' w) φ s'.hp v' u/\(v'.free=true\/∃i o,v'=.ptr i o):=by
 have hsame:=(Moved.refl g w φ s).later (S:=aA g) (S':=eY g φ s w) qZ
 unfold uo at hp
 split at hp
 ·cases hp
 ·rename_i t
  split at hp
  ·rename_i x s1 hg
   cases hp
   obtain⟨h1,cs,hr,e⟩:=h.eO hv hg
   exact⟨h1,h.mN hg,by simp only[aa];exact⟨cs,hr,e⟩,.inl rfl⟩
  ·cases hp
 ·rename_i t
  obtain⟨hb,hp⟩:=bH hp
  obtain⟨_,hb2⟩:=Bool.and_eq_true_iff.1 hb
  obtain⟨hb3,hb4⟩:=Bool.and_eq_true_iff.1 hb2
  split at hp
  ·rename_i xs hx
   cases hp
   exact⟨h,Moved.refl ..,by simp only[aa];exact h.nA hv hx (by simpa using hb3) (by simpa using hb4),.inl rfl⟩
  ·cases hp
 ·split at hp
  ·rename_i id cut
   split at hp
   case h_2=>cases hp
   rename_i t xs hx
   split at hp
   ·rename_i x s1 hg
    cases hp
    obtain⟨h1,cs,hr,e⟩:=h.eO hv hg
    exact⟨h1,h.mN hg,by simp only[aa];exact⟨cs,hr,e⟩,.inl rfl⟩
   ·cases hp
  ·rename_i f caps
   split at hp
   ·rename_i l hl
    cases hp
    simp only[aa] at hv
    obtain⟨vs,rfl,hvs⟩:=hv
    obtain⟨h1,h2⟩:=oE h hvs hl
    exact⟨h,Moved.refl ..,by simp only[aa];exact⟨vs,rfl,h1⟩,.inl (by simpa only[AV.free] using h2)⟩
   ·cases hp
  ·cases hp
   exact⟨h,Moved.refl ..,aa.later hsame _ _ hv,.inr ⟨_,_,rfl⟩⟩
  ·cases hf:v.free with
   | false=>rw[hf] at hp;cases hp
   | true=>
    rw[hf] at hp
    cases hp
    exact⟨h,Moved.refl ..,aa.later hsame _ _ hv,.inl hf⟩
theorem qd:∀{ps:List Par} {vs vs':List AV} {us:List Value} {s s':St},Sim g N s a w φ->af w (imm g φ s.hp w.heap.size) (aA g) φ s.hp vs us->gv ps vs s=some (vs',s') →
  Sim g N s' a w φ/\Moved g w φ s s'/\af w (imm g φ s'.hp w.heap.size) (eY g φ s' w) φ s'.hp vs' us/\∀v∈vs',v.free=true\/∃i o,v=.ptr i o
 | [],[],vs',us,s,s',h,hv,hp=>by
  simp only[gv,Option.some.injEq,Prod.mk.injEq] at hp
  obtain⟨rfl,rfl⟩:=hp
  exact⟨h,Moved.refl ..,by simpa only[af] using hv,by simp⟩
 | [],_::_,_,_,_,_,_,_,hp=>by simp[gv] at hp
 | _::_,[],_,_,_,_,_,_,hp=>by simp[gv] at hp
 | p::ps,v::vs,vs',us,s,s',h,hv,hp=>by
  simp only[af] at hv
  obtain⟨u,us',rfl,hv,hvs⟩:=hv
  unfold gv at hp
  split at hp
  case h_2=>cases hp
  rename_i v1 s1 h1
  split at hp
  case h_2=>cases hp
  rename_i vs2 s2 h2
  cases hp
  obtain⟨q1,q2,q3,q4⟩:=uZ h hv h1
  obtain⟨r1,r2,r3,r4⟩:=qd q1 (af.later (q2.later (S:=aA g) (S':=aA g) (fun _ h=>h)) _ _ hvs) h2
  refine⟨r1,q2.trans r2,?_,fun x hx=>?_⟩
  ·simp only[af]
   exact⟨u,us',rfl,aa.later (r2.later (S:=eY g φ s1 w) (S':=eY g φ s' w) r2.wh) _ _ q3,r3⟩
  ·rcases List.mem_cons.1 hx with rfl | hx
   ·exact q4
   ·exact r4 x hx
def idle:Act:={ tmps:=#[],defers:=[] }
def bq (g:Gl) (φ:Names) (s:St) (w:World) (c:Option Nat):Gl:=
 { w0:=w,ok:=imm g φ s.hp w.heap.size,io:=fun b=>c=some b,okLt:=fun _ h=>h.2.1,pin:=c }
def sN (g:Gl) (K:AV->Hp->Prop):Ending->World->Prop
 | .returned u,w'=>∃r hp' φ',K r hp'/\Sim g 0 ⟨[],hp'⟩ idle w' φ'/\aa w' (imm g φ' hp' w'.heap.size) (aA g) φ' hp' r u
 | _,_=>False
def sA (P:Program) (f:FuncId) (con:Con):Prop:=
 ∀(g:Gl) (args:List AV) (hp:Hp) (K:AV->Hp->Prop) (φ:Names) (vals:List Value),con.run args hp K->Sim g 0 ⟨[],hp⟩ idle g.w0 φ →
  af g.w0 (imm g φ hp g.w0.heap.size) (aA g) φ hp args vals->Calls P f vals.toArray g.w0 (sN g K)
def wT (P:Program) (f:FuncId) (T:Inl):Prop:=
 ∀(g:Gl) (N:Nat) (s:St) (a:Act) (w:World) (φ:Names) (args:List AV) (vals:List Value) (K:AV->St->Prop),Sim g N s a w φ->af w (imm g φ s.hp w.heap.size) (aA g) φ s.hp args vals →
  T args s K->Calls P f vals.toArray w (fun
   | .returned u,w'=>∃v s' φ',K v s'/\Sim g N s' a w' φ'/\aa w' (imm g φ' s'.hp w'.heap.size) (aA g) φ' s'.hp v u
   | _,_=>False)
def cr (P:Program) (C:Ctx):Prop:=(∀f con,lookup C.cons f=some con →
 (∀args w,(callFunc f args).run P w=.ok (.enter f args) w)/\sA P f con) ∧
 ∀f T,lookup C.inl f=some T->(∀args w,(callFunc f args).run P w=.ok (.enter f args) w)/\wT P f T
theorem rT (h:Sim g N s a w φ) {c:Option Nat} {φ':Names} {hp':Hp} (hc:∀id blk b,lookup hp' id=some blk->φ'.cm id b->c=some b)
  (hlive:∀b,c=some b->∃id blk,lookup s.hp id=some blk/\φ id=some b) :
  ∀b,imm g φ s.hp w.heap.size b->imm (bq g φ s w c) φ' hp' w.heap.size b:=by
 intro b hb
 refine⟨.inl hb,hb.2.1,fun id blk hl e=>?_⟩
 obtain⟨i,bl,h1,h2⟩:=hlive b (hc id blk b hl e)
 exact hb.2.2 i bl h1 (.inl h2)
theorem qb (h:Sim g N s a w φ) {c:Option Nat} (hbox:∀b,c=some b->∃id cs,lookup s.hp id=some (.box cs)/\φ id=some b) :
  ∀b,eY g φ s w b->aA (bq g φ s w c) b:=by
 intro b hb
 have key:∀id blk,lookup s.hp id=some blk->φ id=some b->(∀cs,blk≠.box cs)->¬c=some b:=by
  intro id blk h1 h2 h3 e
  obtain⟨i,cs,q1,q2⟩:=hbox b e
  have:=h.inj id i _ _ b h1 q1 (.inl h2) (.inl q2)
  subst this
  rw[h1] at q1
  cases q1
  exact h3 cs rfl
 rcases hb with hb | hb | ⟨id,d,t,xs,h1,h2,_⟩
 ·refine⟨hb.2.1,fun e=>?_⟩
  obtain⟨i,cs,q1,q2⟩:=hbox b e
  exact hb.2.2 i _ q1 (.inl q2)
 ·refine⟨h.hH hb,fun e=>?_⟩
  obtain⟨i,cs,q1,q2⟩:=hbox b e
  exact h.xe q1 q2 hb rfl
 ·exact⟨(h.place id _ b h1 (.inl h2)).1,key id _ h1 h2 (fun cs e=>by cases e)⟩
end
end Go.AE
