/- Forgetting what is not wanted; values as data. -/
import Derived.Test.YtmkgiaecgkicoaaGreatAeSim
namespace Go.AE
open Go Go.RowKit
section
variable {g:Gl} {N:Nat} {s:St} {a:Act} {w:World} {φ:Names}
theorem zT (e:Env) (l:List Nat) (j:Nat) (v:AV) (h:lookup (pZ e l) j=some v):lookup e j=some v:=by
 induction l with
 | nil=>simp[pZ,lookup] at h
 | cons i l ih=>
  unfold pZ at h
  split at h
  ·rename_i u hu
   rw[lookup_cons] at h
   split at h
   ·rename_i hij
    cases h
    rw[<-hij]
    exact hu
   ·exact ih h
  ·exact ih h
theorem AU (hp:Hp) (l:List Nat) (j:Nat) (b:Block) (h:lookup (wN hp l) j=some b):lookup hp j=some b:=by
 induction l with
 | nil=>simp[wN,lookup] at h
 | cons i l ih=>
  unfold wN at h
  split at h
  ·rename_i u hu
   rw[lookup_cons] at h
   split at h
   ·rename_i hij
    cases h
    rw[<-hij]
    exact hu
   ·exact ih h
  ·exact ih h
theorem Sim.less (h:Sim g N s a w φ) {s':St} (he:∀j v,lookup s'.env j=some v->lookup s.env j=some v) (hh:∀j b,lookup s'.hp j=some b->lookup s.hp j=some b) :
  Sim g N s' a w φ:=by
 have L:Later w w (imm g φ s.hp w.heap.size) (imm g φ s'.hp w.heap.size) (aM g) (aM g) φ φ s.hp s'.hp:=
  ⟨fun b ⟨h1,h2,h3⟩=>⟨h1,h2,fun j blk hj=>h3 j blk (hh j blk hj)⟩,fun _ _ _=>rfl,fun _ h=>h,fun _ _ _=>rfl,
   fun i blk' hi=>⟨blk',hh i blk' hi,rfl,fun d t xs e=>⟨d,xs,e,rfl⟩,fun _ _ _=>rfl⟩⟩
 exact⟨h.defers,h.size,h.os,h.tape,h.output,h.hsize,h.frame,fun i j bi bj b hi hj=>h.inj i j bi bj b (hh i bi hi) (hh j bj hj),
  fun i blk b hi=>h.apart i blk b (hh i blk hi),fun i blk b hi=>h.place i blk b (hh i blk hi),fun i blk hi=>(h.blocks i blk (hh i blk hi)).later L (fun _ _=>rfl) (fun _ _=>rfl),fun j av hj=>ak.later L av _ (h.env j av (he j av hj)),fun blk hb=>h.pinned blk (hh base blk hb)⟩
theorem Sim.gc (h:Sim g N s a w φ):Sim g N (gc s) a w φ:=
 h.less (s':=AE.gc s) (fun _ _ h=>h) (fun j b hj=>AU _ _ j b hj)
theorem Sim.slot (h:Sim g N s a w φ) (i:Nat):ak w (imm g φ s.hp w.heap.size) (aM g) φ s.hp (slot s.env i) (a.tmps.getD i undef):=by
 unfold AE.slot
 cases hb:Nat.blt i bV with
 | false=>simp[ak]
 | true=>
 simp only[cond_true]
 split
 ·rename_i u hu
  have:=h.env i u hu
  unfold valOf at this
  rw[hb] at this
  exact this
 ·simp[ak]
theorem th (w:World) (I:Nat->Prop):∀{t:Ty} {l:List Value} {x:t.D} {r:List Value},fP t l=some (x,r)->∃cs,l=cs++r/\Rep w I t x cs:=by
 intro t
 induction t with
 | int k=>
  intro l x r h
  unfold fP at h
  split at h
  ·rename_i k' n l'
   split at h
   ·rename_i hk
    have hk:=of_decide_eq_true hk
    subst hk
    cases h
    exact⟨[_],rfl,rfl⟩
   ·cases h
  ·cases h
 | bool=>
  intro l x r h
  unfold fP at h
  split at h
  ·cases h
   exact⟨[_],rfl,rfl⟩
  ·cases h
 | str=>
  intro l x r h
  unfold fP at h
  split at h
  ·cases h
   exact⟨[_],rfl,rfl⟩
  ·cases h
 | unit=>
  intro l x r h
  unfold fP at h
  cases h
  exact⟨[],rfl,rfl⟩
 | sl t _=>
  intro l x r h
  unfold fP at h
  split at h
  ·cases h
   exact⟨[.slice none 0 0],rfl,none,0,rfl,Nat.le_refl _,.inl rfl⟩
  ·cases h
 | pair p q ihp ihq=>
  intro l x r h
  unfold fP at h
  split at h
  ·rename_i y l' hy
   split at h
   ·rename_i z l'' hz
    cases h
    obtain⟨c1,rfl,h1⟩:=ihp hy
    obtain⟨c2,rfl,h2⟩:=ihq hz
    exact⟨c1++c2,by simp,c1,c2,rfl,h1,h2⟩
   ·cases h
  ·cases h
theorem iA (w:World) (I:Nat->Prop) {t:Ty} {v:Value} {x:t.D} (h:zA t v=some x):∃cs,Rep w I t x cs/\v=mkv t cs:=by
 unfold zA at h
 split at h
 ·rename_i cs
  cases ha:t.agg with
  | false=>simp[ha] at h
  | true=>
   simp only[ha,cond_true] at h
   split at h
   ·rename_i y hy
    cases h
    obtain⟨c,e,hr⟩:=th w I hy
    rw[List.append_nil] at e
    exact⟨c,hr,by rw[<-e];simp[mkv,ha]⟩
   ·cases h
 ·rename_i v _
  cases ha:t.agg with
  | true=>simp[ha] at h
  | false=>
   simp only[ha,cond_false] at h
   split at h
   ·rename_i y hy
    cases h
    obtain⟨c,e,hr⟩:=th w I hy
    rw[List.append_nil] at e
    exact⟨c,hr,by rw[<-e];simp[mkv,ha]⟩
   ·cases h
def dj (w:World) (I:Nat->Prop) (T:Nat->Prop) (t:Ty) (xs:List t.D) (u:Value):Prop:=
 ∃A c,u=.slice A xs.length c/\xs.length<=c/\(xs=[]\/∃b o l,A=some ⟨b,o,none⟩/\T b/\Cells w b o l/\cK (Rep w I t) xs l)
theorem dj.mono {w:World} {I T T':Nat->Prop} {t:Ty} {xs:List t.D} {u:Value} (h:dj w I T t xs u) (hT:∀b,T b->T' b):dj w I T' t xs u:=by
 obtain⟨A,c,h1,h2,h3⟩:=h
 refine⟨A,c,h1,h2,?_⟩
 rcases h3 with h3 | ⟨b,o,l,q1,q2,q3,q4⟩
 ·exact .inl h3
 ·exact .inr ⟨b,o,l,q1,hT b q2,q3,q4⟩
theorem dj.data {w:World} {I:Nat->Prop} {t:Ty} {xs:List t.D} {u:Value} (h:dj w I I t xs u):∃cs,Rep w I (.sl t) xs cs/\u=mkv (.sl t) cs:=by
 obtain⟨A,c,rfl,h2,h3⟩:=h
 exact⟨[.slice A xs.length c],⟨A,c,rfl,h2,h3⟩,rfl⟩
theorem dj.sN {w:World} {I:Nat->Prop} {t:Ty} {xs:List t.D} {u:Value} (h:∃cs,Rep w I (.sl t) xs cs/\u=mkv (.sl t) cs):dj w I I t xs u:=by
 obtain⟨cs,⟨A,c,rfl,h2,h3⟩,rfl⟩:=h
 exact⟨A,c,rfl,h2,h3⟩
def ja (g:Gl) (φ:Names) (s:St) (w:World) (b:Nat):Prop:=
 imm g φ s.hp w.heap.size b\/aM g b\/∃id d t xs,lookup s.hp id=some (.arr d t xs)/\φ id=some b/\id≠base
theorem cT {α:Type} {b:Bool} {x:Option α} {y:α} (h:(bif b then x else none)=some y):b=true/\x=some y:=by
 cases b with
 | true=>exact⟨rfl,h⟩
 | false=>cases h
theorem vK {α:Type} {b:Bool} {x:Option α} {y:α} (h:(bif b then none else x)=some y):b=false/\x=some y:=by
 cases b with
 | false=>exact⟨rfl,h⟩
 | true=>cases h
def gM (s s':St):Prop:=∀i blk',lookup s'.hp i=some blk'->∃blk,lookup s.hp i=some blk/\(∀d t xs,blk=.arr d t xs->blk'=.arr d t xs)/\∀cs,blk'=.box cs->∃cs0,blk=.box cs0
theorem gM.refl (s:St):gM s s:=fun _ b h=>⟨b,h,fun _ _ _ e=>e,fun cs e=>⟨cs,e⟩⟩
theorem gM.trans {s s' s'':St} (h:gM s s') (k:gM s' s''):gM s s'':=by
 intro i blk' hi
 obtain⟨b1,h1,e1,c1⟩:=k i blk' hi
 obtain⟨b0,h0,e0,c0⟩:=h i b1 h1
 refine⟨b0,h0,fun d t xs e=>e1 d t xs (e0 d t xs e),fun cs e=>?_⟩
 obtain⟨cs1,e2⟩:=c1 cs e
 exact c0 cs1 e2
theorem gM.imm {s s':St} (h:gM s s') {n:Nat}:∀b,imm g φ s.hp n b->imm g φ s'.hp n b:=by
 rintro b ⟨h1,h2,h3⟩
 refine⟨h1,h2,fun i blk' hi=>?_⟩
 obtain⟨blk,hq,_⟩:=h i blk' hi
 exact h3 i blk hq
theorem gM.later {s s':St} (h:gM s s') {S S':Nat->Prop} (hS:∀b,S b->S' b):Later w w (AE.imm g φ s.hp w.heap.size) (AE.imm g φ s'.hp w.heap.size) S S' φ φ s.hp s'.hp:=by
 refine⟨h.imm,fun _ _ _=>rfl,hS,fun _ _ _=>rfl,fun i blk' hi=>?_⟩
 obtain⟨b0,h0,e0,_⟩:=h i blk' hi
 exact⟨b0,h0,rfl,fun d t xs e=>⟨d,xs,e0 d t xs e,rfl⟩,fun _ _ _=>rfl⟩
theorem lI (s:St) (i:Nat):gM s (s.freeze i):=by
 intro j b h
 unfold St.freeze at h
 split at h
 ·rename_i d9 _ _ _
  rcases Bool.eq_false_or_eq_true (Nat.beq i base||!d9.whole) with hb | hb
  ·rw[hb] at h
   exact gM.refl s j b h
  rw[hb] at h
  simp only[cond_false,cW,bf] at h
  split at h
  ·simp at h
  ·cases hq:lookup s.hp j with
   | none=>simp[hq] at h
   | some b0=>
    simp[hq] at h
    subst h
    refine⟨b0,rfl,fun d t xs e=>by subst e;rfl,fun cs e=>?_⟩
    cases b0 with
    | box c0=>exact⟨c0,rfl⟩
    | arr d0 t0 x0=>simp[mapBlock] at e
    | map k0 u0 x0=>simp[mapBlock] at e
 ·exact gM.refl s j b h
theorem wF (s:St) (i:Nat):gM s (s.drop i):=by
 intro j b h
 simp only[St.drop,bf] at h
 split at h
 ·cases h
 ·exact gM.refl s j b h
theorem tO {s s':St} {t:Ty} {v:AV} {x:t.D} (hx:s.uZ t v=some (x,s')):gM s s':=by
 unfold St.uZ at hx
 split at hx
 ·split at hx
  ·cases (vK hx).2
   exact lI s _
  ·cases (vK hx).2
   exact lI s _
  ·cases hx
  ·cases hx;exact gM.refl s
 ·cases hx
theorem lf {s s':St} {t:Ty} {l l':List AV} {x:t.D} (hx:fS t s l=some (x,l',s')):gM s s':=by
 unfold fS at hx
 split at hx
 ·cases hx
 ·split at hx
  ·rename_i hg
   cases hx
   exact tO hg
  ·cases hx
theorem ru:∀{t:Ty} {s s':St} {l l':List AV} {x:t.D},fY t l s=some (x,l',s')->gM s s':=by
 intro t
 induction t with
 | unit=>intro s s' l l' x h;simp only[fY,Option.some.injEq,Prod.mk.injEq] at h;obtain⟨_,_,rfl⟩:=h;exact gM.refl s
 | pair a b iha ihb=>
  intro s s' l l' x h
  unfold fY at h
  split at h
  ·rename_i h1
   split at h
   ·rename_i h2
    cases h
    exact(iha h1).trans (ihb h2)
   ·cases h
  ·cases h
 | int k=>intro s s' l l' x h;exact lf h
 | bool=>intro s s' l l' x h;exact lf h
 | str=>intro s s' l l' x h;exact lf h
 | sl t _=>intro s s' l l' x h;exact lf h
theorem BS {s s':St} {t:Ty} {v:AV} {x:t.D} (hx:s.iT t v=some (x,s')):gM s s':=by
 unfold St.iT at hx
 split at hx
 ·split at hx
  ·have hx:=(cT hx).2
   split at hx
   ·rename_i hg;cases hx;exact ru hg
   ·cases hx
  ·cases hx
 ·exact tO hx
theorem Sim.vb (h:Sim g N s a w φ) {v:AV} {u:Value} (hv:ak w (imm g φ s.hp w.heap.size) (aM g) φ s.hp v u) {t:Ty} {xs:List t.D} (hx:v.as s.hp (.sl t)=some xs) (hd:v.deep s.hp=false) (hnb:jJ base v.refs=false) :
  dj w (imm g φ s.hp w.heap.size) (ja g φ s w) t xs u:=by
 unfold AV.as at hx
 split at hx
 ·rename_i t' ys
  split at hx
  ·rename_i hh _
   cases hh
   cases hx
   simp only[ak] at hv
   exact dj.mono hv (fun b hb=>.inr (.inl hb))
  ·cases hx
 ·rename_i t' y
  split at hx
  ·rename_i hh _
   cases hh
   cases hx
   simp only[ak] at hv
   exact(dj.sN hv).mono (fun b hb=>.inl hb)
  ·cases hx
 ·rename_i c
  simp only[ak] at hv
  obtain⟨cs,hr,e⟩:=iA w (imm g φ s.hp w.heap.size) hx
  exact(dj.sN ⟨cs,hr,hv.trans e⟩).mono (fun b hb=>.inl hb)
 ·rename_i id cut
  have hne:id≠base:=by
   rintro rfl
   simp[AV.refs,jJ] at hnb
  split at hx
  ·rename_i d' t' ys hl
   split at hx
   ·rename_i hh _
    cases hh
    obtain⟨hwh,hx⟩:=mM hx
    cases hx
    simp only[ak] at hv
    obtain⟨d2,t2,xs2,e,ho⟩:=hv _ hl
    cases e
    simp only[AV.deep,hl] at hd
    have hd:=Dp.Kg hd hwh
    subst hd
    obtain⟨v0,e0,l0,q1,q2,q3,_⟩:=h.blocks id _ hl
    obtain⟨A,c,p1,p2,p3⟩:=uz q1 q2 q3 ho
    refine⟨A,c,p1,p2,?_⟩
    rcases p3 with p3 | ⟨b,o,k,r1,r2,r3,r4⟩
    ·exact .inl p3
    ·exact .inr ⟨b,o,k,r1,.inr (.inr ⟨id,_,t,ys,hl,r2,hne⟩),r3,r4⟩
   ·cases hx
  ·cases hx
 ·rename_i id hi
  have hne:id≠base:=by
   rintro rfl
   simp[AV.refs,jJ] at hnb
  split at hx
  ·rename_i d' t' ys hl
   split at hx
   ·rename_i hh _
    cases hh
    obtain⟨hwh,hx⟩:=mM hx
    cases hx
    simp only[ak] at hv
    obtain⟨d2,t2,xs2,e,ho⟩:=hv _ hl
    cases e
    simp only[AV.deep,hl] at hd
    have hd:=Dp.Kg hd hwh
    subst hd
    obtain⟨v0,e0,l0,q1,q2,q3,_⟩:=h.blocks id _ hl
    obtain⟨A,c,p1,p2,p3⟩:=uF q1 q2 q3 ho
    refine⟨A,c,p1,p2,?_⟩
    rcases p3 with p3 | ⟨b,o,k,r1,r2,r3,r4⟩
    ·exact .inl p3
    ·exact .inr ⟨b,o,k,r1,.inr (.inr ⟨id,_,t,ys,hl,r2,hne⟩),r3,r4⟩
   ·cases hx
  ·cases hx
 ·cases hx
theorem Sim.BH (h:Sim g N s a w φ) {id:Nat} (hne:id≠base) {d:Dp} (hwh:d.whole=true) {t:Ty} {ys zs:List t.D} {u:Value} (hl:lookup s.hp id=some (.arr d t ys))
  (ho:∀{I:Nat->Prop} {v0 e0 l0},w.rowOf 0 e0 t.size v0 ys.length l0->v0.ownBlock=φ id->cK (Rep w I t) ys l0->∃A c,u=.slice A zs.length c/\zs.length<=c/\(zs=[]\/∃b o k,A=some ⟨b,o,none⟩/\φ id=some b/\Cells w b o k/\cK (Rep w I t) zs k)) :
  ∃cs,Rep w (imm g φ (s.freeze id).hp w.heap.size) (.sl t) zs cs/\u=mkv (.sl t) cs:=by
 have hlk:∀j blk',lookup (s.freeze id).hp j=some blk'->j≠id/\∃blk,lookup s.hp j=some blk:=by
  intro j blk' hj
  obtain⟨b0,h0,_⟩:=lI s id j blk' hj
  refine⟨?_,b0,h0⟩
  rintro rfl
  have hb:Nat.beq j base=false:=by rw[<-Bool.not_eq_true,Nat.beq_eq];exact hne
  unfold St.freeze at hj
  rw[hl] at hj
  simp[hb,hwh,cW,bf] at hj
 have hown:∀b,φ.eI id b->imm g φ (s.freeze id).hp w.heap.size b:=by
  intro b hb
  obtain⟨z1,z2⟩:=h.place id _ b hl hb
  refine⟨Gl.lH (z2.resolve_right (fun q=>hne q.2)),z1,fun j blk' hj hjb=>?_⟩
  obtain⟨hne,blk,hq⟩:=hlk j blk' hj
  exact hne (h.inj j id _ _ b hq hl hjb hb)
 obtain⟨v0,e0,l0,q1,q2,q3⟩:=h.blocks id _ hl
 have q3:=q3.rep hwh (lI s id).imm (fun b hb=>hown b (.inr hb))
 obtain⟨A,c,p1,p2,p3⟩:=ho q1 q2 q3
 refine⟨[.slice A zs.length c],⟨A,c,rfl,p2,?_⟩,p1⟩
 rcases p3 with p3 | ⟨b,o,k,r1,r2,r3,r4⟩
 ·exact .inl p3
 ·exact .inr ⟨b,o,k,r1,hown b (.inl r2),r3,r4⟩
theorem Sim.uZ (h:Sim g N s a w φ) {v:AV} {u:Value} (hv:ak w (imm g φ s.hp w.heap.size) (aM g) φ s.hp v u) {t:Ty} {x:t.D} {s':St} (hx:s.uZ t v=some (x,s')) :
  Sim g N s' a w φ/\∃cs,Rep w (imm g φ s'.hp w.heap.size) t x cs/\u=mkv t cs:=by
 unfold St.uZ at hx
 split at hx
 case h_2=>cases hx
 case h_1 y hy=>
  split at hx
  ·rename_i id cut
   rcases aZ id base with⟨_,hb⟩ | ⟨hne,hb⟩
   ·rw[hb] at hx;cases hx
   rw[hb] at hx
   cases hx
   refine⟨h.freeze id,?_⟩
   unfold AV.as at hy
   simp only at hy
   split at hy
   ·rename_i d' t' ys hl
    split at hy
    ·rename_i hh _
     cases hh
     obtain⟨hwh,hy⟩:=mM hy
     cases hy
     simp only[ak] at hv
     obtain⟨d2,t2,xs2,e,ho⟩:=hv _ hl
     cases e
     exact h.BH hne hwh hl (fun q1 q2 q3=>uz q1 q2 q3 ho)
    ·cases hy
   ·cases hy
  ·rename_i id hi
   rcases aZ id base with⟨_,hb⟩ | ⟨hne,hb⟩
   ·rw[hb] at hx;cases hx
   rw[hb] at hx
   cases hx
   refine⟨h.freeze id,?_⟩
   unfold AV.as at hy
   simp only at hy
   split at hy
   ·rename_i d' t' ys hl
    split at hy
    ·rename_i hh _
     cases hh
     obtain⟨hwh,hy⟩:=mM hy
     cases hy
     simp only[ak] at hv
     obtain⟨d2,t2,xs2,e,ho⟩:=hv _ hl
     cases e
     exact h.BH hne hwh hl (fun q1 q2 q3=>uF q1 q2 q3 ho)
    ·cases hy
   ·cases hy
  ·cases hx
  ·rename_i h1 h2 h3
   cases hx
   refine⟨h,?_⟩
   unfold AV.as at hy
   split at hy
   ·exact absurd rfl (h3 _ _)
   ·split at hy
    ·rename_i hh _
     cases hh
     cases hy
     simp only[ak] at hv
     exact hv
    ·cases hy
   ·simp only[ak] at hv
    obtain⟨cs,hr,e⟩:=iA w (imm g φ s.hp w.heap.size) hy
    exact⟨cs,hr,hv.trans e⟩
   ·exact absurd rfl (h1 _ _)
   ·exact absurd rfl (h2 _ _)
   ·cases hy
theorem yQ {t:Ty} {u:Value} (h:t.agg=false):mkv t [u]=u:=by simp[mkv,h]
theorem Sim.fS (h:Sim g N s a w φ) {t:Ty} (ha:t.agg=false) {l l':List AV} {us:List Value} (hv:ax w (imm g φ s.hp w.heap.size) (aM g) φ s.hp l us) {x:t.D} {s':St} (hx:AE.fS t s l=some (x,l',s')) :
  Sim g N s' a w φ/\∃cs us',us=cs++us'/\Rep w (imm g φ s'.hp w.heap.size) t x cs/\ax w (imm g φ s'.hp w.heap.size) (aM g) φ s'.hp l' us':=by
 unfold AE.fS at hx
 split at hx
 ·cases hx
 ·rename_i v l
  split at hx
  ·rename_i y s1 hg
   cases hx
   simp only[ax] at hv
   obtain⟨u,us',rfl,h1,h2⟩:=hv
   obtain⟨q1,cs,q2,q3⟩:=h.uZ h1 hg
   refine⟨q1,cs,us',?_,q2,ax.later ((tO hg).later (fun _ h=>h)) _ _ h2⟩
   have hl:=q2.length
   rw[ep t ha] at hl
   match cs,hl with
   | [c],_=>rw[yQ ha] at q3;rw[q3];rfl
  ·cases hx
theorem Sim.fY:∀{t:Ty} {s s':St} {l l':List AV} {us:List Value} {x:t.D},Sim g N s a w φ->ax w (imm g φ s.hp w.heap.size) (aM g) φ s.hp l us->AE.fY t l s=some (x,l',s') →
  Sim g N s' a w φ/\∃cs us',us=cs++us'/\Rep w (imm g φ s'.hp w.heap.size) t x cs/\ax w (imm g φ s'.hp w.heap.size) (aM g) φ s'.hp l' us':=by
 intro t
 induction t with
 | unit=>
  intro s s' l l' us x h hv hx
  simp only[AE.fY,Option.some.injEq,Prod.mk.injEq] at hx
  obtain⟨_,rfl,rfl⟩:=hx
  exact⟨h,[],us,rfl,rfl,hv⟩
 | pair p q ihp ihq=>
  intro s s' l l' us x h hv hx
  unfold AE.fY at hx
  split at hx
  ·rename_i y l1 s1 h1
   split at hx
   ·rename_i z l2 s2 h2
    cases hx
    obtain⟨q1,c1,u1,rfl,r1,v1⟩:=ihp h hv h1
    obtain⟨q2,c2,u2,rfl,r2,v2⟩:=ihq q1 v1 h2
    exact⟨q2,c1++c2,u2,by simp,⟨c1,c2,rfl,r1.mono (ru h2).imm (fun _ _ _=>rfl),r2⟩,v2⟩
   ·cases hx
  ·cases hx
 | int k=>intro s s' l l' us x h hv hx;exact h.fS rfl hv hx
 | bool=>intro s s' l l' us x h hv hx;exact h.fS rfl hv hx
 | str=>intro s s' l l' us x h hv hx;exact h.fS rfl hv hx
 | sl t _=>intro s s' l l' us x h hv hx;exact h.fS rfl hv hx
theorem Sim.iT (h:Sim g N s a w φ) {v:AV} {u:Value} (hv:ak w (imm g φ s.hp w.heap.size) (aM g) φ s.hp v u) {t:Ty} {x:t.D} {s':St} (hx:s.iT t v=some (x,s')) :
  Sim g N s' a w φ/\∃cs,Rep w (imm g φ s'.hp w.heap.size) t x cs/\u=mkv t cs:=by
 unfold St.iT at hx
 split at hx
 ·rename_i u0 vs
  split at hx
  ·rename_i hh _
   have hh:=hh.down
   subst hh
   have hx:=(cT hx).2
   split at hx
   ·rename_i hg
    cases hx
    simp only[ak] at hv
    obtain⟨us,rfl,hlen,h1,h2⟩:=hv
    obtain⟨q1,cs,us',rfl,q2,q3⟩:=Sim.fY h h2 hg
    have:us'=[]:=by simpa only[ax] using q3
    subst this
    exact⟨q1,cs,q2,by simp⟩
   ·cases hx
  ·cases hx
 ·exact h.uZ hv hx
end
end Go.AE
