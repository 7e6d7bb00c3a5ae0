/- The state of a call, told anew from the world at hand: what is not the call's own stays as it is from here on. -/
import Derived.Test.YtgfopdekfopmcaaGreatAeSim
namespace Go.AE
open Go Go.RowKit
section
variable {g:Gl} {N:Nat} {s s':St} {a a':Act} {w w':World} {φ φ':Names}
def qN (φ:Names) (hp:Hp) (b:Nat):Prop:=∃id blk,lookup hp id=some blk/\φ.cm id b
def jc (g:Gl) (s:St) (w:World):Option Nat:=match lookup s.hp base with
 | some _=>g.pin
 | none=>some w.heap.size
theorem Sim.rS (h:Sim g N s a w φ) {b:Nat} (ho:qN φ s.hp b) (hb:b<g.w0.heap.size):g.io b:=by
 obtain⟨id,blk,hl,ho⟩:=ho
 rcases(h.place id blk b hl ho).2 with q | q
 ·rcases g.jj q with r | r
  ·omega
  ·exact r
 ·exact q.1
def gR (h:Sim g N s a w φ):Gl where
 w0:=w
 ok:=fun b=>(g.ok b\/g.w0.heap.size<=b)/\b<w.heap.size
 io:=qN φ s.hp
 okLt:=fun _ hb=>hb.2
 gh:=g.gh
 pin:=jc g s w
 mv:=fun b=>g.mine b/\qN φ s.hp b
 mvOk:=fun b hb=>by
  obtain⟨hm,ho⟩:=hb
  have hlt:b<w.heap.size:=by
   obtain⟨id,blk,hl,ho⟩:=ho
   exact(h.place id blk b hl ho).1
  refine⟨ho,⟨g.gI hm,hlt⟩,fun e=>?_⟩
  unfold jc at e
  cases hbs:lookup s.hp base with
  | none=>
   rw[hbs] at e
   cases e
   omega
  | some blk=>
   rw[hbs] at e
   exact g.uE hm ((h.pinned blk hbs).2 b e).1 e
 st:=aA g
 stOk:=fun b hb=>⟨h.hH hb,fun ho=>(g.stOk b hb).2 (h.rS ho (g.stOk b hb).1)⟩
theorem Sim.here (h:Sim g N s a w φ):Sim (gR h) N s a w φ:=by
 have L:Later w w (imm g φ s.hp w.heap.size) (imm (gR h) φ s.hp w.heap.size) (aA g) (aA (gR h)) φ φ s.hp s.hp:=
  ⟨fun b ⟨h1,h2,h3⟩=>⟨.inl ⟨h1,h2⟩,h2,h3⟩,fun _ _ _=>rfl,fun _ h=>h,fun _ _ _=>rfl,fun i blk' hi=>⟨blk',hi,rfl,fun d t xs e=>⟨d,xs,e,rfl⟩,fun _ _ _=>rfl⟩⟩
 refine⟨h.defers,h.size,rfl,rfl,rfl,Nat.le_refl _,fun _ _ _=>rfl,h.inj,h.apart,?_,?_,?_,?_⟩
 ·intro i blk b hi ho
  obtain⟨p1,p2⟩:=h.place i blk b hi ho
  exact⟨p1,p2.elim (fun m=>.inl (.inr ⟨m,i,blk,hi,ho⟩)) (fun q=>.inr ⟨⟨i,blk,hi,ho⟩,q.2⟩)⟩
 ·intro i blk hi
  exact(h.blocks i blk hi).later L (fun _ _=>rfl) (fun _ _=>rfl)
 ·intro j av hj
  exact aa.later L av _ (h.env j av hj)
 ·intro blk hb
  obtain⟨p1,p2⟩:=h.pinned blk hb
  have e:(gR h).pin=g.pin:=by
   show jc g s w=g.pin
   unfold jc
   rw[hb]
  rw[e]
  exact⟨p1,fun b hpb=>⟨Nat.lt_of_lt_of_le (p2 b hpb).1 h.hsize,fun cur _ hg=>⟨cur,hg,rfl⟩⟩⟩
theorem Sim.back (h:Sim g N s a w φ) (k:Sim (gR h) N s' a' w' φ'):Sim g N s' a' w' φ':=by
 have L:Later w' w' (imm (gR h) φ' s'.hp w'.heap.size) (imm g φ' s'.hp w'.heap.size) (aA (gR h)) (aA g) φ' φ' s'.hp s'.hp:=
  ⟨fun b ⟨h1,h2,h3⟩=>⟨h1.elim (fun q=>q.1) (fun q=>.inr (Nat.le_trans h.hsize q)),h2,h3⟩,fun _ _ _=>rfl,fun _ h=>h,fun _ _ _=>rfl,fun i blk' hi=>⟨blk',hi,rfl,fun d t xs e=>⟨d,xs,e,rfl⟩,fun _ _ _=>rfl⟩⟩
 refine⟨k.defers,k.size,k.os.trans h.os,k.tape.trans h.tape,k.output.trans h.output,Nat.le_trans h.hsize k.hsize,?_,k.inj,k.apart,?_,?_,?_,?_⟩
 ·intro b hb hio
  exact(k.frame b (Nat.lt_of_lt_of_le hb h.hsize) (fun ho=>hio (h.rS ho hb))).trans (h.frame b hb hio)
 ·intro i blk b hi ho
  obtain⟨p1,p2⟩:=k.place i blk b hi ho
  refine⟨p1,?_⟩
  rcases p2 with(q | q) | ⟨⟨id,blk0,hl,ho'⟩,q⟩
  ·exact .inl (.inl (Nat.le_trans h.hsize q))
  ·exact .inl q.1
  ·rcases(h.place id blk0 b hl ho').2 with r | r
   ·exact .inl r
   ·exact .inr ⟨r.1,q⟩
 ·intro i blk hi
  exact(k.blocks i blk hi).later L (fun _ _=>rfl) (fun _ _=>rfl)
 ·intro j av hj
  exact aa.later L av _ (k.env j av hj)
 ·intro blk hb
  obtain⟨p1,p2⟩:=k.pinned blk hb
  cases hbs:lookup s.hp base with
  | none=>
   have e:(gR h).pin=some w.heap.size:=by
    show jc g s w=_
    unfold jc
    rw[hbs]
   exact absurd (p2 _ e).1 (Nat.lt_irrefl _)
  | some blk0=>
   have e:(gR h).pin=g.pin:=by
    show jc g s w=g.pin
    unfold jc
    rw[hbs]
   rw[e] at p1 p2
   refine⟨p1,fun b hpb=>?_⟩
   obtain⟨q1,q2⟩:=(h.pinned blk0 hbs).2 b hpb
   refine⟨q1,fun cur e' hg=>?_⟩
   obtain⟨cur1,r1,r2⟩:=q2 cur e' hg
   obtain⟨cur2,t1,t2⟩:=(p2 b hpb).2 cur1 e' r1
   exact⟨cur2,t1,t2.trans r2⟩
end
end Go.AE
