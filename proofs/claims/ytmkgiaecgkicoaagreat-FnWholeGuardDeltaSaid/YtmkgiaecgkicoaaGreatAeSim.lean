/- What is known of memory, carried over the changes that a call makes. -/
import Derived.Test.YtmkgiaecgkicoaaGreatAeTree
namespace Go.AE
open Go Go.RowKit
def bp (φ:Names) (id:Nat) (r:Option Nat) (B:List Nat):Names:=⟨fun i=>if i=id then r else φ i,fun i=>if i=id then B else φ.sub i⟩
def lX (φ:Names) (id:Nat) (r:Option Nat):Names:=bp φ id r []
theorem fz.later {d:Dp} {w w':World} {I I':Nat->Prop} {B:List Nat} {t:Ty} {xs:List t.D} {l:List Value} (hI:∀b,I b->I' b) (hw:ki I w w') (hB:∀b∈B,w'.heap[b]? = w.heap[b]?)
  (h:fz d w I B t xs l):fz d w' I' B t xs l:=by
 cases d with
 | sh=>exact⟨h.1.mono' hI hw,h.2⟩
 | dp=>
  obtain⟨B0,h1,h2,h3⟩:=h
  exact⟨B0,h1.frame (fun b hb=>hB b (h3 b hb)),h2,h3⟩
 | ho i off=>
  obtain⟨B0,h1,h2,h3⟩:=h
  exact⟨B0,h1.frame (fun b hb=>hB b (h3 b hb)),h2,h3⟩
theorem fz.rep {d:Dp} {w:World} {I I':Nat->Prop} {B:List Nat} {t:Ty} {xs:List t.D} {l:List Value} (hd:d.whole=true) (hI:∀b,I b->I' b) (hB:∀b∈B,I' b) (h:fz d w I B t xs l):cK (Rep w I' t) xs l:=by
 cases d with
 | sh=>exact h.1.mono' hI (fun _ _ _=>rfl)
 | dp=>
  obtain⟨B0,h1,h2,h3⟩:=h
  exact h1.Gq (fun b hb=>hB b (h3 b hb))
 | ho i off=>cases hd
theorem fz.any {d:Dp} {w:World} {I:Nat->Prop} {B:List Nat} {t:Ty} {xs:List t.D} {l:List Value} (hd:d.whole=true) (h:fz d w I B t xs l):cK (Rep w (fun _=>True) t) xs l:=h.rep hd (fun _ _=>trivial) (fun _ _=>trivial)
theorem Ar {w w':World} {e:TypeId} {size n:Nat} {v:Value} {l:List Value} {r:Option Nat} (ho:w.rowOf 0 e size v n l) (hb:v.ownBlock=r) (hr:∀b,r=some b->w'.heap[b]? = w.heap[b]?):w'.rowOf 0 e size v n l:=by
 rcases ho with⟨hn,hv | ⟨g,cap,cur,hv,h0,hg,rest⟩⟩
 ·exact⟨hn,.inl hv⟩
 ·exact⟨hn,.inr ⟨g,cap,cur,hv,h0,(hr g (by rw[<-hb,hv];rfl)).trans hg,rest⟩⟩
theorem dL.later {w w':World} {I I' S S':Nat->Prop} {φ φ':Names} {hp hp':Hp} (L:Later w w' I I' S S' φ φ' hp hp') {r:Option Nat} {blk:Block}
  {B:List Nat} (hr:∀b,r=some b->w'.heap[b]? = w.heap[b]?) (hB:∀b∈B,w'.heap[b]? = w.heap[b]?) (h:dL w I S φ hp r B blk):dL w' I' S' φ' hp' r B blk:=by
 cases blk with
 | box cs=>
  obtain⟨⟨b,vs,e,hb,hg,hv,h1⟩,h2⟩:=h
  exact⟨⟨b,vs,e,hb,(hr b hb).trans hg,ax.later L _ _ hv,h1⟩,h2⟩
 | map k u xs=>
  obtain⟨⟨b,es,clock,hb,hg,hm⟩,h2⟩:=h
  exact⟨⟨b,es,clock,hb,(hr b hb).trans hg,hm.mono L.imm L.immSame⟩,h2⟩
 | arr d t xs=>
  obtain⟨v,e,l,ho,hb,hl⟩:=h
  exact⟨v,e,l,Ar ho hb hr,hb,hl.later L.imm L.immSame hB⟩
theorem dL.jv {id:Nat} {w w':World} {I I' S S':Nat->Prop} {φ φ':Names} {hp hp':Hp} (L:LaterX id w w' I I' S S' φ φ' hp hp') {r:Option Nat} {blk:Block}
  {B:List Nat} (hr:∀b,r=some b->w'.heap[b]? = w.heap[b]?) (hB:∀b∈B,w'.heap[b]? = w.heap[b]?) (h:dL w I S φ hp r B blk):dL w' I' S' φ' hp' r B (mapBlock (AV.fO id) blk):=by
 cases blk with
 | box cs=>
  obtain⟨⟨b,vs,e,hb,hg,hv,h1⟩,h2⟩:=h
  exact⟨⟨b,vs,e,hb,(hr b hb).trans hg,ax.jv L _ _ hv,h1⟩,h2⟩
 | map k u xs=>
  obtain⟨⟨b,es,clock,hb,hg,hm⟩,h2⟩:=h
  exact⟨⟨b,es,clock,hb,(hr b hb).trans hg,hm.mono L.imm L.immSame⟩,h2⟩
 | arr d t xs=>
  obtain⟨v,e,l,ho,hb,hl⟩:=h
  exact⟨v,e,l,Ar ho hb hr,hb,hl.later L.imm L.immSame hB⟩
theorem dL.fixed {id:Nat} {w w':World} {I I' S S':Nat->Prop} {φ φ':Names} {hp hp':Hp} {t:Ty} {xs:List t.D} (L:LaterX id w w' I I' S S' φ φ' hp hp')
  (hid:lookup hp' id=none) {d0:Dp} (hx:lookup hp id=some (.arr d0 t xs))
  (hd:∀cut u,iy w (φ id) t xs.length cut u->∃cs,Rep w' I' (.sl t) (aj xs cut) cs/\u=mkv (.sl t) cs)
  (hc:∀hi u,mT w (φ id) t xs.length hi u->∃cs,Rep w' I' (.sl t) (aj xs (some (0,hi))) cs/\u=mkv (.sl t) cs) {r:Option Nat} {blk:Block}
  {B:List Nat} (hr:∀b,r=some b->w'.heap[b]? = w.heap[b]?) (hB:∀b∈B,w'.heap[b]? = w.heap[b]?) (h:dL w I S φ hp r B blk):dL w' I' S' φ' hp' r B (mapBlock (AV.gf id t xs) blk):=by
 cases blk with
 | box cs=>
  obtain⟨⟨b,vs,e,hb,hg,hv,h1⟩,h2⟩:=h
  exact⟨⟨b,vs,e,hb,(hr b hb).trans hg,ax.fixed L hid hx hd hc _ _ hv,h1⟩,h2⟩
 | map k u xs=>
  obtain⟨⟨b,es,clock,hb,hg,hm⟩,h2⟩:=h
  exact⟨⟨b,es,clock,hb,(hr b hb).trans hg,hm.mono L.imm L.immSame⟩,h2⟩
 | arr d t xs=>
  obtain⟨v,e,l,ho,hb,hl⟩:=h
  exact⟨v,e,l,Ar ho hb hr,hb,hl.later L.imm L.immSame hB⟩
theorem dL.kA {id:Nat} {w w':World} {I I' S S':Nat->Prop} {φ φ':Names} {hp hp':Hp} (L:LaterS id w w' I I' S S' φ φ' hp hp') {r:Option Nat} {blk:Block}
  {B:List Nat} (hr:∀b,r=some b->w'.heap[b]? = w.heap[b]?) (hB:∀b∈B,w'.heap[b]? = w.heap[b]?) (h:dL w I S φ hp r B blk):dL w' I' S' φ' hp' r B (mapBlock (AV.fQ id) blk):=by
 cases blk with
 | box cs=>
  obtain⟨⟨b,vs,e,hb,hg,hv,h1⟩,h2⟩:=h
  exact⟨⟨b,vs,e,hb,(hr b hb).trans hg,ax.kA L _ _ hv,h1⟩,h2⟩
 | map k u xs=>
  obtain⟨⟨b,es,clock,hb,hg,hm⟩,h2⟩:=h
  exact⟨⟨b,es,clock,hb,(hr b hb).trans hg,hm.mono L.imm L.immSame⟩,h2⟩
 | arr d t xs=>
  obtain⟨v,e,l,ho,hb,hl⟩:=h
  exact⟨v,e,l,Ar ho hb hr,hb,hl.later L.imm L.immSame hB⟩
theorem uF {w:World} {I:Nat->Prop} {r:Option Nat} {t:Ty} {xs:List t.D} {v:Value} {e:TypeId} {l:List Value}
  (hv:w.rowOf 0 e t.size v xs.length l) (hr:v.ownBlock=r) (hl:cK (Rep w I t) xs l) {hi:Int} {u:Value} (hu:mT w r t xs.length hi u) :
  ∃A c,u=.slice A (aj xs (some (0,hi))).length c/\(aj xs (some (0,hi))).length<=c ∧
   (aj xs (some (0,hi))=[]\/∃b o k,A=some ⟨b,o,none⟩/\r=some b/\Cells w b o k/\cK (Rep w I t) (aj xs (some (0,hi))) k):=by
 obtain⟨h1,h2,A,c,rfl,hc,h5⟩:=hu.look
 have hlen:(aj xs (some (0,hi))).length=hi.toNat:=by simp[aj];omega
 refine⟨A,c,by rw[hlen],by rw[hlen];exact hc,?_⟩
 by_cases hlt:0<hi
 ·obtain⟨b,hb,hA⟩:=h5 hlt
  have hcs:=jH hv (hr.trans hb)
  refine .inr ⟨b,0,_,hA,hb,?_,rj hl 0 hi⟩
  have:=(hcs.drop ((0:Int).toNat * t.size)).take ((hi-0).toNat * t.size)
  simpa using this
 ·refine .inl (List.eq_nil_of_length_eq_zero ?_)
  rw[hlen]
  omega
section
variable {g:Gl} {N:Nat} {s:St} {a:Act} {w:World} {φ:Names}
structure Turn (w w':World) (c:Option Nat):Prop where
 os:w'.os=w.os
 tape:w'.tape=w.tape
 output:w'.output=w.output
 size:w.heap.size<=w'.heap.size
 block:∀b,b<w.heap.size->c≠some b->w'.heap[b]? = w.heap[b]?
theorem Turn.refl (w:World) (c:Option Nat):Turn w w c:=⟨rfl,rfl,rfl,Nat.le_refl _,fun _ _ _=>rfl⟩
theorem cN {w w':World} {b:Nat} (h:w'.heap[b]? = w.heap[b]?) (o:Nat):w'.cell? ⟨b,o,none⟩=w.cell? ⟨b,o,none⟩:=
 World.cell?_of_block (w:=w) (a:=⟨b,o,none⟩) h
theorem Sim.mu (h:Sim g N s a w φ) {b:Nat} (hb:aM g b):b<w.heap.size:=Nat.lt_of_lt_of_le (g.stOk _ hb).1 h.hsize
theorem Sim.Gh (h:Sim g N s a w φ) {i:Nat} {blk:Block} {b c:Nat} (hi:lookup s.hp i=some blk) (hc:φ i=some c) (hb:aM g b):c≠b:=by
 rintro rfl
 rcases(h.place i blk c hi (.inl hc)).2 with h1 | ⟨h1,_⟩
 ·rcases(Gl.oe h1) with h1 | h1
  ·exact absurd (g.stOk _ hb).1 (by omega)
  ·exact(g.stOk _ hb).2 h1
 ·exact(g.stOk _ hb).2 h1
theorem Sim.freeze (h:Sim g N s a w φ) (id:Nat):Sim g N (s.freeze id) a w φ:=by
 unfold St.freeze
 split
 case h_2=>exact h
 case h_1 d0 t xs hx=>
  rcases Bool.eq_false_or_eq_true d0.whole with hwh | hwh
  case inr=>
   rw[hwh,Bool.not_false,Bool.or_true]
   exact h
  rcases aZ id base with⟨_,hb⟩ | ⟨hne,hb⟩
  ·rw[hb];exact h
  rw[hb,hwh]
  simp only[Bool.not_true,Bool.or_false,cond_false]
  have hlk:∀j,lookup (ko (AV.gf id t xs) (erase s.hp id)) j=if j=id then none else (lookup s.hp j).map (mapBlock (AV.gf id t xs)):=by
   intro j
   rw[cW,bf]
   split<;>rfl
  have hlive:∀j blk',lookup (ko (AV.gf id t xs) (erase s.hp id)) j=some blk'->j≠id/\∃blk,lookup s.hp j=some blk/\blk'=mapBlock (AV.gf id t xs) blk:=by
   intro j blk' hj
   rw[hlk] at hj
   by_cases hji:j=id
   ·simp[hji] at hj
   ·rw[if_neg hji] at hj
    cases hq:lookup s.hp j with
    | none=>simp[hq] at hj
    | some blk=>simp[hq] at hj;exact⟨hji,blk,rfl,hj.symm⟩
  have himm:∀b,imm g φ s.hp w.heap.size b->imm g φ (ko (AV.gf id t xs) (erase s.hp id)) w.heap.size b:=by
   rintro b ⟨h1,h2,h3⟩
   refine⟨h1,h2,fun j blk' hj=>?_⟩
   obtain⟨_,blk,hq,_⟩:=hlive j blk' hj
   exact h3 j blk hq
  have hown:∀b,φ.eI id b->imm g φ (ko (AV.gf id t xs) (erase s.hp id)) w.heap.size b:=by
   intro b hr
   obtain⟨p1,p2⟩:=h.place id _ b hx hr
   refine⟨Gl.lH (p2.resolve_right (fun q=>hne q.2)),p1,fun j blk' hj hjb=>?_⟩
   obtain⟨hne,blk,hq,_⟩:=hlive j blk' hj
   exact hne (h.inj j id _ _ b hq hx hjb hr)
  have L:LaterX id w w (imm g φ s.hp w.heap.size) (imm g φ (ko (AV.gf id t xs) (erase s.hp id)) w.heap.size) (aM g) (aM g) φ φ s.hp (ko (AV.gf id t xs) (erase s.hp id)):=by
   refine⟨himm,fun _ _ _=>rfl,fun _ h=>h,fun _ _ _=>rfl,fun i blk' _ hi=>?_⟩
   obtain⟨_,blk,hq,rfl⟩:=hlive i blk' hi
   refine⟨blk,hq,rfl,?_,fun _ _ _=>rfl⟩
   rintro d' t' xs' rfl
   exact⟨d',xs',rfl,rfl⟩
  have hnone:lookup (ko (AV.gf id t xs) (erase s.hp id)) id=none:=by rw[hlk];simp
  obtain⟨v,e,l,ho,hb,hl⟩:=h.blocks id _ hx
  have hl:=hl.rep hwh himm (fun b hb=>hown b (.inr hb))
  have hd:∀cut u,iy w (φ id) t xs.length cut u->∃cs,Rep w (imm g φ (ko (AV.gf id t xs) (erase s.hp id)) w.heap.size) (.sl t) (aj xs cut) cs/\u=mkv (.sl t) cs:=by
   intro cut u hu
   obtain⟨A,c,rfl,hc,hz⟩:=uz ho hb hl hu
   refine⟨[.slice A (aj xs cut).length c],⟨A,c,rfl,hc,?_⟩,rfl⟩
   rcases hz with hz | ⟨b,o,k,hA,hr,hcs,hk⟩
   ·exact .inl hz
   ·exact .inr ⟨b,o,k,hA,hown b (.inl hr),hcs,hk⟩
  have hcl:∀hi u,mT w (φ id) t xs.length hi u->∃cs,Rep w (imm g φ (ko (AV.gf id t xs) (erase s.hp id)) w.heap.size) (.sl t) (aj xs (some (0,hi))) cs/\u=mkv (.sl t) cs:=by
   intro hi u hu
   obtain⟨A,c,rfl,hc,hz⟩:=uF ho hb hl hu
   refine⟨[.slice A (aj xs (some (0,hi))).length c],⟨A,c,rfl,hc,?_⟩,rfl⟩
   rcases hz with hz | ⟨b,o,k,hA,hr,hcs,hk⟩
   ·exact .inl hz
   ·exact .inr ⟨b,o,k,hA,hown b (.inl hr),hcs,hk⟩
  refine⟨h.defers,h.size,h.os,h.tape,h.output,h.hsize,h.frame,?_,?_,?_,?_,?_,fun blk' hb=>by obtain⟨_,blk,hq,_⟩:=hlive base blk' hb;exact h.pinned blk hq⟩
  ·intro i j bi bj b hi hj
   obtain⟨_,blki,hqi,_⟩:=hlive i bi hi
   obtain⟨_,blkj,hqj,_⟩:=hlive j bj hj
   exact h.inj i j _ _ b hqi hqj
  ·intro i blk' b hi
   obtain⟨_,blk,hq,_⟩:=hlive i blk' hi
   exact h.apart i blk b hq
  ·intro i blk' b hi
   obtain⟨_,blk,hq,_⟩:=hlive i blk' hi
   exact h.place i blk b hq
  ·intro i blk' hi
   obtain⟨_,blk,hq,rfl⟩:=hlive i blk' hi
   exact(h.blocks i blk hq).fixed L hnone hx hd hcl (fun _ _=>rfl) (fun _ _=>rfl)
  ·intro j av hj
   rw[jd] at hj
   cases hq:lookup s.env j with
   | none=>simp[hq] at hj
   | some v=>
    simp[hq] at hj
    subst hj
    exact ak.fixed L hnone hx hd hcl v _ (h.env j v hq)
theorem Sim.fB (h:Sim g N s a w φ) {id:Nat} {W:AV} {cs:List AV} (hx:lookup s.hp id=some (.box cs)) (hid:id≠base)
  (hW:∀b,φ id=some b->(∀c,imm g φ s.hp w.heap.size c->imm g φ (s.fB id W).hp w.heap.size c)->imm g φ (s.fB id W).hp w.heap.size b->ak w (imm g φ (s.fB id W).hp w.heap.size) (aM g) φ (s.fB id W).hp W (.pointer (some ⟨b,0,none⟩))) :
  Sim g N (s.fB id W) a w φ:=by
 have hlk:∀j,lookup (s.fB id W).hp j=if j=id then none else (lookup s.hp j).map (mapBlock (AV.oR id W)):=by
  intro j
  simp only[St.fB,cW,bf]
  split<;>rfl
 have hlive:∀j blk',lookup (s.fB id W).hp j=some blk'->j≠id/\∃blk,lookup s.hp j=some blk/\blk'=mapBlock (AV.oR id W) blk:=by
  intro j blk' hj
  rw[hlk] at hj
  by_cases hji:j=id
  ·simp[hji] at hj
  ·rw[if_neg hji] at hj
   cases hq:lookup s.hp j with
   | none=>simp[hq] at hj
   | some blk=>simp[hq] at hj;exact⟨hji,blk,rfl,hj.symm⟩
 have himm:∀b,imm g φ s.hp w.heap.size b->imm g φ (s.fB id W).hp w.heap.size b:=by
  rintro b ⟨h1,h2,h3⟩
  refine⟨h1,h2,fun j blk' hj=>?_⟩
  obtain⟨_,blk,hq,_⟩:=hlive j blk' hj
  exact h3 j blk hq
 have L:LaterX id w w (imm g φ s.hp w.heap.size) (imm g φ (s.fB id W).hp w.heap.size) (aM g) (aM g) φ φ s.hp (s.fB id W).hp:=by
  refine⟨himm,fun _ _ _=>rfl,fun _ h=>h,fun _ _ _=>rfl,fun i blk' _ hi=>?_⟩
  obtain⟨_,blk,hq,rfl⟩:=hlive i blk' hi
  refine⟨blk,hq,rfl,?_,fun _ _ _=>rfl⟩
  rintro d' t' xs' rfl
  exact⟨d',xs',rfl,rfl⟩
 have hW':∀b,φ id=some b->ak w (imm g φ (s.fB id W).hp w.heap.size) (aM g) φ (s.fB id W).hp W (.pointer (some ⟨b,0,none⟩)):=by
  intro b hb
  refine hW b hb himm ?_
  obtain⟨p1,p2⟩:=h.place id _ b hx (.inl hb)
  refine⟨Gl.lH (p2.resolve_right (fun q=>hid q.2)),p1,fun j blk' hj hjb=>?_⟩
  obtain⟨hne,blk,hq,_⟩:=hlive j blk' hj
  exact hne (h.inj j id _ _ b hq hx hjb (.inl hb))
 refine⟨h.defers,h.size,h.os,h.tape,h.output,h.hsize,h.frame,?_,?_,?_,?_,?_,fun blk' hb=>by obtain⟨_,blk,hq,_⟩:=hlive base blk' hb;exact h.pinned blk hq⟩
 ·intro i j bi bj b hi hj
  obtain⟨_,blki,hqi,_⟩:=hlive i bi hi
  obtain⟨_,blkj,hqj,_⟩:=hlive j bj hj
  exact h.inj i j _ _ b hqi hqj
 ·intro i blk' b hi
  obtain⟨_,blk,hq,_⟩:=hlive i blk' hi
  exact h.apart i blk b hq
 ·intro i blk' b hi
  obtain⟨_,blk,hq,_⟩:=hlive i blk' hi
  exact h.place i blk b hq
 ·intro i blk' hi
  obtain⟨_,blk,hq,rfl⟩:=hlive i blk' hi
  have hb:=h.blocks i blk hq
  cases blk with
  | box cs=>
   obtain⟨⟨b,vs,e,hb,hg,hv,h1⟩,h2⟩:=hb
   exact⟨⟨b,vs,e,hb,hg,ax.qA L hx hW' _ _ hv,h1⟩,h2⟩
  | map k u xs=>
   obtain⟨⟨b,es,clock,hb,hg,hm⟩,h2⟩:=hb
   exact⟨⟨b,es,clock,hb,hg,hm.mono L.imm L.immSame⟩,h2⟩
  | arr d t xs=>
   obtain⟨v,e,l,ho,hb,hl⟩:=hb
   exact⟨v,e,l,ho,hb,hl.later L.imm L.immSame (fun _ _=>rfl)⟩
 ·intro j av hj
  simp only[St.fB,jd] at hj
  cases hq:lookup s.env j with
  | none=>simp[hq] at hj
  | some v=>
   simp[hq] at hj
   subst hj
   exact ak.qA L hx hW' v _ (h.env j v hq)
structure TurnP (w w':World) (c:Nat->Prop):Prop where
 os:w'.os=w.os
 tape:w'.tape=w.tape
 output:w'.output=w.output
 size:w.heap.size<=w'.heap.size
 block:∀b,b<w.heap.size->¬c b->w'.heap[b]? = w.heap[b]?
theorem Turn.p {w w':World} {c:Option Nat} (h:Turn w w' c):TurnP w w' (fun b=>c=some b):=⟨h.os,h.tape,h.output,h.size,h.block⟩
structure fu (s s1:St):Prop where
 env:s1.env=s.env
 hp:∀j blk,lookup s1.hp j=some blk->lookup s.hp j=some blk
theorem fu.refl (s:St):fu s s:=⟨rfl,fun _ _ h=>h⟩
theorem fu.trans {s s1 s2:St} (h:fu s s1) (k:fu s1 s2):fu s s2:=⟨k.env.trans h.env,fun j blk hj=>h.hp j blk (k.hp j blk hj)⟩
def qT (s s1:St) (φ:Names) (id b:Nat):Prop:=∃j blk,lookup s.hp j=some blk/\φ.eI j b/\(j=id\/lookup s1.hp j=none)
theorem cD {φ:Names} {id:Nat} {r:Option Nat} {B:List Nat} {i b:Nat}:(bp φ id r B).eI i b ↔ if i=id then (r=some b\/b∈B) else φ.eI i b:=by
 unfold Names.eI bp
 by_cases h:i=id<;>simp[h]
theorem Sim.Gw (h:Sim g N s a w φ) {s1:St} (hf:fu s s1) {id b:Nat} (hb:qT s s1 φ id b) {j:Nat} {blk0:Block} (hj:j≠id) (hq:lookup s1.hp j=some blk0):¬ φ.eI j b:=by
 obtain⟨k,bk,h1,h2,h3⟩:=hb
 intro hjb
 have:=h.inj j k _ _ b (hf.hp j _ hq) h1 hjb h2
 subst this
 rcases h3 with h3 | h3
 ·exact hj h3
 ·rw[hq] at h3;cases h3
theorem Sim.nZ (h:Sim g N s a w φ) {s1:St} (hf:fu s s1) {id:Nat} {w':World} {c:Nat->Prop} {r:Option Nat} {B:List Nat} {blk:Block} (hid:id≠base) (hw:TurnP w w' c)
  (hc:∀b,c b->g.mine b/\qT s s1 φ id b)
  (hr:∀b,(r=some b\/b∈B)->b<w'.heap.size/\g.mine b/\(w.heap.size<=b\/qT s s1 φ id b))
  (hap:∀b,r=some b->b∉B)
  (hb:LaterX id w w' (imm g φ s.hp w.heap.size) (imm g (bp φ id r B) (s1.create id blk).hp w'.heap.size) (aM g) (aM g) φ (bp φ id r B) s.hp (s1.create id blk).hp →
   dL w' (imm g (bp φ id r B) (s1.create id blk).hp w'.heap.size) (aM g) (bp φ id r B) (s1.create id blk).hp r B blk) :
  Sim g N (s1.create id blk) a w' (bp φ id r B):=by
 have hlk:∀j,lookup (s1.create id blk).hp j=if j=id then some blk else (lookup s1.hp j).map (mapBlock (AV.fO id)):=by
  intro j
  simp only[St.create,lookup_cons,cW,bf]
  by_cases hj:j=id
  ·simp[hj]
  ·have:¬id=j:=fun e=>hj e.symm
   simp[hj,this]
 have hlive:∀j blk',j≠id->lookup (s1.create id blk).hp j=some blk'->∃blk0,lookup s1.hp j=some blk0/\lookup s.hp j=some blk0/\blk'=mapBlock (AV.fO id) blk0:=by
  intro j blk' hji hj
  rw[hlk,if_neg hji] at hj
  cases hq:lookup s1.hp j with
  | none=>simp[hq] at hj
  | some b0=>simp[hq] at hj;exact⟨b0,rfl,hf.hp j b0 hq,hj.symm⟩
 have himm:∀b,imm g φ s.hp w.heap.size b->imm g (bp φ id r B) (s1.create id blk).hp w'.heap.size b:=by
  rintro b ⟨h1,h2,h3⟩
  refine⟨h1,Nat.lt_of_lt_of_le h2 hw.size,fun j blk' hj e=>?_⟩
  rw[cD] at e
  by_cases hji:j=id
  ·rw[if_pos hji] at e
   obtain⟨_,_,q | ⟨k,bk,q1,q2,_⟩⟩:=hr b e
   ·omega
   ·exact h3 k bk q1 q2
  ·rw[if_neg hji] at e
   obtain⟨b0,_,hq,_⟩:=hlive j blk' hji hj
   exact h3 j b0 hq e
 have hsameI:ki (imm g φ s.hp w.heap.size) w w':=by
  rintro b ⟨h1,h2,h3⟩ o
  refine cN (hw.block b h2 (fun e=>?_)) o
  obtain⟨_,k,bk,q1,q2,_⟩:=hc b e
  exact h3 k bk q1 q2
 have hsameS:ki (aM g) w w':=by
  rintro b hb o
  refine cN (hw.block b (h.mu hb) (fun e=>?_)) o
  rcases(Gl.oe (hc b e).1) with q | q
  ·exact absurd (g.stOk _ hb).1 (by omega)
  ·exact(g.stOk _ hb).2 q
 have hheap:∀j blk0,j≠id->lookup s1.hp j=some blk0->∀b,φ.eI j b->w'.heap[b]? = w.heap[b]?:=by
  intro j blk0 hji hq b hb
  exact hw.block b (h.place j blk0 b (hf.hp j _ hq) hb).1 (fun e=>h.Gw hf (hc b e).2 hji hq hb)
 have L:LaterX id w w' (imm g φ s.hp w.heap.size) (imm g (bp φ id r B) (s1.create id blk).hp w'.heap.size) (aM g) (aM g) φ (bp φ id r B) s.hp (s1.create id blk).hp:=by
  refine⟨himm,hsameI,fun _ h=>h,hsameS,fun i blk' hi hl=>?_⟩
  obtain⟨b0,hq1,hq,rfl⟩:=hlive i blk' hi hl
  refine⟨b0,hq,by simp[bp,hi],?_,fun _ b hb=>hheap i b0 hi hq1 b (.inl hb)⟩
  rintro d' t' xs' rfl
  exact⟨d',xs',rfl,rfl⟩
 refine⟨h.defers,h.size,hw.os.trans h.os,hw.tape.trans h.tape,hw.output.trans h.output,Nat.le_trans h.hsize hw.size,?_,?_,?_,?_,?_,?_,?_⟩
 ·intro b hb hio
  rw[hw.block b (Nat.lt_of_lt_of_le hb h.hsize) (fun e=>(Gl.oe (hc b e).1).elim (fun q=>by omega) hio)]
  exact h.frame b hb hio
 ·have key:∀i bi b,i≠id->lookup (s1.create id blk).hp i=some bi->(bp φ id r B).eI i b->(r=some b\/b∈B)->False:=by
   intro i bi b hi hl ho hn
   obtain⟨b0,hq1,hq,_⟩:=hlive i bi hi hl
   rw[cD,if_neg hi] at ho
   rcases(hr b hn).2.2 with q | q
   ·have:=(h.place i b0 b hq ho).1;omega
   ·exact h.Gw hf q hi hq1 ho
  intro i j bi bj b hi hj ei ej
  by_cases hii:i=id
  ·by_cases hji:j=id
   ·rw[hii,hji]
   ·rw[cD,if_pos hii] at ei
    exact(key j bj b hji hj ej ei).elim
  ·by_cases hji:j=id
   ·rw[cD,if_pos hji] at ej
    exact(key i bi b hii hi ei ej).elim
   ·obtain⟨b0,_,hq,_⟩:=hlive i bi hii hi
    obtain⟨b1,_,hq1,_⟩:=hlive j bj hji hj
    rw[cD,if_neg hii] at ei
    rw[cD,if_neg hji] at ej
    exact h.inj i j _ _ b hq hq1 ei ej
 ·intro i blk' b hi hb
  by_cases hii:i=id
  ·simp only[bp,if_pos hii] at hb ⊢
   exact hap b hb
  ·obtain⟨b0,_,hq,_⟩:=hlive i blk' hii hi
   simp only[bp,if_neg hii] at hb ⊢
   exact h.apart i b0 b hq hb
 ·intro i blk' b hi hb
  rw[cD] at hb
  by_cases hii:i=id
  ·rw[if_pos hii] at hb
   obtain⟨q0,q1,_⟩:=hr b hb
   exact⟨q0,.inl q1⟩
  ·obtain⟨b0,_,hq,_⟩:=hlive i blk' hii hi
   rw[if_neg hii] at hb
   obtain⟨p1,p2⟩:=h.place i b0 b hq hb
   exact⟨Nat.lt_of_lt_of_le p1 hw.size,p2⟩
 ·intro i blk' hi
  by_cases hii:i=id
  ·subst hii
   rw[hlk,if_pos rfl] at hi
   cases hi
   have:=hb L
   simpa only[bp,if_true] using this
  ·obtain⟨b0,hq1,hq,rfl⟩:=hlive i blk' hii hi
   have:=(h.blocks i b0 hq).jv L (fun b hb=>hheap i b0 hii hq1 b (.inl hb)) (fun b hb=>hheap i b0 hii hq1 b (.inr hb))
   have e1:(bp φ id r B) i=φ i:=by simp[bp,hii]
   have e2:(bp φ id r B).sub i=φ.sub i:=by simp[bp,hii]
   rw[e1,e2]
   exact this
 ·intro j av hj
  simp only[St.create,jd,hf.env] at hj
  cases hq:lookup s.env j with
  | none=>simp[hq] at hj
  | some v=>
   simp[hq] at hj
   subst hj
   exact ak.jv L v _ (h.env j v hq)
 ·intro blk' hbk
  obtain⟨b0,hq1,hq,_⟩:=hlive base blk' (fun e=>hid e.symm) hbk
  obtain⟨p1,p2⟩:=h.pinned b0 hq
  refine⟨by simpa only[bp,if_neg (fun e=>hid (Eq.symm e):¬base=id)] using p1,fun b hb=>?_⟩
  obtain⟨p3,p4⟩:=p2 b hb
  refine⟨p3,fun cur e hg=>?_⟩
  obtain⟨cur',q1,q2⟩:=p4 cur e hg
  refine⟨cur',?_,q2⟩
  rw[hw.block b (Nat.lt_of_lt_of_le p3 h.hsize) (fun e=>Gl.Eh (hc b e).1 p3 hb)]
  exact q1
theorem Sim.create (h:Sim g N s a w φ) {id:Nat} {w':World} {r c:Option Nat} {blk:Block} (hid:id≠base) (hw:Turn w w' c)
  (hc:∀b,c=some b->φ id=some b/\∃d t xs,lookup s.hp id=some (.arr d t xs))
  (hr:∀b,r=some b->b<w'.heap.size/\(w.heap.size<=b\/(φ id=some b/\∃d t xs,lookup s.hp id=some (.arr d t xs))))
  (hb:LaterX id w w' (imm g φ s.hp w.heap.size) (imm g (lX φ id r) (s.create id blk).hp w'.heap.size) (aM g) (aM g) φ (lX φ id r) s.hp (s.create id blk).hp →
   dL w' (imm g (lX φ id r) (s.create id blk).hp w'.heap.size) (aM g) (lX φ id r) (s.create id blk).hp r [] blk) :
  Sim g N (s.create id blk) a w' (lX φ id r):=by
 have ge:∀b,(φ id=some b/\∃d t xs,lookup s.hp id=some (.arr d t xs))->g.mine b/\qT s s φ id b:=by
  rintro b ⟨h1,d,t,xs,h2⟩
  exact⟨(h.place id _ b h2 (.inl h1)).2.resolve_right (fun q=>hid q.2),id,_,h2,.inl h1,.inl rfl⟩
 refine h.nZ (fu.refl s) hid hw.p (fun b hb=>ge b (hc b hb)) (fun b hb=>?_) (fun _ _ h=>by simp at h) hb
 rcases hb with hb | hb
 ·obtain⟨q1,q2⟩:=hr b hb
  refine⟨q1,?_,q2.imp (fun h=>h) (fun q=>(ge b q).2)⟩
  rcases q2 with q2 | q2
  ·exact .inl (Nat.le_trans h.hsize q2)
  ·exact(ge b q2).1
 ·simp at hb
theorem Sim.qG (h:Sim g N s a w φ) {s1:St} (hf:fu s s1) {id:Nat} {w':World} {c:Nat->Prop} {B:List Nat} {d d':Dp} {t:Ty} {xs xs':List t.D} (hx:lookup s1.hp id=some (.arr d t xs))
  (hlen:xs'.length=xs.length) (hw:TurnP w w' c) (hc:∀b,c b->qT s s1 φ id b)
  (hr:∀b∈B,b<w'.heap.size/\(g.mine b\/(g.io b/\id=base))/\(w.heap.size<=b\/qT s s1 φ id b))
  (hap:∀b,φ id=some b->b∉B)
  (hrow:∀b,φ id=some b->∀cur e,w.heap[b]? = some (.cells cur e (0,0))->∃cur',w'.heap[b]? = some (.cells cur' e (0,0))/\cur'.size=cur.size)
  (hb:LaterS id w w' (imm g φ s.hp w.heap.size) (imm g (bp φ id (φ id) B) (s1.cR id (.arr d' t xs')).hp w'.heap.size) (aM g) (aM g) φ (bp φ id (φ id) B) s.hp (s1.cR id (.arr d' t xs')).hp →
   dL w' (imm g (bp φ id (φ id) B) (s1.cR id (.arr d' t xs')).hp w'.heap.size) (aM g) (bp φ id (φ id) B) (s1.cR id (.arr d' t xs')).hp (φ id) B (.arr d' t xs')) :
  Sim g N (s1.cR id (.arr d' t xs')) a w' (bp φ id (φ id) B):=by
 have hlk:∀j,lookup (s1.cR id (.arr d' t xs')).hp j=if j=id then some (.arr d' t xs') else (lookup s1.hp j).map (mapBlock (AV.fQ id)):=by
  intro j
  simp only[St.cR,lookup_cons,cW,bf]
  by_cases hj:j=id
  ·simp[hj]
  ·have:¬id=j:=fun e=>hj e.symm
   simp[hj,this]
 have hlive:∀j blk',j≠id->lookup (s1.cR id (.arr d' t xs')).hp j=some blk'->∃blk0,lookup s1.hp j=some blk0/\lookup s.hp j=some blk0/\blk'=mapBlock (AV.fQ id) blk0:=by
  intro j blk' hji hj
  rw[hlk,if_neg hji] at hj
  cases hq:lookup s1.hp j with
  | none=>simp[hq] at hj
  | some b0=>simp[hq] at hj;exact⟨b0,rfl,hf.hp j b0 hq,hj.symm⟩
 have hxs:=hf.hp id _ hx
 have hmain:∀i,(bp φ id (φ id) B) i=φ i:=by
  intro i
  by_cases hi:i=id<;>simp[bp,hi]
 have himm:∀b,imm g φ s.hp w.heap.size b->imm g (bp φ id (φ id) B) (s1.cR id (.arr d' t xs')).hp w'.heap.size b:=by
  rintro b ⟨h1,h2,h3⟩
  refine⟨h1,Nat.lt_of_lt_of_le h2 hw.size,fun j blk' hj e=>?_⟩
  rw[cD] at e
  by_cases hji:j=id
  ·rw[if_pos hji] at e
   rcases e with e | e
   ·exact h3 id _ hxs (.inl e)
   ·obtain⟨_,_,q | ⟨k,bk,q1,q2,_⟩⟩:=hr b e
    ·omega
    ·exact h3 k bk q1 q2
  ·rw[if_neg hji] at e
   obtain⟨b0,_,hq,_⟩:=hlive j blk' hji hj
   exact h3 j b0 hq e
 have hsameI:ki (imm g φ s.hp w.heap.size) w w':=by
  rintro b ⟨h1,h2,h3⟩ o
  refine cN (hw.block b h2 (fun e=>?_)) o
  obtain⟨k,bk,q1,q2,_⟩:=hc b e
  exact h3 k bk q1 q2
 have hcio:∀b,c b->g.w0.heap.size<=b\/g.io b:=by
  intro b e
  obtain⟨k,bk,q1,q2,_⟩:=hc b e
  exact(h.place k bk b q1 q2).2.elim (fun h=>Gl.oe h) (fun h=>.inr h.1)
 have hsameS:ki (aM g) w w':=by
  rintro b hb o
  refine cN (hw.block b (h.mu hb) (fun e=>?_)) o
  rcases hcio b e with q | q
  ·exact absurd (g.stOk _ hb).1 (by omega)
  ·exact(g.stOk _ hb).2 q
 have hheap:∀j blk0,j≠id->lookup s1.hp j=some blk0->∀b,φ.eI j b->w'.heap[b]? = w.heap[b]?:=by
  intro j blk0 hji hq b hb
  exact hw.block b (h.place j blk0 b (hf.hp j _ hq) hb).1 (fun e=>h.Gw hf (hc b e) hji hq hb)
 have L:LaterS id w w' (imm g φ s.hp w.heap.size) (imm g (bp φ id (φ id) B) (s1.cR id (.arr d' t xs')).hp w'.heap.size) (aM g) (aM g) φ (bp φ id (φ id) B) s.hp (s1.cR id (.arr d' t xs')).hp:=by
  refine⟨himm,hsameI,fun _ h=>h,hsameS,fun i blk' hl=>?_⟩
  by_cases hi:i=id
  ·subst hi
   rw[hlk,if_pos rfl] at hl
   cases hl
   refine⟨_,hxs,hmain i,?_,fun _ b hb=>⟨fun q=>(q rfl).elim,hrow b hb⟩⟩
   intro d1 t1 x1 e
   cases e
   exact⟨d',xs',rfl,hlen⟩
  ·obtain⟨b0,hq1,hq,rfl⟩:=hlive i blk' hi hl
   have hsame:=fun b (hb:φ i=some b)=>hheap i b0 hi hq1 b (.inl hb)
   refine⟨b0,hq,hmain i,?_,fun _ b hb=>⟨fun _=>hsame b hb,fun cur e hg=>⟨cur,(hsame b hb).trans hg,rfl⟩⟩⟩
   rintro d' t' xs' rfl
   exact⟨d',xs',rfl,rfl⟩
 refine⟨h.defers,h.size,hw.os.trans h.os,hw.tape.trans h.tape,hw.output.trans h.output,Nat.le_trans h.hsize hw.size,?_,?_,?_,?_,?_,?_,?_⟩
 ·intro b hb hio
  rw[hw.block b (Nat.lt_of_lt_of_le hb h.hsize) (fun e=>?_)]
  ·exact h.frame b hb hio
  ·rcases hcio b e with q | q
   ·omega
   ·exact hio q
 ·have key:∀i bi b,i≠id->lookup (s1.cR id (.arr d' t xs')).hp i=some bi->(bp φ id (φ id) B).eI i b->(φ id=some b\/b∈B)->False:=by
   intro i bi b hi hl ho hn
   obtain⟨b0,hq1,hq,_⟩:=hlive i bi hi hl
   rw[cD,if_neg hi] at ho
   rcases hn with hn | hn
   ·exact hi (h.inj i id _ _ b hq hxs ho (.inl hn))
   ·rcases(hr b hn).2.2 with q | q
    ·have:=(h.place i b0 b hq ho).1;omega
    ·exact h.Gw hf q hi hq1 ho
  intro i j bi bj b hi hj ei ej
  by_cases hii:i=id
  ·by_cases hji:j=id
   ·rw[hii,hji]
   ·rw[cD,if_pos hii] at ei
    exact(key j bj b hji hj ej ei).elim
  ·by_cases hji:j=id
   ·rw[cD,if_pos hji] at ej
    exact(key i bi b hii hi ei ej).elim
   ·obtain⟨b0,_,hq,_⟩:=hlive i bi hii hi
    obtain⟨b1,_,hq1,_⟩:=hlive j bj hji hj
    rw[cD,if_neg hii] at ei
    rw[cD,if_neg hji] at ej
    exact h.inj i j _ _ b hq hq1 ei ej
 ·intro i blk' b hi hbm
  rw[hmain] at hbm
  by_cases hii:i=id
  ·simp only[bp,if_pos hii]
   rw[hii] at hbm
   exact hap b hbm
  ·obtain⟨b0,_,hq,_⟩:=hlive i blk' hii hi
   simp only[bp,if_neg hii]
   exact h.apart i b0 b hq hbm
 ·intro i blk' b hi hb
  rw[cD] at hb
  by_cases hii:i=id
  ·rw[if_pos hii] at hb
   rcases hb with hb | hb
   ·obtain⟨p1,p2⟩:=h.place id _ b hxs (.inl hb)
    rw[hii]
    exact⟨Nat.lt_of_lt_of_le p1 hw.size,p2⟩
   ·obtain⟨q0,q1,_⟩:=hr b hb
    rw[hii]
    exact⟨q0,q1⟩
  ·obtain⟨b0,_,hq,_⟩:=hlive i blk' hii hi
   rw[if_neg hii] at hb
   obtain⟨p1,p2⟩:=h.place i b0 b hq hb
   exact⟨Nat.lt_of_lt_of_le p1 hw.size,p2⟩
 ·intro i blk' hi
  by_cases hii:i=id
  ·subst hii
   rw[hlk,if_pos rfl] at hi
   cases hi
   have:=hb L
   rw[hmain]
   simpa only[bp,if_true] using this
  ·obtain⟨b0,hq1,hq,rfl⟩:=hlive i blk' hii hi
   have:=(h.blocks i b0 hq).kA L (fun b hb=>hheap i b0 hii hq1 b (.inl hb)) (fun b hb=>hheap i b0 hii hq1 b (.inr hb))
   have e2:(bp φ id (φ id) B).sub i=φ.sub i:=by simp[bp,hii]
   rw[hmain,e2]
   exact this
 ·intro j av hj
  simp only[St.cR,jd,hf.env] at hj
  cases hq:lookup s.env j with
  | none=>simp[hq] at hj
  | some v=>
   simp[hq] at hj
   subst hj
   exact ak.kA L v _ (h.env j v hq)
 ·intro blk' hbk
  rw[hmain]
  have hold:∃b0,lookup s1.hp base=some b0:=by
   by_cases hbi:base=id
   ·exact⟨_,hbi▸hx⟩
   ·obtain⟨b0,hq1,_,_⟩:=hlive base blk' hbi hbk
    exact⟨b0,hq1⟩
  obtain⟨b0,hq1⟩:=hold
  obtain⟨p1,p2⟩:=h.pinned b0 (hf.hp _ _ hq1)
  refine⟨p1,fun b hbm=>?_⟩
  obtain⟨p3,p4⟩:=p2 b hbm
  refine⟨p3,fun cur e hg=>?_⟩
  obtain⟨cur1,q1,q2⟩:=p4 cur e hg
  by_cases hbi:base=id
  ·obtain⟨cur2,r1,r2⟩:=hrow b (hbi▸p1.trans hbm) cur1 e q1
   exact⟨cur2,r1,r2.trans q2⟩
  ·exact⟨cur1,(hheap base b0 hbi hq1 b (.inl (p1.trans hbm))).trans q1,q2⟩
theorem Sim.IP (h:Sim g N s a w φ) {id:Nat} {w':World} {b:Nat} {old new:Block} (hw:Turn w w' (some b)) (hid:lookup s.hp id=some old) (hna:∀d t xs,old≠.arr d t xs) (hsub:φ.sub id=[]) (hφ:φ id=some b)
  (hrow:∀cur e,w.heap[b]? = some (.cells cur e (0,0))->∃cur',w'.heap[b]? = some (.cells cur' e (0,0))/\cur'.size=cur.size)
  (hb:Later w w' (imm g φ s.hp w.heap.size) (imm g φ (s.setBlock id new).hp w'.heap.size) (aM g) (aM g) φ φ s.hp (s.setBlock id new).hp →
   dL w' (imm g φ (s.setBlock id new).hp w'.heap.size) (aM g) φ (s.setBlock id new).hp (some b) [] new) :
  Sim g N (s.setBlock id new) a w' φ:=by
 have hlk:∀j,lookup (s.setBlock id new).hp j=if j=id then some new else lookup s.hp j:=by
  intro j
  simp only[St.setBlock,lookup_cons,bf]
  by_cases hj:j=id
  ·simp[hj]
  ·have:¬id=j:=fun e=>hj e.symm
   simp[hj,this]
 have hlive:∀j blk',lookup (s.setBlock id new).hp j=some blk'->∃blk0,lookup s.hp j=some blk0:=by
  intro j blk' hj
  rw[hlk] at hj
  by_cases hji:j=id
  ·exact⟨_,hji▸hid⟩
  ·rw[if_neg hji] at hj;exact⟨_,hj⟩
 have himm:∀x,imm g φ s.hp w.heap.size x->imm g φ (s.setBlock id new).hp w'.heap.size x:=by
  rintro x ⟨h1,h2,h3⟩
  refine⟨h1,Nat.lt_of_lt_of_le h2 hw.size,fun j blk' hj=>?_⟩
  obtain⟨b0,hq⟩:=hlive j blk' hj
  exact h3 j b0 hq
 have hheap:∀j blk0,j≠id->lookup s.hp j=some blk0->∀x,φ.eI j x->w'.heap[x]? = w.heap[x]?:=by
  intro j blk0 hji hq x hx
  exact hw.block x (h.place j blk0 x hq hx).1 (fun e=>by cases e;exact hji (h.inj j id _ _ b hq hid hx (.inl hφ)))
 have L:Later w w' (imm g φ s.hp w.heap.size) (imm g φ (s.setBlock id new).hp w'.heap.size) (aM g) (aM g) φ φ s.hp (s.setBlock id new).hp:=by
  refine⟨himm,?_,fun _ h=>h,?_,?_⟩
  ·rintro x ⟨h1,h2,h3⟩ o
   exact cN (hw.block x h2 (fun e=>by cases e;exact h3 id _ hid (.inl hφ))) o
  ·rintro x hx o
   exact cN (hw.block x (h.mu hx) (fun e=>by cases e;exact h.Gh hid hφ hx rfl)) o
  ·intro i blk' hi
   rw[hlk] at hi
   by_cases hii:i=id
   ·subst hii
    refine⟨_,hid,rfl,?_,?_⟩
    ·intro d t xs e
     exact absurd e (hna d t xs)
    ·rintro ⟨d,t,xs,e⟩
     exact absurd e (hna d t xs)
   ·rw[if_neg hii] at hi
    exact⟨blk',hi,rfl,fun d t xs e=>⟨d,xs,e,rfl⟩,fun _ x hx=>hheap i _ hii hi x (.inl hx)⟩
 refine⟨h.defers,h.size,hw.os.trans h.os,hw.tape.trans h.tape,hw.output.trans h.output,Nat.le_trans h.hsize hw.size,?_,?_,?_,?_,?_,?_,?_⟩
 ·intro x hx hio
  rw[hw.block x (Nat.lt_of_lt_of_le hx h.hsize) (fun e=>?_)]
  ·exact h.frame x hx hio
  ·cases e
   rcases(h.place id _ b hid (.inl hφ)).2 with q | q
   ·exact(Gl.oe q).elim (fun q=>by omega) hio
   ·exact hio q.1
 ·intro i j bi bj x hi hj ei ej
  obtain⟨_,hqi⟩:=hlive i bi hi
  obtain⟨_,hqj⟩:=hlive j bj hj
  exact h.inj i j _ _ x hqi hqj ei ej
 ·intro i blk' x hi
  obtain⟨_,hqi⟩:=hlive i blk' hi
  exact h.apart i _ x hqi
 ·intro i blk' x hi hx
  obtain⟨_,hqi⟩:=hlive i blk' hi
  obtain⟨p1,p2⟩:=h.place i _ x hqi hx
  exact⟨Nat.lt_of_lt_of_le p1 hw.size,p2⟩
 ·intro i blk' hi
  rw[hlk] at hi
  by_cases hii:i=id
  ·subst hii
   rw[if_pos rfl] at hi
   cases hi
   rw[hφ,hsub]
   exact hb L
  ·rw[if_neg hii] at hi
   exact(h.blocks i blk' hi).later L (fun x hx=>hheap i _ hii hi x (.inl hx)) (fun x hx=>hheap i _ hii hi x (.inr hx))
 ·intro j av hj
  exact ak.later L av _ (h.env j av hj)
 ·intro blk' hbk
  obtain⟨b0,hq⟩:=hlive base blk' hbk
  obtain⟨p1,p2⟩:=h.pinned b0 hq
  refine⟨p1,fun x hx=>?_⟩
  obtain⟨p3,p4⟩:=p2 x hx
  refine⟨p3,fun cur e hg=>?_⟩
  obtain⟨cur1,q1,q2⟩:=p4 cur e hg
  by_cases hbi:base=id
  ·subst hbi
   have:b=x:=by rw[hφ,hx] at p1;cases p1;rfl
   subst this
   obtain⟨cur2,r1,r2⟩:=hrow cur1 e q1
   exact⟨cur2,r1,r2.trans q2⟩
  ·exact⟨cur1,(hheap base b0 hbi hq x (.inl (p1.trans hx))).trans q1,q2⟩
theorem Sim.setBlock (h:Sim g N s a w φ) {id:Nat} {w':World} {b:Nat} {old cs:List AV} (hw:Turn w w' (some b)) (hid:lookup s.hp id=some (.box old)) (hφ:φ id=some b)
  (hrow:∀cur e,w.heap[b]? = some (.cells cur e (0,0))->∃cur',w'.heap[b]? = some (.cells cur' e (0,0))/\cur'.size=cur.size)
  (hb:Later w w' (imm g φ s.hp w.heap.size) (imm g φ (s.setBlock id (.box cs)).hp w'.heap.size) (aM g) (aM g) φ φ s.hp (s.setBlock id (.box cs)).hp →
   dL w' (imm g φ (s.setBlock id (.box cs)).hp w'.heap.size) (aM g) φ (s.setBlock id (.box cs)).hp (some b) [] (.box cs)) :
  Sim g N (s.setBlock id (.box cs)) a w' φ:=h.IP hw hid (fun _ _ _ e=>by cases e) (h.blocks id _ hid).2 hφ hrow hb
theorem Sim.grow (h:Sim g N s a w φ) {w':World} (hw:Turn w w' none):Sim g N s a w' φ:=by
 have hheap:∀i blk,lookup s.hp i=some blk->∀x,φ.eI i x->w'.heap[x]? = w.heap[x]?:=fun i blk hi x hx=>hw.block x (h.place i _ x hi hx).1 (by simp)
 have L:Later w w' (imm g φ s.hp w.heap.size) (imm g φ s.hp w'.heap.size) (aM g) (aM g) φ φ s.hp s.hp:=
  ⟨fun b ⟨h1,h2,h3⟩=>⟨h1,Nat.lt_of_lt_of_le h2 hw.size,h3⟩,fun b ⟨_,h2,_⟩ o=>cN (hw.block b h2 (by simp)) o,fun _ h=>h,
   fun b hb o=>cN (hw.block b (h.mu hb) (by simp)) o,fun i blk' hi=>⟨blk',hi,rfl,fun d t xs e=>⟨d,xs,e,rfl⟩,fun _ x hx=>hheap i _ hi x (.inl hx)⟩⟩
 refine⟨h.defers,h.size,hw.os.trans h.os,hw.tape.trans h.tape,hw.output.trans h.output,Nat.le_trans h.hsize hw.size,?_,h.inj,h.apart,?_,?_,?_,?_⟩
 ·intro x hx hio
  rw[hw.block x (Nat.lt_of_lt_of_le hx h.hsize) (by simp)]
  exact h.frame x hx hio
 ·intro i blk b hi hb
  obtain⟨p1,p2⟩:=h.place i blk b hi hb
  exact⟨Nat.lt_of_lt_of_le p1 hw.size,p2⟩
 ·intro i blk hi
  exact(h.blocks i blk hi).later L (fun x hx=>hheap i _ hi x (.inl hx)) (fun x hx=>hheap i _ hi x (.inr hx))
 ·intro j av hj
  exact ak.later L av _ (h.env j av hj)
 ·intro blk hbk
  obtain⟨p1,p2⟩:=h.pinned blk hbk
  refine⟨p1,fun x hx=>?_⟩
  obtain⟨p3,p4⟩:=p2 x hx
  refine⟨p3,fun cur e hg=>?_⟩
  obtain⟨cur1,q1,q2⟩:=p4 cur e hg
  exact⟨cur1,(hheap base blk hbk x (.inl (p1.trans hx))).trans q1,q2⟩
theorem Sim.put (h:Sim g N s a w φ) (d:Option Nat) {v:AV} {u:Value} (hv:ak w (imm g φ s.hp w.heap.size) (aM g) φ s.hp v u):Sim g N (s.put N d v) (a.put d u) w φ:=by
 cases d with
 | none=>exact h
 | some d=>
  have hsz:(a.tmps.setIfInBounds d u).size=N:=by simpa using h.size
  simp only[St.put,Act.put]
  cases hb:(Nat.blt d N&&Nat.blt d bV) with
  | true=>
   obtain⟨hb,hg⟩:=Bool.and_eq_true_iff.1 hb
   have hlt:d<N:=by simpa [Nat.blt_eq] using hb
   refine⟨h.defers,hsz,h.os,h.tape,h.output,h.hsize,h.frame,h.inj,h.apart,h.place,h.blocks,?_,h.pinned⟩
   intro j av hj
   simp only[cond_true,iZ,lookup_cons,bf] at hj
   by_cases hjd:d=j
   ·subst hjd
    simp at hj
    subst hj
    have:d<a.tmps.size:=by rw[h.size];exact hlt
    unfold valOf
    rw[hg]
    simpa [this] using hv
   ·rw[if_neg hjd,if_neg (fun e=>hjd e.symm)] at hj
    have:=h.env j av hj
    have e:(a.tmps.setIfInBounds d u).getD j undef=a.tmps.getD j undef:=by
     simp[hjd]
    unfold valOf at this ⊢
    simp only[e]
    exact this
  | false=>
   have hge:N<=d\/Nat.blt d bV=false:=by
    rcases Bool.and_eq_false_iff.1 hb with hb | hb
    ·left
     have:¬d<N:=by intro hc;rw[<-Nat.blt_eq] at hc;rw[hc] at hb;cases hb
     omega
    ·exact .inr hb
   refine⟨h.defers,hsz,h.os,h.tape,h.output,h.hsize,h.frame,h.inj,h.apart,h.place,h.blocks,?_,h.pinned⟩
   intro j av hj
   have hv:=h.env j av hj
   rcases hge with hge | hge
   ·have e:a.tmps.setIfInBounds d u=a.tmps:=Array.setIfInBounds_eq_of_size_le (by rw[h.size];exact hge)
    unfold valOf at hv ⊢
    simp only[e]
    exact hv
   ·unfold valOf at hv ⊢
    cases hj:Nat.blt j bV with
    | false=>rw[hj] at hv;exact hv
    | true=>
     rw[hj] at hv
     have hne:d≠j:=by rintro rfl;rw[hge] at hj;cases hj
     have e:(a.tmps.setIfInBounds d u).getD j undef=a.tmps.getD j undef:=by
      simp[hne]
     simp only[cond_true,e]
     exact hv
end
end Go.AE
