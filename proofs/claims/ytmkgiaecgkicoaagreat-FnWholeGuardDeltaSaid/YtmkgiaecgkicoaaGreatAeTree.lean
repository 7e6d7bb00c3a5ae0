/- Data whose slices stand in blocks of their own. -/
import Derived.Test.YtmkgiaecgkicoaaGreatAeMove
namespace Go.AE
open Go Go.RowKit
theorem bG.mono {α:Type} {R R':α->List Value->List Nat->Prop}:∀{xs:List α} {cs:List Value} {B:List Nat},bG R xs cs B->(∀x c k,(∀b∈k,b∈B)->R x c k->R' x c k)->bG R' xs cs B
 | [],_,_,h,_=>h
 | _::_,_,_,⟨c1,c2,B1,B2,e,eB,h1,h2⟩,h=>by
  subst eB
  exact⟨c1,c2,B1,B2,e,rfl,h _ _ _ (fun b hb=>List.mem_append_left _ hb) h1,bG.mono h2 (fun x c k hk=>h x c k (fun b hb=>List.mem_append_right _ (hk b hb)))⟩
theorem bG.Ku {w:World} {I:Nat->Prop} {t:Ty} {R:t.D->List Value->List Nat->Prop} (hR:∀x c k,R x c k->(∀b∈k,I b)->Rep w I t x c) :
  ∀{xs:List t.D} {cs:List Value} {B:List Nat},bG R xs cs B->(∀b∈B,I b)->cK (Rep w I t) xs cs
 | [],_,_,h,_=>h.1
 | _::_,_,_,⟨c1,c2,B1,B2,e,eB,h1,h2⟩,h=>by
  subst eB
  exact⟨c1,c2,e,hR _ _ _ h1 (fun b hb=>h b (List.mem_append_left _ hb)),bG.Ku hR h2 (fun b hb=>h b (List.mem_append_right _ hb))⟩
theorem Tree.rep {w:World} {I:Nat->Prop}:∀{t:Ty} {x:t.D} {cs:List Value} {B:List Nat},Tree w t x cs B->(∀b∈B,I b)->Rep w I t x cs:=by
 intro t
 induction t with
 | int k=>exact fun h _=>h.1
 | bool=>exact fun h _=>h.1
 | str=>exact fun h _=>h.1
 | unit=>exact fun h _=>h.1
 | pair a b iha ihb=>
  rintro x cs B ⟨c1,c2,B1,B2,e,eB,h1,h2⟩ h
  subst eB
  exact⟨c1,c2,e,iha h1 (fun b hb=>h b (List.mem_append_left _ hb)),ihb h2 (fun b hb=>h b (List.mem_append_right _ hb))⟩
 | sl t ih=>
  rintro xs cs B ⟨A,c,e,hc,h⟩ hI
  refine⟨A,c,e,hc,?_⟩
  rcases h with⟨h,_⟩ | ⟨b,cur,e',B',hA,eB,hg,hl,_⟩
  ·exact .inl h
  ·subst eB
   refine .inr ⟨b,0,_,hA,hI b (by simp),?_,bG.Ku (fun x c k h1 h2=>ih h1 h2) hl (fun b hb=>hI b (by simp[hb]))⟩
   intro j v hj
   rw[List.getElem?_take] at hj
   split at hj
   ·rw[Nat.zero_add,cell_of_row w b j cur e' (0,0) hg]
    simpa using hj
   ·cases hj
theorem Tree.length {w:World} {t:Ty} {x:t.D} {cs:List Value} {B:List Nat} (h:Tree w t x cs B):cs.length=t.size:=(h.rep (I:=fun _=>True) (fun _ _=>trivial)).length
theorem Tree.one {w:World} {t:Ty} {x:t.D} {cs:List Value} {B:List Nat} (h:Tree w t x cs B):∀v∈cs,v.oneCell'=true:=(h.rep (I:=fun _=>True) (fun _ _=>trivial)).one
theorem bG.Gq {w:World} {I:Nat->Prop} {t:Ty} {xs:List t.D} {cs:List Value} {B:List Nat} (h:bG (Tree w t) xs cs B) (hI:∀b∈B,I b):cK (Rep w I t) xs cs:=bG.Ku (fun _ _ _ h1 h2=>h1.rep h2) h hI
theorem bG.length {w:World} {t:Ty} {xs:List t.D} {cs:List Value} {B:List Nat} (h:bG (Tree w t) xs cs B):cs.length=xs.length * t.size:=(h.Gq (I:=fun _=>True) (fun _ _=>trivial)).length
theorem bG.one {w:World} {t:Ty} {xs:List t.D} {cs:List Value} {B:List Nat} (h:bG (Tree w t) xs cs B):∀v∈cs,v.oneCell'=true:=(h.Gq (I:=fun _=>True) (fun _ _=>trivial)).one
theorem Tree.frame {w w':World}:∀{t:Ty} {x:t.D} {cs:List Value} {B:List Nat},Tree w t x cs B->(∀b∈B,w'.heap[b]? = w.heap[b]?)->Tree w' t x cs B:=by
 intro t
 induction t with
 | int k=>exact fun h _=>h
 | bool=>exact fun h _=>h
 | str=>exact fun h _=>h
 | unit=>exact fun h _=>h
 | pair a b iha ihb=>
  rintro x cs B ⟨c1,c2,B1,B2,e,eB,h1,h2⟩ h
  subst eB
  exact⟨c1,c2,B1,B2,e,rfl,iha h1 (fun b hb=>h b (List.mem_append_left _ hb)),ihb h2 (fun b hb=>h b (List.mem_append_right _ hb))⟩
 | sl t ih=>
  rintro xs cs B ⟨A,c,e,hc,h⟩ hI
  refine⟨A,c,e,hc,?_⟩
  rcases h with h | ⟨b,cur,e',B',hA,eB,hg,hl,hcap⟩
  ·exact .inl h
  ·subst eB
   exact .inr ⟨b,cur,e',B',hA,rfl,(hI b (by simp)).trans hg,hl.mono (fun x c k hk h1=>ih h1 (fun b hb=>hI b (by simp[hk b hb]))),hcap⟩
theorem bG.frame {w w':World} {t:Ty} {xs:List t.D} {cs:List Value} {B:List Nat} (h:bG (Tree w t) xs cs B) (hB:∀b∈B,w'.heap[b]? = w.heap[b]?):bG (Tree w' t) xs cs B:=
 h.mono (fun _ _ _ hk h1=>h1.frame (fun b hb=>hB b (hk b hb)))
theorem Tree.flat {w:World} {I:Nat->Prop}:∀{t:Ty} {x:t.D} {cs:List Value},t.flat=true->Rep w I t x cs->Tree w t x cs []:=by
 intro t
 induction t with
 | int k=>exact fun _ h=>⟨h,rfl⟩
 | bool=>exact fun _ h=>⟨h,rfl⟩
 | str=>exact fun _ h=>⟨h,rfl⟩
 | unit=>exact fun _ h=>⟨h,rfl⟩
 | pair a b iha ihb=>
  rintro x cs hf ⟨c1,c2,e,h1,h2⟩
  simp only[Ty.flat,Bool.and_eq_true] at hf
  exact⟨c1,c2,[],[],e,rfl,iha hf.1 h1,ihb hf.2 h2⟩
 | sl t ih=>intro _ _ hf;cases hf
theorem GQ {w:World}:∀{t:Ty} {x:t.D} {cs:List Value} {B:List Nat},t.flat=true->Tree w t x cs B->B=[]:=by
 intro t
 induction t with
 | int k=>exact fun _ h=>h.2
 | bool=>exact fun _ h=>h.2
 | str=>exact fun _ h=>h.2
 | unit=>exact fun _ h=>h.2
 | pair a b iha ihb=>
  rintro x cs B hf ⟨c1,c2,B1,B2,e,eB,h1,h2⟩
  simp only[Ty.flat,Bool.and_eq_true] at hf
  rw[eB,iha hf.1 h1,ihb hf.2 h2]
  rfl
 | sl t ih=>intro _ _ _ hf;cases hf
theorem bG.flat {w:World} {I:Nat->Prop} {t:Ty} (hf:t.flat=true):∀{xs:List t.D} {cs:List Value},cK (Rep w I t) xs cs->bG (Tree w t) xs cs []
 | [],_,h=>⟨h,rfl⟩
 | _::_,_,⟨c1,c2,e,h1,h2⟩=>⟨c1,c2,[],[],e,rfl,Tree.flat hf h1,bG.flat hf h2⟩
theorem rB {w w':World} {I I':Nat->Prop} {t:Ty} {x:t.D} {cs:List Value} (hf:t.flat=true) (h:Rep w I t x cs):Rep w' I' t x cs:=
 ((Tree.flat hf h).frame (w':=w') (fun _ hb=>by simp at hb)).rep (fun _ hb=>by simp at hb)
theorem GV {w w':World} {I I':Nat->Prop} {t:Ty} {xs:List t.D} {cs:List Value} (hf:t.flat=true) (h:cK (Rep w I t) xs cs):cK (Rep w' I' t) xs cs:=
 cK.mono (fun _ _ h=>rB hf h) h
theorem bG.append {α:Type} {R:α->List Value->List Nat->Prop}:∀{xs ys:List α} {cs ds:List Value} {B E:List Nat},bG R xs cs B->bG R ys ds E->bG R (xs++ys) (cs++ds) (B++E)
 | [],_,_,_,_,_,⟨e,eB⟩,h'=>by rw[e,eB];exact h'
 | x::xs,_,_,_,_,_,⟨c1,c2,B1,B2,e,eB,h1,h2⟩,h'=>⟨c1,c2++_,B1,B2++_,by rw[e,List.append_assoc],by rw[eB,List.append_assoc],h1,bG.append h2 h'⟩
theorem bG.take {w:World} {t:Ty}:∀(n:Nat) {xs:List t.D} {cs:List Value} {B:List Nat},bG (Tree w t) xs cs B->∃E F,B=E++F/\bG (Tree w t) (xs.take n) (cs.take (n * t.size)) E
 | 0,_,_,B,_=>⟨[],B,rfl,by simp[bG]⟩
 | n+1,[],_,_,⟨e,eB⟩=>⟨[],[],by rw[eB];rfl,by rw[e];simp[bG]⟩
 | n+1,x::xs,_,_,⟨c1,c2,B1,B2,e,eB,h1,h2⟩=>by
  subst e
  obtain⟨E,F,eE,h3⟩:=bG.take n h2
  refine⟨B1++E,F,by rw[eB,eE,List.append_assoc],c1,c2.take (n * t.size),B1,E,?_,rfl,h1,h3⟩
  rw[List.take_append,Nat.succ_mul,h1.length,List.take_of_length_le (by rw[h1.length];omega),show n * t.size+t.size-t.size=n * t.size by omega]
theorem bG.at {w:World} {t:Ty}:∀{xs:List t.D} {cs:List Value} {B:List Nat} (_:bG (Tree w t) xs cs B) (i:Nat) (hi:i<xs.length),
  ∃B1 E B2,B=B1++E++B2/\Tree w t xs[i] ((cs.drop (i * t.size)).take t.size) E ∧
   ∀(w':World) (y:t.D) (ds:List Value) (E':List Nat),(∀b,(b∈B1\/b∈B2)->w'.heap[b]? = w.heap[b]?)->Tree w' t y ds E' →
    bG (Tree w' t) (xs.set i y) (cs.take (i * t.size)++ds++cs.drop (i * t.size+t.size)) (B1++E'++B2)
 | x::xs,_,_,⟨c1,c2,B1,B2,e,eB,h1,h2⟩,0,_=>by
  subst e
  refine⟨[],B1,B2,by simp[eB],?_,?_⟩
  ·simp only[Nat.zero_mul,List.drop_zero,List.getElem_cons_zero]
   rw[<-h1.length,List.take_left]
   exact h1
  ·intro w' y ds E' hw hy
   refine⟨ds,c2,E',B2,?_,by simp,hy,h2.frame (fun b hb=>hw b (.inr hb))⟩
   simp only[Nat.zero_mul,List.take_zero,List.nil_append,Nat.zero_add]
   rw[<-h1.length,List.drop_left]
 | x::xs,_,_,⟨c1,c2,B1,B2,e,eB,h1,h2⟩,i+1,hi=>by
  subst e
  obtain⟨D1,E,D2,eD,h3,h4⟩:=bG.at h2 i (by simpa using hi)
  refine⟨B1++D1,E,D2,by rw[eB,eD];simp only[List.append_assoc],?_,?_⟩
  ·simp only[List.getElem_cons_succ]
   rw[Nat.succ_mul,<-h1.length,Nat.add_comm,List.drop_append,h1.length]
   rw[show t.size+i * t.size-t.size=i * t.size by omega,List.drop_eq_nil_of_le (by rw[h1.length];omega),List.nil_append]
   exact h3
  ·intro w' y ds E' hw hy
   have h5:=h4 w' y ds E' (fun b hb=>hw b (hb.imp (fun h=>List.mem_append_right _ h) (fun h=>h))) hy
   refine⟨c1,_,B1,_,?_,by simp only[List.append_assoc],h1.frame (fun b hb=>hw b (.inl (List.mem_append_left _ hb))),h5⟩
   have e1:(i+1) * t.size=c1.length+i * t.size:=by rw[Nat.succ_mul,h1.length];omega
   rw[e1,List.take_append,List.take_of_length_le (by omega),show c1.length+i * t.size-c1.length=i * t.size by omega]
   rw[Nat.add_assoc,List.drop_append,List.drop_eq_nil_of_le (by omega),List.nil_append,show c1.length+(i * t.size+t.size)-c1.length=i * t.size+t.size by omega]
   simp only[List.append_assoc]
theorem pO (t:Ty):Ty.eq? t t=some ⟨rfl⟩:=by
 induction t with
 | int k=>simp[Ty.eq?]
 | bool=>rfl
 | str=>rfl
 | unit=>rfl
 | sl t ih=>simp[Ty.eq?,ih]
 | pair a b iha ihb=>simp[Ty.eq?,iha,ihb]
theorem we {w:World}:∀{t:Ty} {x:t.D} {off:Nat} {u:Ty} {y:u.D},proj t x off u=some y->∀{cs:List Value} {B:List Nat},Tree w t x cs B →
  ∃B1 E B2,B=B1++E++B2/\Tree w u y ((cs.drop off).take u.size) E/\off+u.size<=t.size ∧
   ∀(y':u.D) (z:t.D),upd t x off u y'=some z->∀(w':World) (ds:List Value) (E':List Nat),(∀b,(b∈B1\/b∈B2)->w'.heap[b]? = w.heap[b]?)->Tree w' u y' ds E' →
    Tree w' t z (cs.take off++ds++cs.drop (off+u.size)) (B1++E'++B2):=by
 intro t
 have whole:∀{t:Ty} {x:t.D} {cs:List Value} {B:List Nat},Tree w t x cs B →
   ∃B1 E B2,B=B1++E++B2/\Tree w t x ((cs.drop 0).take t.size) E/\0+t.size<=t.size ∧
   ∀(y' z:t.D),y'=z->∀(w':World) (ds:List Value) (E':List Nat),(∀b,(b∈B1\/b∈B2)->w'.heap[b]? = w.heap[b]?)->Tree w' t y' ds E' →
    Tree w' t z (cs.take 0++ds++cs.drop (0+t.size)) (B1++E'++B2):=by
  intro t x cs B h
  refine⟨[],B,[],by simp,?_,by omega,?_⟩
  ·rw[List.drop_zero,List.take_of_length_le (by rw[h.length];exact Nat.le_refl _)]
   exact h
  ·intro y' z e w' ds E' _ hy
   subst e
   rw[List.take_zero,List.nil_append,Nat.zero_add,List.drop_eq_nil_of_le (by rw[h.length];exact Nat.le_refl _),List.append_nil]
   simpa using hy
 have leaf:∀{t:Ty} {x:t.D} {off:Nat} {u:Ty} {y:u.D},(match bif Nat.beq off 0 then Ty.eq? t u else none with | some ⟨h⟩=>some (eG h x) | none=>none)=some y →
   (∀(y':u.D) (z:t.D),upd t x off u y'=some z->(match bif Nat.beq off 0 then Ty.eq? u t else none with | some ⟨h⟩=>some (eG h y') | none=>none)=some z) →
   ∀{cs:List Value} {B:List Nat},Tree w t x cs B->∃B1 E B2,B=B1++E++B2/\Tree w u y ((cs.drop off).take u.size) E/\off+u.size<=t.size ∧
   ∀(y':u.D) (z:t.D),upd t x off u y'=some z->∀(w':World) (ds:List Value) (E':List Nat),(∀b,(b∈B1\/b∈B2)->w'.heap[b]? = w.heap[b]?)->Tree w' u y' ds E' →
    Tree w' t z (cs.take off++ds++cs.drop (off+u.size)) (B1++E'++B2):=by
  intro t x off u y h hup cs B hr
  cases hb:Nat.beq off 0 with
  | false=>simp[hb] at h
  | true=>
   have:off=0:=Nat.eq_of_beq_eq_true hb
   subst this
   simp only[hb,cond_true] at h
   split at h
   ·rename_i hh _
    subst hh
    simp only[fZ,Option.some.injEq] at h
    subst h
    obtain⟨B1,E,B2,e1,e2,e3,e4⟩:=whole hr
    refine⟨B1,E,B2,e1,e2,e3,fun y' z hz=>?_⟩
    have hz:=hup y' z hz
    simp only[Nat.beq_refl,cond_true,pO,fZ,Option.some.injEq] at hz
    exact e4 y' z hz
   ·cases h
 induction t with
 | pair a b iha ihb=>
  intro x off u y h cs B hr
  have hup:∀(y':u.D) (z:(Ty.pair a b).D),upd (.pair a b) x off u y'=some z->(match bif Nat.beq off 0 then Ty.eq? u (.pair a b) else none with
   | some ⟨h⟩=>some (eG h y')
   | none=>bif Nat.blt off a.size then (match upd a x.1 off u y' with | some z=>some (z,x.2) | none=>none)
    else (match upd b x.2 (off-a.size) u y' with | some z=>some (x.1,z) | none=>none))=some z:=by
   intro y' z hz
   unfold upd at hz
   exact hz
  unfold proj at h
  split at h
  ·rename_i hh heq
   cases hb:Nat.beq off 0 with
   | false=>simp[hb] at heq
   | true=>
    have:off=0:=Nat.eq_of_beq_eq_true hb
    subst this
    subst hh
    simp only[fZ,Option.some.injEq] at h
    subst h
    obtain⟨B1,E,B2,e1,e2,e3,e4⟩:=whole hr
    refine⟨B1,E,B2,e1,e2,e3,fun y' z hz=>?_⟩
    have hz:=hup y' z hz
    simp only[Nat.beq_refl,cond_true,pO,fZ,Option.some.injEq] at hz
    exact e4 y' z hz
  ·rename_i hnone
   obtain⟨c1,c2,D1,D2,rfl,rfl,h1,h2⟩:=hr
   have hnot:∀hh:u=.pair a b,(bif Nat.beq off 0 then Ty.eq? u (.pair a b) else none)=some ⟨hh⟩->False:=by
    intro hh e
    subst hh
    cases hb:Nat.beq off 0 with
    | false=>rw[hb] at e;cases e
    | true=>
     rw[hb] at hnone
     simp only[cond_true,pO] at hnone
     cases hnone
   have hup':∀(y':u.D) (z:(Ty.pair a b).D),upd (.pair a b) x off u y'=some z->(bif Nat.blt off a.size then (match upd a x.1 off u y' with | some z=>some (z,x.2) | none=>none)
    else (match upd b x.2 (off-a.size) u y' with | some z=>some (x.1,z) | none=>none))=some z:=by
    intro y' z hz
    have hz:=hup y' z hz
    split at hz
    ·rename_i hh e;exact(hnot hh e).elim
    ·exact hz
   cases hb:Nat.blt off a.size with
   | true=>
    simp only[hb,cond_true] at h
    have hlt:off<a.size:=by simpa [Nat.blt_eq] using hb
    obtain⟨B1,E,B2,e1,e2,e3,e4⟩:=iha h h1
    have hl:=e2.length
    rw[List.length_take,List.length_drop,h1.length] at hl
    refine⟨B1,E,B2++D2,by rw[e1];simp only[List.append_assoc],?_,by simp[Ty.size];omega,fun y' z hz w' ds E' hw hy=>?_⟩
    ·rw[List.drop_append_of_le_length (by rw[h1.length];omega),List.take_append_of_le_length (by rw[List.length_drop,h1.length];omega)]
     exact e2
    ·have hz:=hup' y' z hz
     simp only[hb,cond_true] at hz
     split at hz
     ·rename_i z' hz'
      cases hz
      refine⟨_,c2,_,D2,?_,?_,e4 y' z' hz' w' ds E' (fun b hb=>hw b (hb.imp (fun h=>h) (fun h=>List.mem_append_left _ h))) hy,h2.frame (fun b hb=>hw b (.inr (List.mem_append_right _ hb)))⟩
      ·rw[List.take_append_of_le_length (by rw[h1.length];omega),List.drop_append_of_le_length (by rw[h1.length];omega)]
       simp only[List.append_assoc]
      ·simp only[List.append_assoc]
     ·cases hz
   | false=>
    simp only[hb,cond_false] at h
    have hge:¬off<a.size:=by intro hc;rw[<-Nat.blt_eq] at hc;rw[hc] at hb;cases hb
    obtain⟨B1,E,B2,e1,e2,e3,e4⟩:=ihb h h2
    have hd:c1.drop off=[]:=List.drop_eq_nil_of_le (by rw[h1.length];omega)
    refine⟨D1++B1,E,B2,by rw[e1];simp only[List.append_assoc],?_,by simp[Ty.size];omega,fun y' z hz w' ds E' hw hy=>?_⟩
    ·rw[List.drop_append,hd,List.nil_append,h1.length]
     exact e2
    ·have hz:=hup' y' z hz
     simp only[hb,cond_false] at hz
     split at hz
     ·rename_i z' hz'
      cases hz
      refine⟨c1,_,D1,_,?_,?_,h1.frame (fun b hb=>hw b (.inl (List.mem_append_left _ hb))),e4 y' z' hz' w' ds E' (fun b hb=>hw b (hb.imp (fun h=>List.mem_append_right _ h) (fun h=>h))) hy⟩
      ·have hd:c1.drop (off+u.size)=[]:=List.drop_eq_nil_of_le (by rw[h1.length];omega)
       rw[List.take_append,List.take_of_length_le (by rw[h1.length];omega),List.drop_append,hd,List.nil_append,h1.length]
       rw[show off+u.size-a.size=off-a.size+u.size by omega]
       simp only[List.append_assoc]
      ·simp only[List.append_assoc]
     ·cases hz
 | int k=>intro x off u y h cs B hr;exact leaf h (fun y' z hz=>hz) hr
 | bool=>intro x off u y h cs B hr;exact leaf h (fun y' z hz=>hz) hr
 | str=>intro x off u y h cs B hr;exact leaf h (fun y' z hz=>hz) hr
 | unit=>intro x off u y h cs B hr;exact leaf h (fun y' z hz=>hz) hr
 | sl t _=>intro x off u y h cs B hr;exact leaf h (fun y' z hz=>hz) hr
theorem Ec:∀{t:Ty} {x:t.D} {off:Nat} {u:Ty} {y:u.D} {z:t.D},upd t x off u y=some z->∃y0,proj t x off u=some y0:=by
 intro t
 have leaf:∀{t:Ty} {x:t.D} {off:Nat} {u:Ty} {y:u.D} {z:t.D},(match bif Nat.beq off 0 then Ty.eq? u t else none with | some ⟨h⟩=>some (eG h y) | none=>none)=some z →
   ∃y0,(match bif Nat.beq off 0 then Ty.eq? t u else none with | some ⟨h⟩=>some (eG h x) | none=>none)=some y0:=by
  intro t x off u y z h
  cases hb:Nat.beq off 0 with
  | false=>simp[hb] at h
  | true=>
   simp only[hb,cond_true] at h ⊢
   split at h
   ·rename_i hh _
    subst hh
    exact⟨x,by simp[pO,fZ]⟩
   ·cases h
 induction t with
 | pair a b iha ihb=>
  intro x off u y z h
  unfold upd at h
  unfold proj
  split at h
  ·rename_i hh heq
   subst hh
   cases hb:Nat.beq off 0 with
   | false=>simp[hb] at heq
   | true=>exact⟨x,by simp[pO,fZ]⟩
  ·split
   ·rename_i hh _
    exact⟨_,rfl⟩
   ·cases hb:Nat.blt off a.size with
    | true=>
     simp only[hb,cond_true] at h ⊢
     split at h
     ·rename_i z' hz;exact iha hz
     ·cases h
    | false=>
     simp only[hb,cond_false] at h ⊢
     split at h
     ·rename_i z' hz;exact ihb hz
     ·cases h
 | int k=>intro x off u y z h;exact leaf h
 | bool=>intro x off u y z h;exact leaf h
 | str=>intro x off u y z h;exact leaf h
 | unit=>intro x off u y z h;exact leaf h
 | sl t _=>intro x off u y z h;exact leaf h
end Go.AE
