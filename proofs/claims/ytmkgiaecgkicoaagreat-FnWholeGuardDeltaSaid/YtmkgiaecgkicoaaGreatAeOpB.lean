/- The operations, one by one: reading memory, addresses, lengths, cuts. Second part. -/
import Derived.Test.YtmkgiaecgkicoaaGreatAeOpA
namespace Go.AE
open Go Go.RowKit
section
variable {P:Program} {C:Ctx} {g:Gl} {N:Nat} {o:Oper} {s:St} {a:Act} {w:World} {φ:Names} {K:AV->St->Prop}
theorem aJ {α:Type} {x:Option α} {K:α->Prop} (h:cS x K):∃y,x=some y/\K y:=by
 unfold cS at h
 split at h
 ·exact⟨_,rfl,h⟩
 ·exact h.elim
theorem ax.length {w:World} {I S:Nat->Prop} {φ:Names} {hp:Hp}:∀{l:List AV} {vs:List Value},ax w I S φ hp l vs->vs.length=l.length
 | [],_,h=>by simp only[ax] at h;simp[h]
 | a::l,_,h=>by
  simp only[ax] at h
  obtain⟨v,vs',rfl,_,h2⟩:=h
  simp[ax.length h2]
theorem ax.nth {w:World} {I S:Nat->Prop} {φ:Names} {hp:Hp}:∀{l:List AV} {vs:List Value} (_:ax w I S φ hp l vs) {i:Nat} {v:AV} (_:pq l i=some v),
  ∃u,vs[i]? = some u/\ak w I S φ hp v u
 | [],_,_,i,v,h=>by simp[pq] at h
 | a::l,_,hr,0,v,h=>by
  simp only[ax] at hr
  obtain⟨u,vs',rfl,h1,_⟩:=hr
  simp only[pq,Option.some.injEq] at h
  exact⟨u,rfl,h▸h1⟩
 | a::l,_,hr,i+1,v,h=>by
  simp only[ax] at hr
  obtain⟨u,vs',rfl,_,h2⟩:=hr
  simp only[pq] at h
  obtain⟨u',e,hu⟩:=ax.nth h2 h
  exact⟨u',by simpa using e,hu⟩
theorem ax.drop {w:World} {I S:Nat->Prop} {φ:Names} {hp:Hp}:∀(n:Nat) {l:List AV} {vs:List Value} (_:ax w I S φ hp l vs),ax w I S φ hp (l.drop n) (vs.drop n)
 | 0,_,_,h=>by simpa using h
 | n+1,[],_,h=>by simp only[ax] at h;subst h;simp[ax]
 | n+1,a::l,_,h=>by
  simp only[ax] at h
  obtain⟨u,vs',rfl,_,h2⟩:=h
  simpa using ax.drop n h2
theorem He {w:World} {I S:Nat->Prop} {φ:Names} {hp:Hp} {t:Ty} {v:AV} {u:Value} {x:t.D} (ha:t.agg=false) (hv:ak w I S φ hp v u) (h:va t v=some x):Rep w I t x [u]:=by
 unfold va at h
 split at h
 ·split at h
  ·rename_i hh _
   cases hh
   cases h
   simp only[ak] at hv
   obtain⟨cs,hr,rfl⟩:=hv
   have:=hr.length
   rw[ep t ha] at this
   match cs,this with
   | [c],_=>
    have e:mkv t [c]=c:=by simp[mkv,ha]
    rw[e]
    exact hr
  ·cases h
 ·rw[ha] at h
  simp only[cond_false] at h
  simp only[ak] at hv
  subst hv
  obtain⟨cs,hr,e⟩:=iA w I h
  have:=hr.length
  rw[ep t ha] at this
  match cs,this with
  | [c],_=>
   simp only[mkv,ha] at e
   simp at e
   rw[e]
   exact hr
 ·cases h
theorem ql {w:World} {I S:Nat->Prop} {φ:Names} {hp:Hp}:∀{t:Ty} {l:List AV} {vs:List Value} {x:t.D} {l':List AV},ax w I S φ hp l vs->kE t l=some (x,l') →
  ∃cs vs',vs=cs++vs'/\Rep w I t x cs/\ax w I S φ hp l' vs':=by
 intro t
 have leaf:∀{t:Ty} (_:t.agg=false) {l:List AV} {vs:List Value} {x:t.D} {l':List AV},ax w I S φ hp l vs →
   sO t l=some (x,l') →
   ∃cs vs',vs=cs++vs'/\Rep w I t x cs/\ax w I S φ hp l' vs':=by
  intro t ha l vs x l' hr h
  unfold sO at h
  cases l with
  | nil=>cases h
  | cons v l1=>
   simp only at h
   split at h
   ·rename_i y hy
    cases h
    simp only[ax] at hr
    obtain⟨u,vs',rfl,h1,h2⟩:=hr
    exact⟨[u],vs',rfl,He ha h1 hy,h2⟩
   ·cases h
 induction t with
 | unit=>intro l vs x l' hr h;unfold kE at h;cases h;exact⟨[],vs,rfl,rfl,hr⟩
 | pair p q ihp ihq=>
  intro l vs x l' hr h
  unfold kE at h
  split at h
  ·rename_i y l1 h1
   split at h
   ·rename_i z l2 h2
    cases h
    obtain⟨c1,v1,rfl,r1,s1⟩:=ihp hr h1
    obtain⟨c2,v2,rfl,r2,s2⟩:=ihq s1 h2
    exact⟨c1++c2,v2,by simp,⟨c1,c2,rfl,r1,r2⟩,s2⟩
   ·cases h
  ·cases h
 | int k=>intro l vs x l' hr h;exact leaf rfl hr (by unfold kE at h;exact h)
 | bool=>intro l vs x l' hr h;exact leaf rfl hr (by unfold kE at h;exact h)
 | str=>intro l vs x l' hr h;exact leaf rfl hr (by unfold kE at h;exact h)
 | sl t _=>intro l vs x l' hr h;exact leaf rfl hr (by unfold kE at h;exact h)
theorem Sim.gK (l:List Nat):∀{s:St},Sim g N s a w φ->Sim g N (gK s l) a w φ:=by
 induction l with
 | nil=>exact fun h=>h
 | cons i l ih=>intro s h;exact ih (h.freeze i)
theorem dg {w:World} {b:Nat} {vs:Array Value} {e:TypeId} {fr:Nat×Nat} (h:w.heap[b]? = some (.cells vs e fr)):Cells w b 0 vs.toList:=by
 intro j v hj
 simp only[World.cell?,h]
 simpa using hj
theorem IB (hT:TabOk P C) (h:Sim g N s a w φ) {ty:TypeId} {x:Operand} (ho:o.op=.load ty x) {t:Ty} {y:t.D} (e1:eval s.env x=.adr t y) (hop:opW C o s K) :
  ∃b,imm g φ s.hp w.heap.size b/\eY (fun w'=>w'.heap[b]? = w.heap[b]?) P g N o a w K:=by
 have hx:=h.eval x
 have hexec:∀{u} {w':World},(Instr.loadAt ty (a.eval x)).run P w'=.ok u w'->(execOp a.eval o).run P w'=.ok (.value u) w':=by
  intro u w' hu
  simp[execOp,ho,hu]
 simp only[opW,ho] at hop
 unfold Ge at hop
 obtain⟨u,hu,hop⟩:=aJ hop
 have hf:=hT.ty _ _ hu
 rw[e1] at hx hop
 simp only at hop
 split at hop
 ·rename_i hh _
  cases hh
  simp only[ak] at hx
  obtain⟨b,of,cs,e,hI,hr,hc⟩:=hx
  rw[e] at hexec
  refine⟨b,hI,eY.same h (fun w' hb=>hexec (fL hf (hc.same fun o=>cN hb o) hr.length)) hop ?_⟩
  simp only[ak]
  exact⟨cs,hr,rfl⟩
 ·exact hop.elim
theorem It (hT:TabOk P C) (h:Sim g N s a w φ) {ty:TypeId} {x:Operand} (ho:o.op=.load ty x) {v:AV} (e1:eval s.env x=.ref v) (hop:opW C o s K) :
  ∃b,imm g φ s.hp w.heap.size b/\eY (fun w'=>w'.heap[b]? = w.heap[b]?) P g N o a w K:=by
 have hx:=h.eval x
 have hexec:∀{u} {w':World},(Instr.loadAt ty (a.eval x)).run P w'=.ok u w'->(execOp a.eval o).run P w'=.ok (.value u) w':=by
  intro u w' hu
  simp[execOp,ho,hu]
 simp only[opW,ho] at hop
 unfold Ge at hop
 obtain⟨u,hu,hop⟩:=aJ hop
 have hf:=hT.ty _ _ hu
 rw[e1] at hx hop
 simp only at hop
 cases ha:u.agg with
 | true=>rw[ha] at hop;exact hop.elim
 | false=>
  rw[ha] at hop
  simp only[cond_false] at hop
  simp only[ak] at hx
  obtain⟨b,of,uv,e,hI,hcell,hone,hv⟩:=hx
  have hc:Cells w b of [uv]:=by
   intro j v' hj
   cases j with
   | zero=>
    simp at hj
    subst hj
    exact hcell
   | succ j=>simp at hj
  rw[e] at hexec
  refine⟨b,hI,eY.same h (fun w' hb=>hexec (fL (P:=P) hf (hc.same fun o=>cN hb o) (by simp[ep u ha]))) hop ?_⟩
  simpa [mkv,ha] using hv
theorem Jm (hT:TabOk P C) (h:Sim g N s a w φ) {ty:TypeId} {x:Operand} (ho:o.op=.load ty x) (hop:opW C o s K):cq P g N o a w K:=by
 have hx:=h.eval x
 have hexec:∀{u} {w':World},(Instr.loadAt ty (a.eval x)).run P w'=.ok u w'->(execOp a.eval o).run P w'=.ok (.value u) w':=by
  intro u w' hu
  simp[execOp,ho,hu]
 simp only[opW,ho] at hop
 unfold Ge at hop
 obtain⟨u,hu,hop⟩:=aJ hop
 have hf:=hT.ty _ _ hu
 split at hop
 ·rename_i t y e1
  rw[e1] at hx
  split at hop
  ·rename_i hh _
   cases hh
   simp only[ak] at hx
   obtain⟨b,of,cs,e,hI,hr,hc⟩:=hx
   rw[e] at hexec
   refine cq.same h (fun w' ht=>hexec (fL hf (gw ht hI.2.1 hc) hr.length)) hop ?_
   simp only[ak]
   exact⟨cs,hr,rfl⟩
  ·exact hop.elim
 ·rename_i t y e1
  rw[e1] at hx
  split at hop
  ·rename_i hh _
   cases hh
   simp only[ak] at hx
   obtain⟨b,of,cs,e,hI,hr,hc⟩:=hx
   rw[e] at hexec
   refine cq.same h (fun w' ht=>hexec (fL hf (gw ht (h.mu hI) hc) hr.length)) hop ?_
   simp only[ak]
   exact⟨cs,hr,rfl⟩
  ·exact hop.elim
 ·rename_i id off e1
  rw[e1] at hx
  split at hop
  ·rename_i cs hl
   simp only[ak] at hx
   obtain⟨b,hφ,e⟩:=hx _ hl
   rw[e] at hexec
   cases ha:u.agg with
   | true=>
    simp only[ha,cond_true] at hop
    split at hop
    ·rename_i cs1 hl1
     cases hdp:(C.deep&&Nat.beq off 0&&Nat.beq u.size cs.length&&!ee cs) with
     | true=>
      rw[hdp] at hop
      simp only[cond_true] at hop
      simp only[Bool.and_eq_true] at hdp
      have ho0:off=0:=Nat.eq_of_beq_eq_true hdp.1.1.2
      have hsz:u.size=cs.length:=Nat.eq_of_beq_eq_true hdp.1.2
      subst ho0
      obtain⟨⟨b',vs,e0,hb',hg,hvs,hone⟩,_⟩:=h.blocks id _ hl
      have hb':=hφ.symm.trans hb'
      cases hb'
      have hlen:vs.toList.length=u.size:=by rw[hvs.length,hsz]
      refine cq.same h (fun w' ht=>hexec (fL hf (gw ht (h.place id _ b hl (.inl hφ)).1 (dg hg)) hlen)) hop ?_
      simp only[ak]
      exact⟨vs.toList,rfl,hlen,hone,hvs⟩
     | false=>
     rw[hdp] at hop
     simp only[cond_false] at hop
     obtain⟨y,hy,hop⟩:=aJ hop
     have h1:=h.gK (qF ((cs.drop off).take u.size))
     obtain⟨⟨b',vs,e0,hb',hg,hvs,h1c⟩,_⟩:=h1.blocks id _ hl1
     have hb':=hφ.symm.trans hb'
     cases hb'
     obtain⟨c,vs',ev,hr,_⟩:=ql (hvs.drop off) hy
     have hc:Cells w b off c:=by
      have:=(dg hg).drop off
      rw[Nat.zero_add,ev] at this
      have:=this.take c.length
      rwa [List.take_left] at this
     refine⟨_,_,_,φ,fun w' ht=>hexec (fL hf (gw ht (h.place id _ b hl (.inl hφ)).1 hc) hr.length),hop,h1,?_⟩
     simp only[ak]
     exact⟨c,hr,rfl⟩
    ·exact hop.elim
   | false=>
    simp only[ha,cond_false] at hop
    obtain⟨v,hv,hop⟩:=aJ hop
    obtain⟨⟨b',vs,e0,hb',hg,hvs,_⟩,_⟩:=h.blocks id _ hl
    have hb':=hφ.symm.trans hb'
    cases hb'
    obtain⟨uv,e2,hr⟩:=hvs.nth hv
    have hc:Cells w b off [uv]:=by
     have:=(dg hg).drop off
     rw[Nat.zero_add] at this
     intro j v' hj
     cases j with
     | zero=>
      simp at hj
      subst hj
      exact this 0 uv (by simpa using e2)
     | succ j=>simp at hj
    refine cq.same h (fun w' ht=>hexec (fL (P:=P) hf (gw ht (h.place id _ b hl (.inl hφ)).1 hc) (by simp[ep u ha]))) hop ?_
    simpa [mkv,ha] using hr
  ·exact hop.elim
 ·rename_i id i off e1
  rw[e1] at hx
  split at hop
  ·rename_i d t xs hl
   simp only[ak] at hx
   obtain⟨d',t',xs',b,e2,hφ,h0,hi,e⟩:=hx _ hl
   cases e2
   rw[e] at hexec
   obtain⟨v0,e0,l0,q1,q2,q3⟩:=h.blocks id _ hl
   have hcs:=jH q1 (q2.trans hφ)
   cases hdf:(d.Bm||d.sk&&u.flat) with
   | false=>
    rw[hdf] at hop
    simp only[cond_false] at hop
    cases hdp:d.sk with
    | false=>rw[hdp] at hop;exact hop.elim
    | true=>
    rw[hdp] at hop
    simp only[Bool.not_true,cond_false] at hop
    have hwh:=Dp.HQ hdp
    subst hwh
    split at hop
    case h_2=>exact hop.elim
    rename_i v
    obtain⟨y,hy,hop⟩:=aJ hop
    have hn:=qE (q3.any rfl) h0 hi
    have hp:=ni hy hn
    have hc:Cells w b (i.toNat * t.size+off) ((((l0.drop (i.toNat * t.size)).take t.size).drop off).take (Ty.sl v).size):=by
     have:=(((hcs.drop (i.toNat * t.size)).take t.size).drop off).take (Ty.sl v).size
     rwa [Nat.zero_add] at this
    refine cq.same h (fun w' ht=>hexec (fL hf (gw ht (h.place id _ b hl (.inl hφ)).1 hc) hp.length)) hop ?_
    obtain⟨A,c,ec,_⟩:=hp
    rw[ec]
    rw[ec] at hc
    simp only[ak]
    intro blk hlb
    rw[hl] at hlb
    cases hlb
    rcases q1.2 with⟨rfl,_⟩ | ⟨gg,cap,cur,rfl,_,hg,hn,hcap,hs,ht⟩
    ·have q2:=q2.trans hφ
     simp[Value.ownBlock] at q2
    ·have hgb:gg=b:=by
      have q2:=q2.trans hφ
      simpa [Value.ownBlock] using q2
     subst hgb
     refine⟨_,_,_,gg,cur,e0,rfl,hφ,h0,hi,hg,?_⟩
     have:=hc 0 _ rfl
     rw[Nat.add_zero,cell_of_row w gg _ cur e0 (0,0) hg] at this
     simpa [mkv,Ty.agg] using this
   | true=>
   rw[hdf] at hop
   simp only[cond_true] at hop
   obtain⟨y,hy,hop⟩:=aJ hop
   have hp:Rep w (imm g φ s.hp w.heap.size) u y ((((l0.drop (i.toNat * t.size)).take t.size).drop off).take u.size):=by
    cases d with
    | sh=>exact ni hy (qE q3.1 h0 hi)
    | dp=>exact rB (by simpa [Dp.Bm,Dp.sk] using hdf) (ni hy (qE (q3.any rfl) h0 hi))
    | ho=>cases hdf
   have hc:Cells w b (i.toNat * t.size+off) ((((l0.drop (i.toNat * t.size)).take t.size).drop off).take u.size):=by
    have:=(((hcs.drop (i.toNat * t.size)).take t.size).drop off).take u.size
    rwa [Nat.zero_add] at this
   refine cq.same h (fun w' ht=>hexec (fL hf (gw ht (h.place id _ b hl (.inl hφ)).1 hc) hp.length)) hop ?_
   simp only[ak]
   exact⟨_,hp,rfl⟩
  ·exact hop.elim
 ·rename_i v e1
  rw[e1] at hx
  cases ha:u.agg with
  | true=>rw[ha] at hop;exact hop.elim
  | false=>
   rw[ha] at hop
   simp only[ak] at hx
   obtain⟨b,of,uv,e,hI,hcell,hone,hv⟩:=hx
   rw[e] at hexec
   have hc:Cells w b of [uv]:=by
    intro j v' hj
    cases j with
    | zero=>simp at hj;subst hj;exact hcell
    | succ j=>simp at hj
   refine cq.same h (fun w' ht=>hexec (fL (P:=P) hf (gw ht hI.2.1 hc) (by simp[ep u ha]))) hop ?_
   simpa [mkv,ha] using hv
 ·exact hop.elim
theorem Eu (h:Sim g N s a w φ) {x:Operand} (ho:o.op=.nilCheck x) (hop:opW C o s K):cq P g N o a w K:=by
 have hx:=h.eval x
 simp only[opW,ho] at hop
 split at hop
 ·rename_i t y e1
  rw[e1] at hx
  have hx':=hx
  simp only[ak] at hx'
  obtain⟨b,of,cs,e,_⟩:=hx'
  exact cq.same h (u:=a.eval x) (fun w' _=>by simp[execOp,ho,e]) hop hx
 ·rename_i t y e1
  rw[e1] at hx
  have hx':=hx
  simp only[ak] at hx'
  obtain⟨b,of,cs,e,_⟩:=hx'
  exact cq.same h (u:=a.eval x) (fun w' _=>by simp[execOp,ho,e]) hop hx
 ·rename_i i of e1
  rw[e1] at hx
  split at hop
  ·rename_i blk hl
   have hx':=hx
   simp only[ak] at hx'
   obtain⟨b,_,e⟩:=hx' _ hl
   exact cq.same h (u:=a.eval x) (fun w' _=>by simp[execOp,ho,e]) hop hx
  ·exact hop.elim
 ·rename_i i j of e1
  rw[e1] at hx
  split at hop
  ·rename_i blk hl
   have hx':=hx
   simp only[ak] at hx'
   obtain⟨t,xs,b,_,_,_,_,e⟩:=hx' _ hl
   exact cq.same h (u:=a.eval x) (fun w' _=>by simp[execOp,ho,e]) hop hx
  ·exact hop.elim
 ·rename_i f c e1
  rw[e1] at hx
  have hx':=hx
  simp only[ak] at hx'
  obtain⟨vs,e,_⟩:=hx'
  exact cq.same h (u:=a.eval x) (fun w' _=>by simp[execOp,ho,e]) hop hx
 ·rename_i v e1
  rw[e1] at hx
  have hx':=hx
  simp only[ak] at hx'
  obtain⟨b,of,uv,e,_⟩:=hx'
  exact cq.same h (u:=a.eval x) (fun w' _=>by simp[execOp,ho,e]) hop hx
 ·exact hop.elim
theorem Kn {S:World->Prop} (h:Sim g N s a w φ) {op:UnOp} {t:TypeId} {x:Operand} (ho:o.op=.unOp op t x) (hop:opW C o s K):eY S P g N o a w K:=by
 have hx:=h.eval x
 simp only[opW,ho] at hop
 split at hop
 ·rename_i k n e1
  rw[e1] at hx
  have hx:=jh hx
  refine eY.same h (u:=.int k (k.wrap (0-n))) (fun w' _=>by simp[execOp,ho,hx,Op.unary,Op.intArith]) hop ?_
  rw[mW]
  exact cX ..
 ·rename_i b e1
  rw[e1] at hx
  have hx:=pH hx
  exact eY.same h (u:=.bool (!b)) (fun w' _=>by simp[execOp,ho,hx,Op.unary]) hop (eg ..)
 ·exact hop.elim
theorem Ky (hT:TabOk P C) (h:Sim g N s a w φ) {c:Call} {x:Operand} {t:TypeId} (ho:o.op=.call c) (hc:c.callee=.builtin .len) (hargs:c.args.toList=[x]) (hts:c.argTypes.toList=[t]) (hop:KK C t (eval s.env x) s K) :
  cq P g N o a w K:=by
 have hx:=h.eval x
 have ea:c.args=#[x]:=by cases hq:c.args;simp[hq] at hargs;rw[hargs]
 have et:c.argTypes=#[t]:=by cases hq:c.argTypes;simp[hq] at hts;rw[hts]
 have hexec:∀{u} {w':World},(Builtin.len_ #[t] o.type #[a.eval x]).run P w'=.ok u w'->(execOp a.eval o).run P w'=.ok (.value u) w':=by
  intro u w' hu
  simp[execOp,ho,resolve,hc,invoke,builtin,ea,et,hu]
 unfold KK at hop
 split at hop
 ·rename_i e1
  have h1:=hT.str _ _ _ e1
  split at hop
  ·rename_i b e2
   rw[e2] at hx
   rw[pP hx] at hexec
   exact cq.same h (fun w' _=>hexec (u:=goInt b.size) (by simp[Builtin.len_,run_underlying h1])) hop (cX ..)
  ·exact hop.elim
 ·rename_i e1
  have h1:=(hT.sl _ _ _ _ _ e1).1
  have hs:∀(A:Option Addr) (n c:Nat) (w':World),(Builtin.len_ #[t] o.type #[.slice A n c]).run P w'=.ok (goInt n) w':=by
   intro A n c w'
   simp[Builtin.len_,run_underlying h1]
  split at hop
  ·rename_i xs e2
   rw[e2] at hx
   simp only[ak] at hx
   obtain⟨A,c',e,_⟩:=dj.sN hx
   rw[e] at hexec
   exact cq.same h (fun w' _=>hexec (hs _ _ _ w')) hop (cX ..)
  ·rename_i t' xs e2
   rw[e2] at hx
   simp only[ak] at hx
   obtain⟨A,c',e,_⟩:=hx
   rw[e] at hexec
   exact cq.same h (fun w' _=>hexec (hs _ _ _ w')) hop (cX ..)
  ·rename_i e2
   rw[e2] at hx
   simp only[ak] at hx
   rw[hx] at hexec
   exact cq.same h (fun w' _=>hexec (hs _ _ _ w')) hop (cX ..)
  ·rename_i id cut e2
   rw[e2] at hx
   split at hop
   ·rename_i d' t' xs hl
    simp only[ak] at hx
    obtain⟨d2,t2,xs2,e3,hown⟩:=hx _ hl
    cases e3
    split at hop
    ·obtain⟨e',l,hr,_⟩:=hown
     rcases hr with⟨_,⟨e4,h0⟩ | ⟨gg,cap,cur,e4,_⟩⟩
     ·rw[e4] at hexec
      refine cq.same h (fun w' _=>hexec (hs none 0 0 w')) hop ?_
      rw[h0]
      exact cX ..
     ·rw[e4] at hexec
      exact cq.same h (fun w' _=>hexec (hs _ _ _ w')) hop (cX ..)
    ·rename_i lo hi
     obtain⟨h1,h2,h3,A,c',e4,_⟩:=hown
     rw[e4] at hexec
     refine cq.same h (fun w' _=>hexec (hs _ _ _ w')) hop ?_
     have:(((hi-lo).toNat:Nat):Int)=hi-lo:=by omega
     rw[this]
     exact cX ..
   ·exact hop.elim
  ·rename_i id hi e2
   rw[e2] at hx
   split at hop
   ·rename_i d' t' xs hl
    simp only[ak] at hx
    obtain⟨d2,t2,xs2,e3,hown⟩:=hx _ hl
    obtain⟨h1,h2,A,c',e4,_⟩:=hown.look
    rw[e4] at hexec
    refine cq.same h (fun w' _=>hexec (hs _ _ _ w')) hop ?_
    have:((hi.toNat:Nat):Int)=hi:=by omega
    rw[this]
    exact cX ..
   ·exact hop.elim
  ·exact hop.elim
 ·exact hop.elim
theorem vf {S:World->Prop} (hT:TabOk P C) (h:Sim g N s a w φ) {ty:TypeId} {x i:Operand} (ho:o.op=.indexAddr ty x i) (hop:opW C o s K):eY S P g N o a w K:=by
 have hx:=h.eval x
 have hi:=h.eval i
 simp only[opW,ho] at hop
 unfold zL at hop
 split at hop
 case h_2=>exact hop.elim
 rename_i e t' _ _ e1
 obtain⟨h1,h2⟩:=hT.sl _ _ _ _ _ e1
 have hf:=hT.ty _ _ h2
 obtain⟨n,hn,hop1⟩:=aJ hop
 clear hop
 have hop:=hop1
 clear hop1
 have hin:∃k,a.eval i=.int k n:=by
  unfold jP at hn
  split at hn
  ·rename_i k m e2
   cases hn
   rw[e2] at hi
   exact⟨k,jh hi⟩
  ·cases hn
 obtain⟨k,hin⟩:=hin
 have hexec:∀{b of len cap:Nat},a.eval x=.slice (some ⟨b,of,none⟩) len cap->0<=n->n<(len:Int) →
   ∀w',S w'->(execOp a.eval o).run P w'=.ok (.value (.pointer (some ⟨b,of+n.toNat * t'.size,none⟩))) w':=by
  intro b of len cap hx h0 hlt w' _
  simp[execOp,ho,hx,hin,Instr.indexAt,asIntOf,run_underlying h1,h0,hlt,pL hf,iq]
 have hsame:∀{t:Ty},Ty.same t t'=true->t=t':=by
  intro t hs
  unfold Ty.same at hs
  split at hs
  ·rename_i hh _;exact hh.down
  ·cases hs
 split at hop
 ·rename_i t xs e2
  rw[e2] at hx
  cases hs:Ty.same t t' with
  | false=>simp[hs] at hop
  | true=>
   simp only[hs,cond_true] at hop
   have:=hsame hs
   subst this
   obtain⟨h0,hlt,hop⟩:=hop
   simp only[ak] at hx
   obtain⟨A,c,e3,_,hz⟩:=dj.sN hx
   rcases hz with hz | ⟨b,of,l,hA,hI,hc,hl⟩
   ·subst hz;simp at hlt;omega
   ·subst hA
    refine eY.same h (hexec e3 h0 hlt) hop ?_
    simp only[ak]
    exact⟨b,of+n.toNat * t.size,_,rfl,hI,qE hl h0 hlt,(hc.drop _).take _⟩
 ·rename_i t xs e2
  rw[e2] at hx
  cases hs:Ty.same t t' with
  | false=>simp[hs] at hop
  | true=>
   simp only[hs,cond_true] at hop
   have:=hsame hs
   subst this
   obtain⟨h0,hlt,hop⟩:=hop
   simp only[ak] at hx
   obtain⟨A,c,e3,_,hz⟩:=hx
   rcases hz with hz | ⟨b,of,l,hA,hI,hc,hl⟩
   ·subst hz;simp at hlt;omega
   ·subst hA
    refine eY.same h (hexec e3 h0 hlt) hop ?_
    simp only[ak]
    exact⟨b,of+n.toNat * t.size,_,rfl,hI,qE hl h0 hlt,(hc.drop _).take _⟩
 ·rename_i id cut e2
  rw[e2] at hx
  split at hop
  ·rename_i d t xs hl
   cases hs:Ty.same t t' with
   | false=>simp[hs] at hop
   | true=>
    simp only[hs,cond_true] at hop
    have:=hsame hs
    subst this
    simp only[ak] at hx
    obtain⟨d2,t2,xs2,e3,hown⟩:=hx _ hl
    cases e3
    split at hop
    ·obtain⟨h0,hlt,hop⟩:=hop
     obtain⟨e',l,hr,hb⟩:=hown
     rcases hr with⟨_,⟨e4,h0'⟩ | ⟨gg,cap,cur,e4,_⟩⟩
     ·exact absurd hlt (by rw[h0'];omega)
     ·refine eY.same h (hexec e4 h0 hlt) hop ?_
      simp only[ak]
      intro blk hb'
      rw[hl] at hb'
      cases hb'
      rw[e4] at hb
      exact⟨d,t,xs,gg,rfl,by rw[<-hb];rfl,h0,hlt,by simp⟩
    ·rename_i lo hi'
     obtain⟨h0,hlt,hop⟩:=hop
     obtain⟨q1,q2,q3,A,c',e4,_,_,q5⟩:=hown
     obtain⟨b,hb,hA⟩:=q5 (by omega)
     subst hA
     refine eY.same h (hexec e4 h0 (by omega)) hop ?_
     simp only[ak]
     intro blk hb'
     rw[hl] at hb'
     cases hb'
     refine⟨d,t,xs,b,rfl,hb,by omega,by omega,?_⟩
     have:(lo+n).toNat=lo.toNat+n.toNat:=by omega
     rw[this,Nat.add_mul]
     simp
  ·exact hop.elim
 ·rename_i id hi' e2
  rw[e2] at hx
  split at hop
  ·rename_i d t xs hl
   cases hs:Ty.same t t' with
   | false=>simp[hs] at hop
   | true=>
    simp only[hs,cond_true] at hop
    have:=hsame hs
    subst this
    simp only[ak] at hx
    obtain⟨d2,t2,xs2,e3,hown⟩:=hx _ hl
    cases e3
    obtain⟨h0,hlt,hop⟩:=hop
    obtain⟨q2,q3,A,c',e4,_,q5⟩:=hown.look
    obtain⟨b,hb,hA⟩:=q5 (by omega)
    subst hA
    refine eY.same h (hexec e4 h0 (by omega)) hop ?_
    simp only[ak]
    intro blk hb'
    rw[hl] at hb'
    cases hb'
    exact⟨d,t,xs,b,rfl,hb,by omega,by omega,by simp⟩
  ·exact hop.elim
 ·exact hop.elim
theorem DR {t:TypeId} {fields:Array Field} {f:Field} {i:Nat} {b of:Nat} (h:P.underlying t=some (.struct fields)) (hf:fields[i]? = some f) (hi:∃j,P.info? f.type=some j/\j.size≠0) :
  (Instr.fieldAt t (.pointer (some ⟨b,of,none⟩)) i).run P w=.ok (.pointer (some ⟨b,of+f.offset,none⟩)) w:=by
 obtain⟨j,hj,hs⟩:=hi
 simp[Instr.fieldAt,run_underlying h,hf,Instr.sureAddr,fieldPlace,sizeOf,typeInfo,hj,hs,iq]
theorem uA {S:World->Prop} (hT:TabOk P C) (h:Sim g N s a w φ) {st:TypeId} {x:Operand} {f:Nat} (ho:o.op=.fieldAddr st x f) (hop:opW C o s K):eY S P g N o a w K:=by
 have hx:=h.eval x
 simp only[opW,ho] at hop
 unfold zg at hop
 split at hop
 case h_2=>exact hop.elim
 rename_i fs ty _ _ e1
 obtain⟨fields,h1,h2⟩:=hT.st _ _ _ _ _ e1
 obtain⟨⟨off,ft,nm⟩,hq,hop⟩:=aJ hop
 obtain⟨fd,g1,g2,g3,g4⟩:=h2 f off ft nm hq
 subst g2
 subst g3
 have hexec:∀{b of:Nat},a.eval x=.pointer (some ⟨b,of,none⟩)->∀w',S w'->(execOp a.eval o).run P w'=.ok (.value (.pointer (some ⟨b,of+fd.offset,none⟩))) w':=by
  intro b of hx w' _
  simp[execOp,ho,hx,DR h1 g1 g4]
 split at hop
 ·rename_i t y e2
  rw[e2] at hx
  obtain⟨u,hu,hop⟩:=aJ hop
  obtain⟨z,hz,hop⟩:=aJ hop
  simp only[ak] at hx
  obtain⟨b,of,cs,e,hI,hr,hc⟩:=hx
  refine eY.same h (hexec e) hop ?_
  simp only[ak]
  exact⟨b,of+fd.offset,_,rfl,hI,ni hz hr,(hc.drop _).take _⟩
 ·rename_i t y e2
  rw[e2] at hx
  obtain⟨u,hu,hop⟩:=aJ hop
  obtain⟨z,hz,hop⟩:=aJ hop
  simp only[ak] at hx
  obtain⟨b,of,cs,e,hI,hr,hc⟩:=hx
  refine eY.same h (hexec e) hop ?_
  simp only[ak]
  exact⟨b,of+fd.offset,_,rfl,hI,ni hz hr,(hc.drop _).take _⟩
 ·rename_i id of e2
  rw[e2] at hx
  simp only[ak] at hx
  split at hop
  ·rename_i blk hl
   obtain⟨b,hφ,e⟩:=hx _ hl
   refine eY.same h (hexec e) hop ?_
   simp only[ak]
   exact fun _ _=>⟨b,hφ,rfl⟩
  ·exact hop.elim
 ·rename_i id i of e2
  rw[e2] at hx
  simp only[ak] at hx
  split at hop
  ·rename_i blk hl
   obtain⟨d,t,xs,b,eb,hφ,h0,hi,e⟩:=hx _ hl
   refine eY.same h (hexec e) hop ?_
   simp only[ak]
   intro blk' hl'
   rw[hl] at hl'
   cases hl'
   exact⟨d,t,xs,b,eb,hφ,h0,hi,by rw[Nat.add_assoc]⟩
  ·exact hop.elim
 ·exact hop.elim
theorem yY {t:TypeId} {ty:Ty} (h:TyFact P t ty) {cs:List Value} {off:Nat} (hl:((cs.drop off).take ty.size).length=ty.size) :
  (part t cs.toArray off).run P w=.ok (mkv ty ((cs.drop off).take ty.size)) w:=by
 simp only[part,Sem.run_bind,BO h,Result.andThen_ok]
 cases ha:ty.agg with
 | true=>
  have e:cs.toArray.extract off (off+ty.size)=((cs.drop off).take ty.size).toArray:=by
   apply Array.ext'
   simp
  simp only[if_true,Sem.run_bind,pL h,Result.andThen_ok,mkv,ha,e]
  rfl
 | false=>
  have h1:=ep ty ha
  rw[h1] at hl ⊢
  have hlt:off<cs.length:=by
   rw[List.length_take,List.length_drop] at hl
   omega
  have e:cs.drop off=cs[off]::cs.drop (off+1):=List.drop_eq_getElem_cons hlt
  have e2:cs.toArray[off]? = some cs[off]:=by simp[hlt]
  rw[e]
  simp only[Bool.false_eq_true,if_false,e2,mkv,ha,List.take_succ_cons,List.headD_cons]
  rfl
theorem Il (hT:TabOk P C) (h:Sim g N s a w φ) {st:TypeId} {x:Operand} {f:Nat} (ho:o.op=.field st x f) (hop:opW C o s K):cq P g N o a w K:=by
 have hx:=h.eval x
 simp only[opW,ho] at hop
 unfold Ii at hop
 split at hop
 case h_2=>exact hop.elim
 rename_i fs ty _ _ e1
 obtain⟨fields,h1,h2⟩:=hT.st _ _ _ _ _ e1
 obtain⟨⟨off,ft,nm⟩,hq,hop⟩:=aJ hop
 obtain⟨fd,g1,g2,g3,g4⟩:=h2 f off ft nm hq
 subst g2
 subst g3
 split at hop
 ·rename_i t y e2
  rw[e2] at hx
  cases ha:t.agg with
  | false=>simp[ha] at hop
  | true=>
   simp only[ha,cond_true] at hop
   obtain⟨u,hu,hop⟩:=aJ hop
   obtain⟨z,hz,hop⟩:=aJ hop
   simp only[ak] at hx
   obtain⟨cs,hr,e⟩:=hx
   have hp:=ni hz hr
   have hpart:=fun w'=>yY (P:=P) (w:=w') (hT.ty _ _ hu) (cs:=cs) (off:=fd.offset) hp.length
   refine cq.same h (u:=mkv u ((cs.drop fd.offset).take u.size)) ?_ hop ?_
   ·intro w' _
    have e':a.eval x=.agg cs.toArray:=by rw[e];simp[mkv,ha]
    simp[execOp,ho,e',Instr.field,run_underlying h1,g1,asAgg,hpart w']
   ·simp only[ak]
    exact⟨_,hp,rfl⟩
 ·exact hop.elim
theorem Jc (hT:TabOk P C) (h:Sim g N s a w φ) {ty:TypeId} {x i:Operand} (ho:o.op=.index ty x i) (hop:opW C o s K):cq P g N o a w K:=by
 have hx:=h.eval x
 have hi:=h.eval i
 simp only[opW,ho] at hop
 split at hop
 case h_2=>exact hop.elim
 rename_i e1
 have h1:=hT.str _ _ _ e1
 obtain⟨n,hn,hop⟩:=aJ hop
 have hin:∃k,a.eval i=.int k n:=by
  unfold jP at hn
  split at hn
  ·rename_i k m e2
   cases hn
   rw[e2] at hi
   exact⟨k,jh hi⟩
  ·cases hn
 obtain⟨k,hin⟩:=hin
 split at hop
 ·rename_i b e2
  rw[e2] at hx
  have hx:=pP hx
  obtain⟨h0,hlt,hop⟩:=hop
  have hlt':n.toNat<b.size:=by omega
  have hg:b[n.toNat]? = some (b.get! n.toNat):=by
   rw[getElem?_pos b n.toNat hlt']
   congr 1
   cases b with
   | mk d=>
    have:n.toNat<d.size:=hlt'
    show d[n.toNat]=d[n.toNat]!
    exact(getElem!_pos d n.toNat this).symm
  refine cq.same h (u:=.int .u8 ((b.get! n.toNat).toNat:Int)) ?_ hop (cX ..)
  intro w' _
  simp[execOp,ho,hx,hin,Instr.index,asIntOf,run_underlying h1,h0,hg]
 ·exact hop.elim
theorem EI (h:Sim g N s a w φ) {x:Operand} {i:Nat} (ho:o.op=.extract x i) (hop:opW C o s K):cq P g N o a w K:=by
 have hx:=h.eval x
 simp only[opW,ho] at hop
 split at hop
 ·rename_i vs e1
  rw[e1] at hx
  obtain⟨v,hv,hop⟩:=aJ hop
  simp only[ak] at hx
  obtain⟨us,e,hr⟩:=hx
  obtain⟨u,e2,hu⟩:=hr.nth hv
  exact cq.same h (u:=u) (fun w' _=>by simp[execOp,ho,e,Instr.extract,e2]) hop hu
 ·exact hop.elim
theorem Kl (h:Sim g N s a w φ) {c:Call} {x y:Operand} {m:Bool} (ho:o.op=.call c) (hc:c.callee=.builtin (if m then .max else .min)) (hargs:c.args.toList=[x,y])
  (hop:mmW m (eval s.env x) (eval s.env y) s K):cq P g N o a w K:=by
 have hx:=h.eval x
 have hy:=h.eval y
 have ea:c.args=#[x,y]:=by cases hq:c.args;simp[hq] at hargs;rw[hargs]
 unfold mmW at hop
 split at hop
 ·rename_i k n k' n' e1 e2
  rw[e1] at hx
  rw[e2] at hy
  have hx:=jh hx
  have hy:=jh hy
  obtain⟨hkk,hop⟩:=rZ hop
  have hkk:=of_decide_eq_true hkk
  subst hkk
  cases m
  ·simp only[Bool.false_eq_true,if_false] at hc
   refine cq.same h (u:=.int k (if n'<n then n' else n)) ?_ hop (cX ..)
   intro w' _
   simp[execOp,ho,resolve,hc,invoke,builtin,ea,hx,hy,Builtin.min_,Builtin.min2]
  ·simp only[if_pos] at hc
   refine cq.same h (u:=.int k (if n' > n then n' else n)) ?_ hop (cX ..)
   intro w' _
   simp[execOp,ho,resolve,hc,invoke,builtin,ea,hx,hy,Builtin.max_,Builtin.max2]
 ·exact hop.elim
theorem sS (h:Sim g N s a w φ):∀l:List Operand,ax w (imm g φ s.hp w.heap.size) (aM g) φ s.hp (l.map (eval s.env)) (l.map a.eval)
 | []=>by simp[ax]
 | x::l=>by
  simp only[List.map_cons,ax]
  exact⟨_,_,rfl,h.eval x,sS h l⟩
theorem Ef (h:Sim g N s a w φ) {fn:Fn} {first caps:Array Operand} (ho:o.op=.makeFunc fn first caps) (hop:opW C o s K):cq P g N o a w K:=by
 simp only[opW,ho] at hop
 split at hop
 ·rename_i f e1
  have ef:first=#[]:=by cases hq:first;simp[hq] at e1;rw[e1]
  refine cq.same h (u:=.func (.func f) #[] (caps.map a.eval)) (fun w' _=>by simp[execOp,ho,ef,Instr.makeFunc]) hop ?_
  simp only[ak]
  exact⟨caps.toList.map a.eval,by congr 1;apply Array.ext';simp,sS h _⟩
 ·exact hop.elim
end
end Go.AE
