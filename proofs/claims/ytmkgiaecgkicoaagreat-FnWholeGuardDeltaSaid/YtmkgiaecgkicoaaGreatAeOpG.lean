/- The operations, one by one: zeros appended to nothing, what is cleared, the room of nothing. Seventh part. -/
import Derived.Test.YtmkgiaecgkicoaaGreatAeOpF
section
namespace Go.AE
open Go Go.RowKit
section
variable {P:Program} {C:Ctx} {g:Gl} {N:Nat} {o:Oper} {s:St} {a:Act} {w:World} {φ:Names} {K:AV->St->Prop}
theorem KV (hT:TabOk P C) (h:Sim g N s a w φ) {c:Call} {x:Operand} {t:TypeId} (ho:o.op=.call c) (hc:c.callee=.builtin .cap) (hargs:c.args.toList=[x]) (hts:c.argTypes.toList=[t]) (hop:KF C t (eval s.env x) s K) :
  nN P g N o a w K:=by
 have hx:=h.eval x
 have ea:c.args=#[x]:=by cases hq:c.args;simp[hq] at hargs;rw[hargs]
 have et:c.argTypes=#[t]:=by cases hq:c.argTypes;simp[hq] at hts;rw[hts]
 have hexec:∀{u} {w':World},(Builtin.cap_ #[t] o.type #[a.eval x]).run P w'=.ok u w'->(execOp a.eval o).run P w'=.ok (.value u) w':=by
  intro u w' hu
  simp[execOp,ho,resolve,hc,invoke,builtin,ea,et,hu]
 unfold KF at hop
 split at hop
 case h_2=>exact hop.elim
 rename_i e1
 have h1:=(hT.sl _ _ _ _ _ e1).1
 split at hop
 case h_2=>exact hop.elim
 rename_i e2
 rw[e2] at hx
 simp only[ak] at hx
 rw[hx] at hexec
 exact⟨goInt 0,w,_,s,φ,.inl (hexec (by simp[Builtin.cap_,run_underlying h1])),hop,h,cX ..,Turn.refl w none⟩
theorem wW (w:World) {t u ty e:TypeId} {i:TypeInfo} {z:Value} {sz:Nat} {k:IntKind} (ht:P.underlying t=some (.slice e)) (hu:P.underlying u=some (.int k))
  (hi:P.info? e=some i) (hs:i.size=sz) (hz:i.zero=some z) (hzs:z.cells.size=sz) {m:Nat} (hlim:m * i.bytes<=lim) (hpos:0<i.bytes) (hsz:0<sz) :
  ∃v' w' e',(Builtin.append_ #[t,u] ty #[.slice none 0 0,.int .i64 m]).run P w=.ok v' w'/\w'.rowOf 0 e' sz v' m (madeCells z.cells (m * sz)).toList/\w.grownBy w' none ∧
   (v'.ownBlock=none\/∃b,v'.ownBlock=some b/\w.heap.size<=b/\b<w'.heap.size):=by
 subst hs
 have hnm:=FE hlim hpos
 unfold lim at hlim hnm
 have hml:0+m<=maxLen:=by unfold maxLen;omega
 have hw:IntKind.i64.wrap (m:Int)=(m:Int):=by rw[IntKind.wrap_i64];omega
 have hlimI:((m:Int) * i.bytes)=((m * i.bytes:Nat):Int):=by simp
 have h48':¬(281474976710656<(m:Int) * (i.bytes:Int)):=by rw[hlimI];omega
 by_cases hm:m=0
 ·subst hm
  refine⟨.slice none 0 0,w,e,?_,?_,⟨rfl,rfl,rfl,Nat.le_refl _,fun _ _ _=>rfl⟩,.inl rfl⟩
  ·have hw0:IntKind.i64.wrap 0=0:=by simpa using hw
   simp[Builtin.append_,run_underlying ht,run_underlying hu,sizeOf,typeInfo,hi,asInt,asIntOf,hw0]
  ·have:=World.jD w 0 e i.size
   simpa [madeCells] using this
 ·have h48:¬(281474976710656<Builtin.nextslicecap m 0 * i.bytes):=by
   rw[nextslicecap_zero (by omega)]
   omega
  have h63':¬(9223372036854775807<(m:Int)):=by omega
  have hne:¬(m * i.size=0):=by
   have:=Nat.mul_pos (Nat.pos_of_ne_zero hm) hsz
   omega
  have hcells:Builtin.zeroCells z.cells m=madeCells z.cells (m * i.size):=by
   unfold Builtin.zeroCells madeCells
   rw[hzs]
  obtain⟨r1,r2⟩:=wC w (e:=e) (n:=0) (m:=m) (old:=0) (l:=[]) (news:=(madeCells z.cells (m * i.size)).toList) hzs (by simp) (by simp[size_madeCells]) hml none
  refine⟨_,_,e,?_,by simpa only[Nat.zero_add,List.nil_append] using r1,r2,.inr ⟨w.heap.size,rfl,Nat.le_refl _,by simp⟩⟩
  simp[Builtin.append_,run_underlying ht,run_underlying hu,sizeOf,typeInfo,zeroValue,hi,hz,asInt,asIntOf,Builtin.lenOf,hm,hw,h48',h63',h48,hne,hcells,Question.forced,run_firstCells_none,newRow,grownCap]
  intro hh
  omega
theorem JU (hT:TabOk P C) (h:Sim g N s a w φ) (hd:Nat.add (o.dst.getD 0) C.off≠base) {c:Call} {x y:Operand} {t u:TypeId} (ho:o.op=.call c) (hc:c.callee=.builtin .append) (hargs:c.args.toList=[x,y]) (hts:c.argTypes.toList=[t,u])
  (hop:HE C t u (eval s.env x) (eval s.env y) (Nat.add (o.dst.getD 0) C.off) s K):yp P g N o a w K:=by
 have hx:=h.eval x
 have hy:=h.eval y
 have ea:c.args=#[x,y]:=by cases hq:c.args;simp[hq] at hargs;rw[hargs]
 have et:c.argTypes=#[t,u]:=by cases hq:c.argTypes;simp[hq] at hts;rw[hts]
 have hexec:∀{v w'},(Builtin.append_ #[t,u] o.type #[a.eval x,a.eval y]).run P w=.ok v w'->(execOp a.eval o).run P w=.ok (.value v) w':=by
  intro v w' hv
  simp[execOp,ho,resolve,hc,invoke,builtin,ea,et,hv]
 unfold HE at hop
 split at hop
 case h_2=>exact hop.elim
 rename_i e t' _ _ e1
 obtain⟨h1,h2⟩:=hT.sl _ _ _ _ _ e1
 have hf:=hT.ty _ _ h2
 split at hop
 case h_2=>exact hop.elim
 rename_i ei hei
 have hpos:=hT.slPos _ _ _ _ _ _ e1 hei
 obtain⟨i,z,hi_,hs,hz,hzc⟩:=hf.info
 obtain⟨i',hi',hby⟩:=hT.bytes _ _ hei
 rw[hi_] at hi'
 cases hi'
 have hzs:z.cells.size=t'.size:=by
  have:=congrArg List.length hzc
  rw[dK] at this
  simpa using this
 split at hop
 case h_2=>exact hop.elim
 rename_i ku _ _ hlu
 have hu:=hT.int _ _ _ _ hlu
 split at hop
 case h_2=>exact hop.elim
 rename_i m e2 e3
 obtain⟨h0,hlim,hop⟩:=hop
 rw[e2] at hx
 simp only[ak] at hx
 rw[e3] at hy
 obtain⟨m',rfl⟩:=Int.eq_ofNat_of_zero_le h0
 rw[hx,jh hy] at hexec
 have hlim':m' * ei.bytes<=lim:=by
  exact Int.ofNat_le.1 (by rw[Int.natCast_mul];exact hlim)
 obtain⟨v',w',e',r1,r2,r3,r4⟩:=wW (P:=P) (ty:=o.type) w h1 hu hi_ hs hz hzs (m:=m') (by rw[hby];exact hlim') (by rw[hby];exact hpos) hf.pos
 have hzl:z.cells=(bq t').toArray:=by rw[<-hzc]
 have hcells:(madeCells z.cells (m' * t'.size)).toList=(List.replicate m' (bq t')).flatten:=by
  rw[hzl,<-dK t']
  exact sQ (bq t') (by rw[dK];exact hf.pos) m'
 rw[hcells] at r2
 obtain⟨q1,q2⟩:=h.uO (id:=Nat.add (o.dst.getD 0) C.off) hd (t:=t') (v0:=.slice none 0 0) (List.replicate m' t'.zero) (by simp[Value.ownBlock]) r3 (by simpa using r2) (fV w _ t' m') (by simpa [Value.ownBlock] using r4)
 exact⟨v',w',_,_,_,.inl (hexec r1),by simpa using hop,q1,q2⟩
theorem HN (hT:TabOk P C) (h:Sim g N s a w φ) {c:Call} {x:Operand} {t:TypeId} (ho:o.op=.call c) (hc:c.callee=.builtin .clear) (hargs:c.args.toList=[x]) (hts:c.argTypes.toList=[t]) (hop:Ff C t (eval s.env x) s K) :
  yp P g N o a w K:=by
 have hx:=h.eval x
 have ea:c.args=#[x]:=by cases hq:c.args;simp[hq] at hargs;rw[hargs]
 have et:c.argTypes=#[t]:=by cases hq:c.argTypes;simp[hq] at hts;rw[hts]
 have hexec:∀{u} {w':World},(Builtin.clear_ #[t] o.type #[a.eval x]).run P w=.ok u w'->(execOp a.eval o).run P w=.ok (.value u) w':=by
  intro u w' hu
  simp[execOp,ho,resolve,hc,invoke,builtin,ea,et,hu]
 unfold Ff at hop
 split at hop
 case h_2=>exact hop.elim
 rename_i e t' _ _ e1
 obtain⟨h1,h2⟩:=hT.sl _ _ _ _ _ e1
 have hf:=hT.ty _ _ h2
 obtain⟨i,z,hi_,hs,hz,hzc⟩:=hf.info
 have hzs:z.cells.size=t'.size:=by
  have:=congrArg List.length hzc
  rw[dK] at this
  simpa using this
 split at hop
 case h_2=>exact hop.elim
 rename_i id lo hi e2
 rw[e2] at hx
 split at hop
 case h_2=>exact hop.elim
 rename_i t2 xs hl
 split at hop
 case h_2=>exact hop.elim
 rename_i hh _
 cases hh
 simp only[fZ] at hop
 simp only[ak] at hx
 obtain⟨d3,t3,xs3,e4,g1,g2,g3,A,c,e5,hc5,g4,g5⟩:=hx _ hl
 cases e4
 rw[e5] at hexec
 obtain⟨v0,e0,l0,q1,q2,q3,hsub⟩:=h.blocks id _ hl
 have hlo:lo.toNat<=hi.toNat:=by omega
 have hhi:hi.toNat<=xs.length:=by omega
 have hn:(hi-lo).toNat=hi.toNat-lo.toNat:=by omega
 have hxl:(xs.take lo.toNat++(List.replicate (hi-lo).toNat t'.zero++xs.drop hi.toNat)).length=xs.length:=by
  simp only[List.length_append,List.length_take,List.length_replicate,List.length_drop]
  omega
 have hrep:∀I,cK (Rep w I t') xs l0->cK (Rep w I t') (xs.take lo.toNat++(List.replicate (hi-lo).toNat t'.zero++xs.drop hi.toNat)) (l0.take (lo.toNat * t'.size)++((List.replicate (hi-lo).toNat (bq t')).flatten++l0.drop (hi.toNat * t'.size))):=
  fun I q=>(q.take lo.toNat).append ((fV w I t' _).append (q.drop hi.toNat))
 by_cases h0:lo=hi
 ·subst h0
  have hz0:(lo-lo).toNat=0:=by omega
  have hsame:xs.take lo.toNat++(List.replicate (lo-lo).toNat t'.zero++xs.drop lo.toNat)=xs:=by
   rw[hz0,List.replicate_zero,List.nil_append,List.take_append_drop]
  rw[hsame] at hop
  rw[hz0] at hexec
  refine⟨.tuple #[],w,.top,_,bp φ id (φ id) [],.inl (hexec ?_),hop,?_,by simp[ak]⟩
  ·cases A<;>simp[Builtin.clear_,run_underlying h1]
  ·refine h.qG (fu.refl s) hl rfl (Turn.refl w none).p (fun b hb=>by cases hb) (fun b hb=>by simp at hb) (fun _ _ h=>by simp at h) (fun b _ cur e hg=>⟨cur,hg,rfl⟩) (fun L=>?_)
   exact⟨v0,e0,l0,q1,q2,q3.mono' L.imm L.immSame,rfl⟩
 ·obtain⟨b,hφ,hA⟩:=g5 (by omega)
  subst hA
  rcases q1 with⟨hn0,⟨e6,h00⟩ | ⟨gg,cap,cur,e6,hb0,hgc,hnc,hcm,hcs,htk⟩⟩
  ·rw[e6] at q2
   rw[hφ] at q2
   cases q2
  have hgb:gg=b:=by
   rw[e6] at q2
   have:=q2.trans hφ
   simpa [Value.ownBlock] using this
  subst hgb
  have hcl:cur.toList.length=cur.size:=Array.length_toList
  have hm1:lo.toNat * t'.size<=hi.toNat * t'.size:=Nat.mul_le_mul_right _ hlo
  have hm2:hi.toNat * t'.size<=xs.length * t'.size:=Nat.mul_le_mul_right _ hhi
  have hm3:xs.length * t'.size<=cap * t'.size:=Nat.mul_le_mul_right _ hnc
  have hzl:z.cells=(bq t').toArray:=by rw[<-hzc]
  have hcells:(Builtin.zeroCells z.cells (hi-lo).toNat).toList=(List.replicate (hi-lo).toNat (bq t')).flatten:=by
   have:Builtin.zeroCells z.cells (hi-lo).toNat=madeCells z.cells ((hi-lo).toNat * t'.size):=by
    unfold Builtin.zeroCells madeCells
    rw[hzs]
   rw[this,hzl,<-dK t']
   exact sQ (bq t') (by rw[dK];exact hf.pos) _
  have hzlen:(List.replicate (hi-lo).toNat (bq t')).flatten.length=(hi-lo).toNat * t'.size:=(fV w (fun _=>True) t' _).length.trans (by simp)
  have hz1:∀v∈(List.replicate (hi-lo).toNat (bq t')).flatten,v.oneCell'=true:=(fV w (fun _=>True) t' _).one
  have hmul:(hi-lo).toNat * t'.size=hi.toNat * t'.size-lo.toNat * t'.size:=by rw[hn,Nat.sub_mul]
  have hst:=run_storeCells_at P gg (lo.toNat * t'.size) e0 (List.replicate (hi-lo).toNat (bq t')).flatten 0 cur w hgc (by rw[hzlen];omega) hz1
  simp only[Nat.add_zero,hzlen] at hst
  have hne:¬(hi-lo).toNat=0:=by omega
  have hpos2:∃k,(hi-lo).toNat=k+1:=⟨(hi-lo).toNat-1,by omega⟩
  obtain⟨k,hk⟩:=hpos2
  have hrow:(cur.toList.take (lo.toNat * t'.size)++(List.replicate (hi-lo).toNat (bq t')).flatten++cur.toList.drop (lo.toNat * t'.size+(hi-lo).toNat * t'.size)).take (xs.length * t'.size) =
    l0.take (lo.toNat * t'.size)++((List.replicate (hi-lo).toNat (bq t')).flatten++l0.drop (hi.toNat * t'.size)):=by
   have e9:lo.toNat * t'.size+(hi-lo).toNat * t'.size=hi.toNat * t'.size:=by omega
   rw[e9,<-htk,List.append_assoc,List.take_append,List.take_append]
   rw[List.take_of_length_le (by rw[List.length_take];omega),List.take_of_length_le (l:=(List.replicate _ _).flatten) (by rw[hzlen,List.length_take];omega)]
   congr 1
   ·rw[List.take_take,Nat.min_eq_left (by omega)]
   ·congr 1
    rw[hzlen,List.length_take,List.drop_take]
    congr 1
    omega
  refine⟨.tuple #[],_,.top,_,bp φ id (φ id) [],.inl (hexec (w':=w.setRow gg (cur.toList.take (lo.toNat * t'.size)++(List.replicate (hi-lo).toNat (bq t')).flatten++cur.toList.drop (lo.toNat * t'.size+(hi-lo).toNat * t'.size)).toArray) ?_),hop,?_,by simp[ak]⟩
  ·rw[<-hcells] at hst
   rw[hk] at hst ⊢
   simp[Builtin.clear_,run_underlying h1,zeroValue,typeInfo,hi_,hz,hst]
   rw[hk] at hcells
   rw[hcells]
  ·refine h.qG (fu.refl s) hl hxl (jE w gg _).p (fun x hx=>by cases hx;exact⟨id,_,hl,.inl hφ,.inl rfl⟩) (fun x hx=>by simp at hx) (fun _ _ h=>by simp at h) (fun x hx cur' e hcur=>?_) (fun L=>?_)
   ·rw[hφ] at hx
    cases hx
    rw[hgc] at hcur
    cases hcur
    refine⟨_,setRow_heap w gg _ _ _ _ hgc,?_⟩
    simp[hzlen]
    omega
   ·have hset:=hrep _ q3
    refine⟨v0,e0,_,⟨?_,.inr ⟨gg,cap,_,by rw[hxl];exact e6,hb0,setRow_heap w gg _ _ _ _ hgc,by rw[hxl];exact hnc,hcm,?_,?_⟩⟩,by rw[e6,hφ];rfl,hset.mono' L.imm L.immSame,rfl⟩
    ·exact hset.length
    ·simp[hzlen];omega
    ·rw[hxl];simpa using hrow
end
end Go.AE
end
section
namespace Go.AE
open Go Go.RowKit
section
variable {P:Program} {C:Ctx} {g:Gl} {N:Nat} {o:Oper} {s:St} {a:Act} {w:World} {φ:Names} {K:AV->St->Prop}
structure Moved (g:Gl) (w:World) (φ:Names) (s s':St):Prop where
 wh:∀b,ja g φ s w b->ja g φ s' w b
 gone:gM s s'
theorem Moved.imm {s s':St} (h:Moved g w φ s s'):∀b,imm g φ s.hp w.heap.size b->imm g φ s'.hp w.heap.size b:=h.gone.imm
theorem Moved.refl (g:Gl) (w:World) (φ:Names) (s:St):Moved g w φ s s:=⟨fun _ h=>h,gM.refl s⟩
theorem Moved.trans {s s' s'':St} (h:Moved g w φ s s') (k:Moved g w φ s' s''):Moved g w φ s s'':=⟨fun b hb=>k.wh b (h.wh b hb),h.gone.trans k.gone⟩
theorem Moved.later {s s':St} (h:Moved g w φ s s') {S S':Nat->Prop} (hS:∀b,S b->S' b):Later w w (AE.imm g φ s.hp w.heap.size) (AE.imm g φ s'.hp w.heap.size) S S' φ φ s.hp s'.hp:=h.gone.later hS
theorem Sim.zv (h:Sim g N s a w φ) {s':St} (k:gM s s'):Moved g w φ s s':=by
 refine⟨?_,k⟩
 rintro b (hb | hb | ⟨j,d,t,xs,hj,hjb,hne⟩)
 ·exact .inl (k.imm b hb)
 ·exact .inr (.inl hb)
 ·cases hq:lookup s'.hp j with
  | some blk=>
   obtain⟨b0,h0,e0,_⟩:=k j blk hq
   rw[hj] at h0
   cases h0
   have:=e0 d t xs rfl
   subst this
   exact .inr (.inr ⟨j,d,t,xs,hq,hjb,hne⟩)
  | none=>
   left
   obtain⟨p1,p2⟩:=h.place j _ b hj (.inl hjb)
   refine⟨Gl.lH (p2.resolve_right (fun q=>hne q.2)),p1,fun i blk' hi ho=>?_⟩
   obtain⟨b0,h0,_⟩:=k i blk' hi
   have:=h.inj i j _ _ b h0 hj ho (.inl hjb)
   subst this
   rw[hq] at hi
   cases hi
theorem Sim.Ck (h:Sim g N s a w φ) (id:Nat):Moved g w φ s (s.freeze id):=h.zv (lI s id)
theorem Sim.uo (h:Sim g N s a w φ) {s':St} {t:Ty} {v:AV} {x:t.D} (hx:s.iT t v=some (x,s')):Moved g w φ s s':=h.zv (BS hx)
theorem Kq {hp:Hp} {id:Nat} {cut:Option (Int×Int)} {t:Ty} {xs:List t.D} (h:lookup hp id=some (.arr .sh t xs)):(AV.own id cut).as hp (.sl t)=some (aj xs cut):=by
 simp[AV.as,h,pO,eG,Dp.whole]
theorem Ax {n m:Nat} (h:Nat.blt n m=true):n<m:=by rwa [Nat.blt_eq] at h
theorem An (b:Nat) (hb:aM g b):ja g φ s w b:=.inr (.inl hb)
theorem vn (h:Sim g N s a w φ):∀{l l':List AV} {vs:List Value},ax w (imm g φ s.hp w.heap.size) (aM g) φ s.hp l vs->rN s.hp l=some l' →
  ax w (imm g φ s.hp w.heap.size) (ja g φ s w) φ s.hp l' vs/\AV.qm l'=true
 | [],l',vs,hv,hl=>by
  simp only[rN,Option.some.injEq] at hl
  subst hl
  exact⟨by simpa only[ax] using hv,rfl⟩
 | v::l,l',vs,hv,hl=>by
  simp only[ax] at hv
  obtain⟨u,us,rfl,hv,hvs⟩:=hv
  unfold rN at hl
  split at hl
  case h_2=>cases hl
  rename_i k hk
  obtain⟨ih1,ih2⟩:=vn h hvs hk
  have hsame:=(Moved.refl g w φ s).later (S:=aM g) (S':=ja g φ s w) An
  have fin:∀{v':AV},ak w (imm g φ s.hp w.heap.size) (ja g φ s w) φ s.hp v' u->v'.free=true →
    ax w (imm g φ s.hp w.heap.size) (ja g φ s w) φ s.hp (v'::k) (u::us)/\AV.qm (v'::k)=true:=by
   intro v' h1 h2
   exact⟨by simp only[ax];exact⟨u,us,rfl,h1,ih1⟩,by simp[AV.qm,h2,ih2]⟩
  split at hl
  ·rename_i id cut
   split at hl
   case h_2=>cases hl
   rename_i t xs hx
   obtain⟨hb,hl⟩:=cT hl
   obtain⟨_,hb2⟩:=Bool.and_eq_true_iff.1 hb
   cases hl
   have hne:Nat.beq id base=false:=by simpa using hb2
   have hne2:Nat.beq base id=false:=by
    rw[<-Bool.not_eq_true,Nat.beq_eq] at hne ⊢
    exact fun e=>hne e.symm
   exact fin (by have:=h.vb hv (Kq hx) (by simp[AV.deep,hx,Dp.sk]) (by simp[AV.refs,jJ,hne2]);simp only[ak];exact this) rfl
  ·cases hf:v.free with
   | false=>rw[hf] at hl;cases hl
   | true=>
    rw[hf] at hl
    simp only[cond_true,Option.some.injEq] at hl
    subst hl
    exact fin (ak.later hsame _ _ hv) hf
theorem Dy (h:Sim g N s a w φ) {p:Par} {v v':AV} {s':St} {u:Value} (hv:ak w (imm g φ s.hp w.heap.size) (aM g) φ s.hp v u) (hp:CH p v s=some (v',s')) :
  Sim g N s' a w φ/\Moved g w φ s s'/\ak w (imm g φ s'.hp w.heap.size) (ja g φ s' w) φ s'.hp v' u/\(v'.free=true\/∃i o,v'=.ptr i o):=by
 have hsame:=(Moved.refl g w φ s).later (S:=aM g) (S':=ja g φ s w) An
 unfold CH at hp
 split at hp
 ·cases hp
 ·rename_i t
  split at hp
  ·rename_i x s1 hg
   cases hp
   obtain⟨h1,cs,hr,e⟩:=h.iT hv hg
   exact⟨h1,h.uo hg,by simp only[ak];exact⟨cs,hr,e⟩,.inl rfl⟩
  ·cases hp
 ·rename_i t
  obtain⟨hb,hp⟩:=cT hp
  obtain⟨_,hb2⟩:=Bool.and_eq_true_iff.1 hb
  obtain⟨hb3,hb4⟩:=Bool.and_eq_true_iff.1 hb2
  split at hp
  ·rename_i xs hx
   cases hp
   exact⟨h,Moved.refl ..,by simp only[ak];exact h.vb hv hx (by simpa using hb3) (by simpa using hb4),.inl rfl⟩
  ·cases hp
 ·split at hp
  ·rename_i id cut
   split at hp
   case h_2=>cases hp
   rename_i t xs hx
   split at hp
   ·rename_i x s1 hg
    cases hp
    obtain⟨h1,cs,hr,e⟩:=h.iT hv hg
    exact⟨h1,h.uo hg,by simp only[ak];exact⟨cs,hr,e⟩,.inl rfl⟩
   ·cases hp
  ·rename_i f caps
   split at hp
   ·rename_i l hl
    cases hp
    simp only[ak] at hv
    obtain⟨vs,rfl,hvs⟩:=hv
    obtain⟨h1,h2⟩:=vn h hvs hl
    exact⟨h,Moved.refl ..,by simp only[ak];exact⟨vs,rfl,h1⟩,.inl (by simpa only[AV.free] using h2)⟩
   ·cases hp
  ·cases hp
   exact⟨h,Moved.refl ..,ak.later hsame _ _ hv,.inr ⟨_,_,rfl⟩⟩
  ·cases hf:v.free with
   | false=>rw[hf] at hp;cases hp
   | true=>
    rw[hf] at hp
    cases hp
    exact⟨h,Moved.refl ..,ak.later hsame _ _ hv,.inl hf⟩
theorem xU:∀{ps:List Par} {vs vs':List AV} {us:List Value} {s s':St},Sim g N s a w φ->ax w (imm g φ s.hp w.heap.size) (aM g) φ s.hp vs us->lg ps vs s=some (vs',s') →
  Sim g N s' a w φ/\Moved g w φ s s'/\ax w (imm g φ s'.hp w.heap.size) (ja g φ s' w) φ s'.hp vs' us/\∀v∈vs',v.free=true\/∃i o,v=.ptr i o
 | [],[],vs',us,s,s',h,hv,hp=>by
  simp only[lg,Option.some.injEq,Prod.mk.injEq] at hp
  obtain⟨rfl,rfl⟩:=hp
  exact⟨h,Moved.refl ..,by simpa only[ax] using hv,by simp⟩
 | [],_::_,_,_,_,_,_,_,hp=>by simp[lg] at hp
 | _::_,[],_,_,_,_,_,_,hp=>by simp[lg] at hp
 | p::ps,v::vs,vs',us,s,s',h,hv,hp=>by
  simp only[ax] at hv
  obtain⟨u,us',rfl,hv,hvs⟩:=hv
  unfold lg at hp
  split at hp
  case h_2=>cases hp
  rename_i v1 s1 h1
  split at hp
  case h_2=>cases hp
  rename_i vs2 s2 h2
  cases hp
  obtain⟨q1,q2,q3,q4⟩:=Dy h hv h1
  obtain⟨r1,r2,r3,r4⟩:=xU q1 (ax.later (q2.later (S:=aM g) (S':=aM g) (fun _ h=>h)) _ _ hvs) h2
  refine⟨r1,q2.trans r2,?_,fun x hx=>?_⟩
  ·simp only[ax]
   exact⟨u,us',rfl,ak.later (r2.later (S:=ja g φ s1 w) (S':=ja g φ s' w) r2.wh) _ _ q3,r3⟩
  ·rcases List.mem_cons.1 hx with rfl | hx
   ·exact q4
   ·exact r4 x hx
def idle:Act:={ tmps:=#[],defers:=[] }
def cE (g:Gl) (φ:Names) (s:St) (w:World) (c:Option Nat):Gl:=
 { w0:=w,ok:=imm g φ s.hp w.heap.size,io:=fun b=>c=some b,okLt:=fun _ h=>h.2.1,pin:=c }
def Bs (g:Gl) (K:AV->Hp->Prop):Ending->World->Prop
 | .returned u,w'=>∃r hp' φ',K r hp'/\Sim g 0 ⟨[],hp'⟩ idle w' φ'/\ak w' (imm g φ' hp' w'.heap.size) (aM g) φ' hp' r u
 | _,_=>False
def zR (P:Program) (f:FuncId) (con:Con):Prop:=
 ∀(g:Gl) (args:List AV) (hp:Hp) (K:AV->Hp->Prop) (φ:Names) (vals:List Value),con.run args hp K->Sim g 0 ⟨[],hp⟩ idle g.w0 φ →
  ax g.w0 (imm g φ hp g.w0.heap.size) (aM g) φ hp args vals->Calls P f vals.toArray g.w0 (Bs g K)
def ED (P:Program) (f:FuncId) (T:Inl):Prop:=
 ∀(g:Gl) (N:Nat) (s:St) (a:Act) (w:World) (φ:Names) (args:List AV) (vals:List Value) (K:AV->St->Prop),Sim g N s a w φ->ax w (imm g φ s.hp w.heap.size) (aM g) φ s.hp args vals →
  T args s K->Calls P f vals.toArray w (fun
   | .returned u,w'=>∃v s' φ',K v s'/\Sim g N s' a w' φ'/\ak w' (imm g φ' s'.hp w'.heap.size) (aM g) φ' s'.hp v u
   | _,_=>False)
def eL (P:Program) (C:Ctx):Prop:=(∀f con,lookup C.cons f=some con →
 (∀args w,(callFunc f args).run P w=.ok (.enter f args) w)/\zR P f con) ∧
 ∀f T,lookup C.inl f=some T->(∀args w,(callFunc f args).run P w=.ok (.enter f args) w)/\ED P f T
theorem AA (h:Sim g N s a w φ) {c:Option Nat} {φ':Names} {hp':Hp} (hc:∀id blk b,lookup hp' id=some blk->φ'.eI id b->c=some b)
  (hlive:∀b,c=some b->∃id blk,lookup s.hp id=some blk/\φ id=some b) :
  ∀b,imm g φ s.hp w.heap.size b->imm (cE g φ s w c) φ' hp' w.heap.size b:=by
 intro b hb
 refine⟨.inl hb,hb.2.1,fun id blk hl e=>?_⟩
 obtain⟨i,bl,h1,h2⟩:=hlive b (hc id blk b hl e)
 exact hb.2.2 i bl h1 (.inl h2)
theorem xW (h:Sim g N s a w φ) {c:Option Nat} (hbox:∀b,c=some b->∃id cs,lookup s.hp id=some (.box cs)/\φ id=some b) :
  ∀b,ja g φ s w b->aM (cE g φ s w c) b:=by
 intro b hb
 have key:∀id blk,lookup s.hp id=some blk->φ id=some b->(∀cs,blk≠.box cs)->¬c=some b:=by
  intro id blk h1 h2 h3 e
  obtain⟨i,cs,q1,q2⟩:=hbox b e
  have:=h.inj id i _ _ b h1 q1 (.inl h2) (.inl q2)
  subst this
  rw[h1] at q1
  cases q1
  exact h3 cs rfl
 rcases hb with hb | hb | ⟨id,d,t,xs,h1,h2,_⟩
 ·refine⟨hb.2.1,fun e=>?_⟩
  obtain⟨i,cs,q1,q2⟩:=hbox b e
  exact hb.2.2 i _ q1 (.inl q2)
 ·refine⟨h.mu hb,fun e=>?_⟩
  obtain⟨i,cs,q1,q2⟩:=hbox b e
  exact h.Gh q1 q2 hb rfl
 ·exact⟨(h.place id _ b h1 (.inl h2)).1,key id _ h1 h2 (fun cs e=>by cases e)⟩
end
end Go.AE
end
