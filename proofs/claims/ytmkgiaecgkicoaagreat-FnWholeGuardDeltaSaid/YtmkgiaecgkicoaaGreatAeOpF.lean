/- The operations, one by one: append. Sixth part; and all operations together. -/
import Derived.Test.YtmkgiaecgkicoaaGreatAeOpE
namespace Go.AE
open Go Go.RowKit
section
variable {P:Program} {C:Ctx} {g:Gl} {N:Nat} {o:Oper} {s:St} {a:Act} {w:World} {φ:Names} {K:AV->St->Prop}
theorem wC (w:World) {e:TypeId} {sz n m old:Nat} {z:Value} {l news:List Value} (hzs:z.cells.size=sz) (hl:l.length=n * sz) (hn:news.length=m * sz) (hm:n+m<=maxLen) (row:Option Nat) :
  (w.drew.alloc (.cells (l.toArray++news.toArray++Builtin.zeroCells z.cells (grownCap w (n+m) old e-(n+m))) e)).rowOf 0 e sz
   (.slice (some ⟨w.heap.size,0,none⟩) (n+m) (grownCap w (n+m) old e)) (n+m) (l++news) ∧
  w.grownBy (w.drew.alloc (.cells (l.toArray++news.toArray++Builtin.zeroCells z.cells (grownCap w (n+m) old e-(n+m))) e)) row:=by
 have hge:=grownCap_ge w (n+m) old e
 have hcm:grownCap w (n+m) old e<=maxLen:=grownCap_le_maxLen w (n+m) old e hm
 have hlen:(l++news).length=(n+m) * sz:=by rw[List.length_append,hl,hn,Nat.add_mul]
 refine⟨⟨hlen,.inr ⟨w.heap.size,_,_,rfl,Nat.zero_le _,heap_alloc_new w.drew _,hge,hcm,?_,?_⟩⟩,⟨rfl,rfl,rfl,by simp,fun k hk _=>heap_alloc_old w.drew _ k hk⟩⟩
 ·simp only[Array.size_append,List.size_toArray,size_zeroCells,hzs,hl,hn,<-Nat.add_mul]
  refine Nat.mul_le_mul_right _ ?_
  omega
 ·simp only[Array.toList_append,List.append_assoc]
  rw[<-List.append_assoc,<-hlen]
  exact List.take_left
theorem iE (w:World) {t u ty e e0:TypeId} {i:TypeInfo} {z:Value} {du:TypeDesc} {sz:Nat} (ht:P.underlying t=some (.slice e)) (hu:P.underlying u=some du) (hdu:∀k,du≠.int k)
  (hi:P.info? e=some i) (hs:i.size=sz) (hz:i.zero=some z) (hzs:z.cells.size=sz) {v:Value} {n:Nat} {l:List Value} (hown:w.rowOf 0 e0 sz v n l)
  {A:Option Addr} {m c:Nat} {news:List Value} (hl:news.length=m * sz) (hsrc:news=[]\/∃b of,A=some ⟨b,of,none⟩/\Cells w b of news) (hA:A=none->m=0) (h1:∀v∈news,v.oneCell'=true)
  (hlim:(n+m) * i.bytes<=lim) (hpos:0<i.bytes) :
  ∃v' w' e',(Builtin.append_ #[t,u] ty #[v,.slice A m c]).run P w=.ok v' w'/\w'.rowOf 0 e' sz v' (n+m) (l++news)/\w.grownBy w' v.ownBlock ∧
   (v'.ownBlock=v.ownBlock\/∃b,v'.ownBlock=some b/\w.heap.size<=b/\b<w'.heap.size):=by
 subst hs
 have hnm:=FE hlim hpos
 unfold lim at hlim hnm
 have hml:n+m<=maxLen:=by unfold maxLen;omega
 have h63:¬(9223372036854775807<((n:Int)+(m:Int))):=by omega
 have hf:∀w2:World,w2.heap=w.heap->(Builtin.firstCells i.size m (.slice A m c)).run P w2=.ok news.toArray w2:=by
  intro w2 hw2
  cases A with
  | none=>
   have:=hA rfl
   subst this
   have:news=[]:=List.eq_nil_of_length_eq_zero (by simpa using hl)
   subst this
   simp[Builtin.firstCells]
  | some ad=>
   rcases hsrc with rfl | ⟨b,of,e1,hc⟩
   ·have hm:m * i.size=0:=by simpa using hl.symm
    simp[Builtin.firstCells,hm,loadCells,loadCellsFrom]
   ·cases e1
    have:=run_firstCells_some (P:=P) w2 i.size m ⟨b,of,none⟩ m c news hl (fun j v hj=>by
     rw[iq]
     have:=hc j v hj
     simpa [World.cell?,hw2] using this)
    exact this
 have hlenx:(Builtin.lenOf (.slice A m c)).run P w=.ok m w:=rfl
 rcases hown with⟨hll,⟨rfl,rfl⟩ | ⟨gg,cap,cur,rfl,hb,hg,hn,hc,hcs,htk⟩⟩
 ·have hl0:l=[]:=List.eq_nil_of_length_eq_zero (by simpa using hll)
  subst hl0
  by_cases hm:m=0
  ·subst hm
   have hn0:news=[]:=List.eq_nil_of_length_eq_zero (by simpa using hl)
   subst hn0
   refine⟨.slice none 0 0,w,e,?_,World.jD w 0 e i.size,⟨rfl,rfl,rfl,Nat.le_refl _,fun _ _ _=>rfl⟩,.inl rfl⟩
   have hf0:=hf w rfl
   simp[Builtin.append_,run_underlying ht,run_underlying hu,sizeOf,typeInfo,hi,Builtin.lenOf,hf0]
  ·have h48:¬(281474976710656<Builtin.nextslicecap m 0 * i.bytes):=by
    rw[nextslicecap_zero (by omega)]
    simp at hlim
    omega
   have hf0:=hf w.drew rfl
   obtain⟨r1,r2⟩:=wC w (e:=e) (n:=0) (m:=m) (old:=0) (l:=[]) hzs (by simp) hl hml (Value.ownBlock (.slice none 0 0))
   refine⟨_,_,e,?_,r1,r2,.inr ⟨w.heap.size,rfl,Nat.le_refl _,by simp⟩⟩
   have h63':¬(9223372036854775807<(m:Int)):=by omega
   simp[Builtin.append_,run_underlying ht,run_underlying hu,sizeOf,typeInfo,zeroValue,hi,hz,Builtin.lenOf,hm,h63',h48,Question.forced,run_firstCells_none,hf0,newRow,grownCap]
 ·by_cases hroom:n+m<=cap
  ·have hfit:n * i.size+news.length<=cur.size:=by rw[hl,<-Nat.add_mul];exact Nat.le_trans (Nat.mul_le_mul_right _ hroom) hcs
   have hst:=run_storeCells_at P gg (n * i.size) e0 news 0 cur w hg (by simpa using hfit) h1
   simp only[Nat.add_zero] at hst
   have hf0:=hf w rfl
   refine⟨.slice (some ⟨gg,0,none⟩) (n+m) cap,w.setRow gg (cur.toList.take (n * i.size)++news++cur.toList.drop (n * i.size+news.length)).toArray,e0,
    by simp[Builtin.append_,run_underlying ht,run_underlying hu,sizeOf,typeInfo,hi,Builtin.lenOf,hroom,hf0,Addr.add_lit,hst],?_,⟨rfl,rfl,rfl,by simp,fun k _ hk=>setRow_other w gg k _ (fun e=>hk (by simp[Value.ownBlock,e]))⟩,.inl rfl⟩
   refine⟨by rw[List.length_append,hll,hl,Nat.add_mul],.inr ⟨gg,cap,_,rfl,hb,setRow_heap w gg cur _ e0 _ hg,hroom,hc,?_,?_⟩⟩
   ·simp only[List.size_toArray,List.length_append,List.length_take,List.length_drop,Array.length_toList]
    omega
   ·rw[htk]
    have:(n+m) * i.size=(l++news).length:=by rw[List.length_append,hll,hl,Nat.add_mul]
    rw[this]
    exact List.take_left
  ·have hcs0:Cells w gg 0 l:=by
    have h':w.rowOf 0 e0 i.size (.slice (some ⟨gg,0,none⟩) n cap) n l:=⟨hll,.inr ⟨gg,cap,cur,rfl,hb,hg,hn,hc,hcs,htk⟩⟩
    exact jH h' rfl
   have hfo:=run_firstCells_some (P:=P) w.drew i.size n ⟨gg,0,none⟩ n cap l hll (fun j v hj=>by
    rw[iq]
    exact hcs0 j v hj)
   have hf0:=hf w.drew rfl
   have h48:¬(281474976710656<Builtin.nextslicecap (n+m) cap * i.bytes):=by
    have:=growslice_fits (need:=n+m) (old:=cap) (bytes:=i.bytes) (by omega) hlim
    omega
   obtain⟨r1,r2⟩:=wC w (e:=e) (n:=n) (m:=m) (old:=cap) hzs hll hl hml (Value.ownBlock (.slice (some ⟨gg,0,none⟩) n cap))
   refine⟨_,_,e,?_,r1,r2,.inr ⟨w.heap.size,rfl,Nat.le_refl _,by simp⟩⟩
   simp[Builtin.append_,run_underlying ht,run_underlying hu,sizeOf,typeInfo,zeroValue,hi,hz,Builtin.lenOf,hroom,h63,h48,Question.forced,hf0,hfo,newRow,grownCap]
   congr 2
   apply Array.ext'
   simp[List.append_assoc]

theorem Sim.uO (h:Sim g N s a w φ) {id:Nat} (hid:id≠base) {t:Ty} {v0 v':Value} {w':World} {e':TypeId} {l:List Value} (xs':List t.D)
  (hc:∀b,v0.ownBlock=some b->φ id=some b/\∃d t xs,lookup s.hp id=some (.arr d t xs))
  (hg:w.grownBy w' v0.ownBlock) (hown:w'.rowOf 0 e' t.size v' xs'.length l) (hl:cK (Rep w (imm g φ s.hp w.heap.size) t) xs' l)
  (hb:v'.ownBlock=v0.ownBlock\/∃b,v'.ownBlock=some b/\w.heap.size<=b/\b<w'.heap.size) :
  Sim g N (s.create id (.arr .sh t xs')) a w' (lX φ id v'.ownBlock) ∧
  ak w' (imm g (lX φ id v'.ownBlock) (s.create id (.arr .sh t xs')).hp w'.heap.size) (aM g) (lX φ id v'.ownBlock) (s.create id (.arr .sh t xs')).hp (.own id none) v':=by
 have hturn:Turn w w' v0.ownBlock:=⟨hg.os,hg.tape,hg.output,hg.size,fun b hb hne=>hg.block b hb (fun e=>hne e.symm)⟩
 refine⟨h.create hid hturn hc (fun b hbv=>?_) (fun L=>⟨v',e',l,hown,rfl,hl.mono' L.imm L.immSame,rfl⟩),?_⟩
 ·rcases hb with hb | ⟨b',hb,h1,h2⟩
  ·rw[hb] at hbv
   obtain⟨q1,d0,t0,x0,q2⟩:=hc b hbv
   refine⟨Nat.lt_of_lt_of_le (h.place id _ b q2 (.inl q1)).1 hg.size,.inr ⟨q1,d0,t0,x0,q2⟩⟩
  ·rw[hb] at hbv
   cases hbv
   exact⟨h2,.inl h1⟩
 ·simp only[ak]
  intro blk hbl
  simp only[St.create,lookup_cons,if_true] at hbl
  cases hbl
  exact⟨.sh,t,xs',rfl,e',l,hown,by simp[lX,bp]⟩
theorem Sim.sM (h:Sim g N s a w φ) {s1:St} {B':List Nat} (k:Handed s s1 φ B') {id:Nat} (hid:id≠base) {t:Ty} {v0 v':Value} {w':World} {e':TypeId} {l:List Value} (xs':List t.D) (B0:List Nat)
  (hc:∀b,v0.ownBlock=some b->φ id=some b/\∃d t xs,lookup s1.hp id=some (.arr d t xs)) (hB0:∀b∈B0,b∈φ.sub id/\∃blk,lookup s1.hp id=some blk) (hn0:B0.Nodup)
  (hg:w.grownBy w' v0.ownBlock) (hown:w'.rowOf 0 e' t.size v' xs'.length l) (hl:bG (Tree w t) xs' l (B0++B'))
  (hb:v'.ownBlock=v0.ownBlock\/∃b,v'.ownBlock=some b/\w.heap.size<=b/\b<w'.heap.size) :
  Sim g N (s1.create id (.arr .dp t xs')) a w' (bp φ id v'.ownBlock (B0++B')) ∧
  ak w' (imm g (bp φ id v'.ownBlock (B0++B')) (s1.create id (.arr .dp t xs')).hp w'.heap.size) (aM g) (bp φ id v'.ownBlock (B0++B')) (s1.create id (.arr .dp t xs')).hp (.own id none) v':=by
 have hturn:Turn w w' v0.ownBlock:=⟨hg.os,hg.tape,hg.output,hg.size,fun b hb hne=>hg.block b hb (fun e=>hne e.symm)⟩
 have old:∀b,φ.eI id b->(∃blk,lookup s1.hp id=some blk)->b<w.heap.size/\g.mine b/\qT s s1 φ id b:=by
  rintro b ho ⟨blk,hq⟩
  obtain⟨p1,p2⟩:=h.place id blk b (k.fH id blk hq) ho
  exact⟨p1,p2.resolve_right (fun q=>hid q.2),id,blk,k.fH id blk hq,ho,.inl rfl⟩
 have hcc:∀b,v0.ownBlock=some b->b<w.heap.size/\g.mine b/\qT s s1 φ id b:=by
  intro b hb
  obtain⟨q1,d0,t0,x0,q2⟩:=hc b hb
  exact old b (.inl q1) ⟨_,q2⟩
 have hBs:∀b,b∈B0++B'->b<w.heap.size/\g.mine b/\qT s s1 φ id b:=by
  intro b hb
  rcases List.mem_append.1 hb with hb | hb
  ·obtain⟨q1,q2⟩:=hB0 b hb
   exact old b (.inr q1) q2
  ·obtain⟨q1,q2⟩:=k.le h b hb
   obtain⟨j,blk,r1,r2,r3,_⟩:=k.owner b hb
   exact⟨q1,q2,j,blk,r1,r2,.inr r3⟩
 have hnot:∀b,v0.ownBlock=some b->b∉B0++B':=by
  intro b hb hin
  obtain⟨q1,d0,t0,x0,q2⟩:=hc b hb
  rcases List.mem_append.1 hin with hin | hin
  ·exact h.apart id _ b (k.fH id _ q2) q1 (hB0 b hin).1
  ·obtain⟨j,blk,r1,r2,r3,_⟩:=k.owner b hin
   have:=h.inj j id _ _ b r1 (k.fH id _ q2) r2 (.inl q1)
   subst this
   rw[q2] at r3
   cases r3
 have hnd:(B0++B').Nodup:=by
  refine List.nodup_append.2 ⟨hn0,k.nodup,?_⟩
  rintro x hx y hy rfl
  obtain⟨q1,blk0,q2⟩:=hB0 x hx
  obtain⟨j,blk,r1,r2,r3,_⟩:=k.owner x hy
  have:=h.inj j id _ _ x r1 (k.fH id _ q2) r2 (.inr q1)
  subst this
  rw[q2] at r3
  cases r3
 refine⟨h.nZ ⟨k.env,k.fH⟩ hid hturn.p (fun b hb=>(hcc b hb).2) (fun b hbv=>?_) (fun b hbv hin=>?_) (fun L=>⟨v',e',l,hown,rfl,B0++B',?_,hnd,fun _ h=>h⟩),?_⟩
 ·rcases hbv with hbv | hbv
  ·rcases hb with hb | ⟨b',hb,h1,h2⟩
   ·rw[hb] at hbv
    obtain⟨q0,q1,q2⟩:=hcc b hbv
    exact⟨Nat.lt_of_lt_of_le q0 hg.size,q1,.inr q2⟩
   ·rw[hb] at hbv
    cases hbv
    exact⟨h2,.inl (Nat.le_trans h.hsize h1),.inl h1⟩
  ·obtain⟨q0,q1,q2⟩:=hBs b hbv
   exact⟨Nat.lt_of_lt_of_le q0 hg.size,q1,.inr q2⟩
 ·rcases hb with hb | ⟨b',hb,h1,h2⟩
  ·rw[hb] at hbv
   exact hnot b hbv hin
  ·rw[hb] at hbv
   cases hbv
   have:=(hBs b hin).1
   omega
 ·exact hl.frame (fun b hb=>hturn.block b (hBs b hb).1 (fun e=>hnot b e hb))
 ·simp only[ak]
  intro blk hbl
  simp only[St.create,lookup_cons,if_true] at hbl
  cases hbl
  exact⟨.dp,t,xs',rfl,e',l,hown,by simp[bp]⟩
theorem Tree.src {w:World} {t:Ty} {ys:List t.D} {cs:List Value} {B:List Nat} (h:Tree w (.sl t) ys cs B) :
  ∃A c news B',mkv (.sl t) cs=.slice A ys.length c/\news.length=ys.length * t.size/\bG (Tree w t) ys news B'/\(∃F,B=F++B')/\(news=[]\/∃b of,A=some ⟨b,of,none⟩/\Cells w b of news)/\(A=none->ys.length=0):=by
 obtain⟨A,c,rfl,hc,hz⟩:=h
 rcases hz with⟨rfl,rfl,_⟩ | ⟨b,cur,e,B',rfl,rfl,hg,hl,_⟩
 ·exact⟨A,c,[],[],rfl,by simp,⟨rfl,rfl⟩,⟨[],rfl⟩,.inl rfl,fun _=>rfl⟩
 ·refine⟨_,c,_,B',rfl,hl.length,hl,⟨[b],rfl⟩,.inr ⟨b,0,rfl,?_⟩,by simp⟩
  have:=(dg hg).take (ys.length * t.size)
  exact this
theorem Handed.part {s s':St} {F B:List Nat} (k:Handed s s' φ (F++B)):Handed s s' φ B:=
 ⟨(List.nodup_append.1 k.nodup).2.1,k.env,k.gone,fun b hb=>k.owner b (List.mem_append_right _ hb),k.fH⟩
theorem dj.src {w:World} {I T:Nat->Prop} {t:Ty} {ys:List t.D} {u:Value} (h:dj w I T t ys u) :
  ∃A c news,u=.slice A ys.length c/\news.length=ys.length * t.size/\cK (Rep w I t) ys news/\(news=[]\/∃b of,A=some ⟨b,of,none⟩/\Cells w b of news)/\(A=none->ys.length=0):=by
 obtain⟨A,c,rfl,hc,hz⟩:=h
 rcases hz with rfl | ⟨b,o,l,rfl,_,hcs,hl⟩
 ·exact⟨A,c,[],rfl,by simp,rfl,.inl rfl,fun _=>rfl⟩
 ·exact⟨_,c,l,rfl,hl.length,hl,.inr ⟨b,o,rfl,hcs⟩,by simp⟩
theorem GN (hT:TabOk P C) (h:Sim g N s a w φ) (hd:Nat.add (o.dst.getD 0) C.off≠base) {c:Call} {x y:Operand} {t u:TypeId} (ho:o.op=.call c) (hc:c.callee=.builtin .append) (hargs:c.args.toList=[x,y]) (hts:c.argTypes.toList=[t,u])
  (hu:∃ti,lookup C.tab u=some ti/\∀k,ti.td≠.val (.int k)) (hop:KD C t (eval s.env x) (eval s.env y) (Nat.add (o.dst.getD 0) C.off) s K):yp P g N o a w K:=by
 have hx:=h.eval x
 have hy:=h.eval y
 have ea:c.args=#[x,y]:=by cases hq:c.args;simp[hq] at hargs;rw[hargs]
 have et:c.argTypes=#[t,u]:=by cases hq:c.argTypes;simp[hq] at hts;rw[hts]
 have hexec:∀{v w'},(Builtin.append_ #[t,u] o.type #[a.eval x,a.eval y]).run P w=.ok v w'->(execOp a.eval o).run P w=.ok (.value v) w':=by
  intro v w' hv
  simp[execOp,ho,resolve,hc,invoke,builtin,ea,et,hv]
 obtain⟨tiu,hlu,hnu⟩:=hu
 obtain⟨du,hdu,hdn⟩:=hT.notInt _ _ hlu hnu
 unfold KD at hop
 split at hop
 case h_2=>exact hop.elim
 rename_i e t' _ _ e1
 obtain⟨h1,h2⟩:=hT.sl _ _ _ _ _ e1
 have hf:=hT.ty _ _ h2
 split at hop
 case h_2=>exact hop.elim
 rename_i ei hei
 have hpos:=hT.slPos _ _ _ _ _ _ e1 hei
 obtain⟨i,z,hi_,hs,hz,hzc⟩:=hf.info
 obtain⟨i',hi',hby⟩:=hT.bytes _ _ hei
 rw[hi_] at hi'
 cases hi'
 have hzs:z.cells.size=t'.size:=by
  have:=congrArg List.length hzc
  rw[dK] at this
  simpa using this
 cases hdy:(eval s.env y).deep s.hp with
 | true=>
  rw[hdy] at hop
  simp only[cond_true] at hop
  obtain⟨q,hq,hop⟩:=aJ hop
  obtain⟨BB,cs,k0,ht0,e2⟩:=Ad h hy (show s.hand (.sl t') (eval s.env y)=some (q.1,q.2) from hq)
  obtain⟨A,cc,news,B',e2',hnl,hnr,⟨F,rfl⟩,hsrc,hAn⟩:=ht0.src
  have k:=k0.part
  rw[e2,e2'] at hexec
  split at hop
  ·rename_i e3
   rw[e3] at hx
   simp only[ak] at hx
   rw[hx] at hexec
   obtain⟨hlim,hop⟩:=hop
   obtain⟨v',w',e',r1,r2,r3,r4⟩:=iE (P:=P) (ty:=o.type) w h1 hdu hdn hi_ hs hz hzs (World.jD w 0 0 t'.size) (c:=cc) hnl hsrc hAn hnr.one (by rw[hby];simpa using hlim) (by rw[hby];exact hpos)
   simp only[Nat.zero_add,List.nil_append] at r2
   obtain⟨q1,q2⟩:=h.sM k (id:=Nat.add (o.dst.getD 0) C.off) hd (v0:=.slice none 0 0) q.1 [] (by simp[Value.ownBlock]) (by simp) List.nodup_nil r3 r2 hnr r4
   exact⟨v',w',_,_,_,.inl (hexec r1),hop,q1,q2⟩
  ·rename_i id e3
   rw[e3] at hx
   split at hop
   case h_2=>exact hop.elim
   rename_i t2 xs hl
   split at hop
   case h_2=>exact hop.elim
   rename_i hh _
   cases hh
   rcases aZ id base with⟨_,hb⟩ | ⟨hidb,hb⟩
   ·rw[hb] at hop;exact hop.elim
   rw[hb] at hop
   simp only[cond_false] at hop
   have hl0:=k.fH id _ hl
   simp only[ak] at hx
   obtain⟨d3,t3,xs3,e4,hown⟩:=hx _ hl0
   cases e4
   obtain⟨v0,e0,l0,p1,p2,B0,p3,p4,p5⟩:=h.blocks id _ hl0
   obtain⟨hlim,hop⟩:=hop
   obtain⟨ea',kk,hr,hb⟩:=hown
   have hk:=qg p1 hr (hb.trans p2.symm) (Nat.le_refl _)
   rw[List.take_of_length_le (by rw[p3.length];exact Nat.le_refl _)] at hk
   subst hk
   obtain⟨v',w',e',r1,r2,r3,r4⟩:=iE (P:=P) (ty:=o.type) w h1 hdu hdn hi_ hs hz hzs hr (c:=cc) hnl hsrc hAn hnr.one (by rw[hby];exact hlim) (by rw[hby];exact hpos)
   have hrow:=p3.append hnr
   obtain⟨q1,q2⟩:=h.sM k (id:=id) hidb (v0:=a.eval x) (xs++q.1) B0 (fun b hv=>⟨by rw[<-hb];exact hv,_,_,_,hl⟩) (fun b hb=>⟨p5 b hb,_,hl⟩) p4 r3 (by rw[List.length_append];exact r2) hrow r4
   exact⟨v',w',_,_,_,.inl (hexec r1),hop,q1,q2⟩
  ·exact hop.elim
 | false=>
 rw[hdy] at hop
 simp only[cond_false] at hop
 cases hmb:jJ base (eval s.env y).refs with
 | true=>rw[hmb] at hop;exact hop.elim
 | false=>
 rw[hmb] at hop
 simp only[cond_false] at hop
 obtain⟨ys,hys,hop⟩:=aJ hop
 obtain⟨A,cc,news,e2,hnl,hnr,hsrc,hAn⟩:=(h.vb hy hys hdy hmb).src
 rw[e2] at hexec
 split at hop
 ·rename_i e3
  rw[e3] at hx
  simp only[ak] at hx
  rw[hx] at hexec
  obtain⟨hlim,hop⟩:=hop
  obtain⟨v',w',e',r1,r2,r3,r4⟩:=iE (P:=P) (ty:=o.type) w h1 hdu hdn hi_ hs hz hzs (World.jD w 0 0 t'.size) (c:=cc) hnl hsrc hAn hnr.one (by rw[hby];simpa using hlim) (by rw[hby];exact hpos)
  simp only[Nat.zero_add,List.nil_append] at r2
  obtain⟨q1,q2⟩:=h.uO (id:=Nat.add (o.dst.getD 0) C.off) hd (v0:=.slice none 0 0) ys (by simp[Value.ownBlock]) r3 r2 hnr r4
  exact⟨v',w',_,_,_,.inl (hexec r1),hop,q1,q2⟩
 ·rename_i id cut e3
  rw[e3] at hx
  split at hop
  case h_2=>exact hop.elim
  rename_i t2 xs hl
  split at hop
  case h_2=>exact hop.elim
  rename_i hh _
  cases hh
  rcases aZ id base with⟨_,hb⟩ | ⟨hidb,hb⟩
  ·rw[hb] at hop;exact hop.elim
  rw[hb] at hop
  simp only[cond_false] at hop
  simp only[ak] at hx
  obtain⟨d3,t3,xs3,e4,hown⟩:=hx _ hl
  cases e4
  obtain⟨v0,e0,l0,p1,p2,p3,_⟩:=h.blocks id _ hl
  have hcc:∀(v:Value),v.ownBlock=φ id->∀b,v.ownBlock=some b->φ id=some b/\∃d t xs,lookup s.hp id=some (.arr d t xs):=
   fun v hv b hb=>⟨by rw[<-hv];exact hb,_,_,_,hl⟩
  split at hop
  ·obtain⟨hlim,hop⟩:=hop
   obtain⟨ea',k,hr,hb⟩:=hown
   have hk:=qg p1 hr (hb.trans p2.symm) (Nat.le_refl _)
   rw[List.take_of_length_le (by rw[p3.length];exact Nat.le_refl _)] at hk
   subst hk
   obtain⟨v',w',e',r1,r2,r3,r4⟩:=iE (P:=P) (ty:=o.type) w h1 hdu hdn hi_ hs hz hzs hr (c:=cc) hnl hsrc hAn hnr.one (by rw[hby];exact hlim) (by rw[hby];exact hpos)
   have hrow:=p3.append hnr
   obtain⟨q1,q2⟩:=h.uO (id:=id) hidb (v0:=a.eval x) (xs++ys) (hcc _ hb) r3 (by rw[List.length_append];exact r2) hrow r4
   exact⟨v',w',_,_,_,.inl (hexec r1),hop,q1,q2⟩
  ·rename_i lo hi
   obtain⟨rfl,hlim,hop⟩:=hop
   obtain⟨g1,g2,g3,A2,c2,e5,_,g4,_⟩:=hown
   obtain⟨ea',k,hr,hb⟩:=g4 rfl
   have hle:hi.toNat<=xs.length:=by omega
   have hk:=qg p1 hr (hb.trans p2.symm) hle
   have htk:=p3.take hi.toNat
   rw[<-hk] at htk
   have hlen:(xs.take hi.toNat).length=hi.toNat:=by rw[List.length_take];omega
   obtain⟨v',w',e',r1,r2,r3,r4⟩:=iE (P:=P) (ty:=o.type) w h1 hdu hdn hi_ hs hz hzs hr (c:=cc) hnl hsrc hAn hnr.one (by rw[hby];exact hlim) (by rw[hby];exact hpos)
   have hrow:=htk.append hnr
   obtain⟨q1,q2⟩:=h.uO (id:=id) hidb (v0:=a.eval x) (xs.take hi.toNat++ys) (hcc _ hb) r3 (by rw[List.length_append,hlen];exact r2) hrow r4
   exact⟨v',w',_,_,_,.inl (hexec r1),hop,q1,q2⟩
 ·exact hop.elim
end
end Go.AE
