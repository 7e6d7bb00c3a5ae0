/- The operations, one by one: new blocks and stores. Fourth part. -/
import Derived.Test.YtmkgiaecgkicoaaGreatAeOpC
import Derived.Great.BuildSlice
import Derived.Laws.IdiomStrings
import Derived.Laws.BytesString
namespace Go.AE
open Go Go.RowKit
section
variable {P:Program} {C:Ctx} {g:Gl} {N:Nat} {o:Oper} {s:St} {a:Act} {w:World} {φ:Names} {K:AV->St->Prop}
theorem qe {w:World} {I S:Nat->Prop} {φ:Names} {hp:Hp}:∀{t:Ty} {x:t.D} {cs:List Value},Rep w I t x cs->ax w I S φ hp (spread t x) cs:=by
 intro t
 have app:∀{l k:List AV} {vs us:List Value},ax w I S φ hp l vs->ax w I S φ hp k us->ax w I S φ hp (l++k) (vs++us):=by
  intro l
  induction l with
  | nil=>intro k vs us h h';simp only[ax] at h;subst h;exact h'
  | cons b l ih=>
   intro k vs us h h'
   simp only[ax] at h
   obtain⟨v,vs',rfl,h1,h2⟩:=h
   simp only[List.cons_append,ax]
   exact⟨v,_,rfl,h1,ih h2 h'⟩
 induction t with
 | unit=>rintro x cs rfl;simp[spread,ax]
 | pair p q ihp ihq=>rintro x cs ⟨c1,c2,rfl,h1,h2⟩;exact app (ihp h1) (ihq h2)
 | int k=>rintro x cs rfl;simp only[spread,ax];exact⟨_,[],rfl,cX ..,rfl⟩
 | bool=>rintro x cs rfl;simp only[spread,ax];exact⟨_,[],rfl,eg ..,rfl⟩
 | str=>rintro x cs rfl;simp only[spread,ax];exact⟨_,[],rfl,uS ..,rfl⟩
 | sl t _=>
  intro x cs h
  have h':=h
  obtain⟨A,c,rfl,_⟩:=h'
  simp only[spread,ax,ak]
  exact⟨_,[],rfl,⟨_,h,rfl⟩,rfl⟩
theorem xV {w:World} {I S:Nat->Prop} {φ:Names} {hp:Hp}:∀(t:Ty),ax w I S φ hp (jL t) (bq t):=by
 intro t
 have app:∀{l k:List AV} {vs us:List Value},ax w I S φ hp l vs->ax w I S φ hp k us->ax w I S φ hp (l++k) (vs++us):=by
  intro l
  induction l with
  | nil=>intro k vs us h h';simp only[ax] at h;subst h;exact h'
  | cons b l ih=>
   intro k vs us h h'
   simp only[ax] at h
   obtain⟨v,vs',rfl,h1,h2⟩:=h
   simp only[List.cons_append,ax]
   exact⟨v,_,rfl,h1,ih h2 h'⟩
 induction t with
 | unit=>simp[jL,bq,ax]
 | pair p q ihp ihq=>exact app ihp ihq
 | int k=>simp only[jL,bq,ax];exact⟨_,[],rfl,cX ..,rfl⟩
 | bool=>simp only[jL,bq,ax];exact⟨_,[],rfl,eg ..,rfl⟩
 | str=>simp only[jL,bq,ax];exact⟨_,[],rfl,uS ..,rfl⟩
 | sl t _=>simp only[jL,bq,ax];exact⟨_,[],rfl,by simp only[ak],rfl⟩
theorem uE (t:Ty):∀v∈bq t,v.oneCell'=true:=(nk default (fun _=>True) t).one
theorem dK (t:Ty):(bq t).length=t.size:=(nk default (fun _=>True) t).length
theorem ew (w:World) (o:Obj):Turn w (w.alloc o) none:=
 ⟨rfl,rfl,rfl,by simp,fun b hb _=>heap_alloc_old w o b hb⟩
theorem Sim.CQ (h:Sim g N s a w φ) (id:Nat) (hid:id≠base) (cs:List AV) (vs:Array Value) (e:TypeId) (h1:∀v∈vs.toList,v.oneCell'=true)
  (hvs:∀I' φ' hp',LaterX id w (w.alloc (.cells vs e)) (imm g φ s.hp w.heap.size) I' (aM g) (aM g) φ φ' s.hp hp'->ax (w.alloc (.cells vs e)) I' (aM g) φ' hp' cs vs.toList) :
  Sim g N (s.create id (.box cs)) a (w.alloc (.cells vs e)) (lX φ id (some w.heap.size)) ∧
  ak (w.alloc (.cells vs e)) (imm g (lX φ id (some w.heap.size)) (s.create id (.box cs)).hp (w.alloc (.cells vs e)).heap.size) (aM g) (lX φ id (some w.heap.size)) (s.create id (.box cs)).hp
   (.ptr id 0) (.pointer (some ⟨w.heap.size,0,none⟩)):=by
 refine⟨h.create hid (ew w _) (by simp) (fun b hb=>by cases hb;exact⟨by simp,.inl (Nat.le_refl _)⟩) (fun L=>⟨⟨w.heap.size,vs,e,rfl,heap_alloc_new w _,hvs _ _ _ L,h1⟩,rfl⟩),?_⟩
 simp only[ak]
 exact fun _ _=>⟨w.heap.size,by simp[lX,bp],rfl⟩
theorem Gn (w:World) {t:Ty} {n:Nat} {l:List Value} {e:TypeId} (hl:l.length=n * t.size) (hm:n<=maxLen) :
  (w.alloc (.cells l.toArray e)).rowOf 0 e t.size (.slice (some ⟨w.heap.size,0,none⟩) n n) n l:=by
 refine⟨hl,.inr ⟨w.heap.size,n,l.toArray,rfl,Nat.zero_le _,heap_alloc_new w _,Nat.le_refl _,hm,by simp[hl],?_⟩⟩
 rw[<-hl]
 simp
theorem Sim.II (h:Sim g N s a w φ) (id:Nat) (hid:id≠base) (t:Ty) (xs:List t.D) (l:List Value) (e:TypeId) (hl:cK (Rep w (imm g φ s.hp w.heap.size) t) xs l) (hm:xs.length<=maxLen) :
  Sim g N (s.create id (.arr .sh t xs)) a (w.alloc (.cells l.toArray e)) (lX φ id (some w.heap.size)) ∧
  ak (w.alloc (.cells l.toArray e)) (imm g (lX φ id (some w.heap.size)) (s.create id (.arr .sh t xs)).hp (w.alloc (.cells l.toArray e)).heap.size) (aM g) (lX φ id (some w.heap.size)) (s.create id (.arr .sh t xs)).hp
   (.own id none) (.slice (some ⟨w.heap.size,0,none⟩) xs.length xs.length):=by
 have hown:=Gn w (e:=e) hl.length hm
 refine⟨h.create hid (ew w _) (by simp) (fun b hb=>by cases hb;exact⟨by simp,.inl (Nat.le_refl _)⟩) (fun L=>⟨_,e,l,hown,rfl,hl.mono' L.imm L.immSame,rfl⟩),?_⟩
 simp only[ak]
 intro blk hb
 simp only[St.create,lookup_cons,if_true] at hb
 cases hb
 exact⟨.sh,t,xs,rfl,e,l,hown,by simp[lX,bp,Value.ownBlock]⟩
theorem Sim.FO (h:Sim g N s a w φ) {s1:St} {B:List Nat} (k:Handed s s1 φ B) (id:Nat) (hid:id≠base) (t:Ty) (xs:List t.D) (l:List Value) (e:TypeId) (hl:bG (Tree w t) xs l B) (hm:xs.length<=maxLen) :
  Sim g N (s1.create id (.arr .dp t xs)) a (w.alloc (.cells l.toArray e)) (bp φ id (some w.heap.size) B) ∧
  ak (w.alloc (.cells l.toArray e)) (imm g (bp φ id (some w.heap.size) B) (s1.create id (.arr .dp t xs)).hp (w.alloc (.cells l.toArray e)).heap.size) (aM g) (bp φ id (some w.heap.size) B) (s1.create id (.arr .dp t xs)).hp
   (.own id none) (.slice (some ⟨w.heap.size,0,none⟩) xs.length xs.length):=by
 have hown:=Gn w (e:=e) hl.length hm
 have hle:=k.le h
 refine⟨h.nZ ⟨k.env,k.fH⟩ hid (ew w _).p (fun b hb=>by cases hb) (fun b hb=>?_) (fun b hb hin=>by cases hb;exact absurd (hle _ hin).1 (Nat.lt_irrefl _)) (fun L=>⟨_,e,l,hown,rfl,B,?_,k.nodup,fun _ h=>h⟩),?_⟩
 ·rcases hb with hb | hb
  ·cases hb
   exact⟨by simp,.inl h.hsize,.inl (Nat.le_refl _)⟩
  ·obtain⟨q1,q2⟩:=hle b hb
   obtain⟨j,blk,r1,r2,r3,_⟩:=k.owner b hb
   exact⟨by simp;omega,q2,.inr ⟨j,blk,r1,r2,.inr r3⟩⟩
 ·exact hl.frame (fun b hb=>heap_alloc_old w _ b (hle b hb).1)
 simp only[ak]
 intro blk hb
 simp only[St.create,lookup_cons,if_true] at hb
 cases hb
 exact⟨.dp,t,xs,rfl,e,l,hown,by simp[bp,Value.ownBlock]⟩
theorem EN (w:World) (C:Array Value) (t:TypeId) (fr:Nat×Nat) (j:Nat):(w.alloc (.cells C t fr)).cell? ⟨w.heap.size,j,none⟩=C[j]?:=by
 simp only[World.cell?]
 rw[heap_alloc_new]
 simp
theorem zG (w:World) (I:Nat->Prop):∀l:List UInt8,cK (Rep w I (.int .u8)) (l.map fun b=>(b.toNat:Int)) (l.map fun b=>Value.int .u8 (b.toNat:Int))
 | []=>rfl
 | b::l=>⟨[Value.int .u8 (b.toNat:Int)],_,rfl,rfl,zG w I l⟩
theorem Kc (hT:TabOk P C) {e:TypeId} (h3:C.tab.ty e=some (.int .u8)):P.underlying e=some (.int .u8):=by
 unfold Tab.ty at h3
 split at h3
 ·rename_i ti hti
  obtain⟨td,sz,by_⟩:=ti
  cases td with
  | val t=>
   simp only[TD.ty,Option.some.injEq] at h3
   subst h3
   exact hT.int _ _ _ _ hti
  | sl e' t=>simp[TD.ty] at h3
  | st fs t=>
   simp only[TD.ty,Option.some.injEq] at h3
   subst h3
   obtain⟨fields,q1,_⟩:=hT.st _ _ _ _ _ hti
   obtain⟨d,hd,he⟩:=(hT.ty e (.int .u8) (by unfold Tab.ty;rw[hti];rfl)).desc
   rw[q1] at hd
   cases hd
   simp[mF,Ty.agg] at he
  | mp k e' t=>simp[TD.ty] at h3
  | ptr e'=>simp[TD.ty] at h3
  | other=>simp[TD.ty] at h3
 ·cases h3
theorem foldl_push (xs:List Int) (s:ByteArray):xs.foldl (fun r n=>r.push (UInt8.ofNat n.toNat)) s=⟨s.data++(xs.map fun n=>UInt8.ofNat n.toNat).toArray⟩:=by
 induction xs generalizing s with
 | nil=>simp
 | cons n xs ih=>
  rw[List.foldl_cons,ih]
  simp[ByteArray.push]
theorem FR {I:Nat->Prop}:∀{xs:List Int} {l:List Value},cK (Rep w I (.int .u8)) xs l->l=xs.map (Value.int .u8)
 | [],_,h=>h
 | x::xs,_,⟨c1,c2,e,h1,h2⟩=>by
  have h1:c1=[.int .u8 x]:=h1
  subst h1
  rw[e,FR h2]
  rfl
theorem Fu (hT:TabOk P C) (h:Sim g N s a w φ) {src dst:TypeId} {x:Operand} (ho:o.op=.convert src dst x) (hop:opW C o s K):nN P g N o a w K:=by
 have hx:=h.eval x
 simp only[opW,ho] at hop
 unfold Kk at hop
 split at hop
 ·rename_i k1 _ _ k2 _ _ e1 e2
  split at hop
  ·rename_i k' n e3
   rw[e3] at hx
   have hx:=jh hx
   have h1:=hT.int _ _ _ _ e1
   have h2:=hT.int _ _ _ _ e2
   refine cq.Im (cq.same h (u:=.int k2 (k2.wrap n)) (fun w' _=>by simp[execOp,ho,hx,convert,run_underlying h1,run_underlying h2,Conv.intToInt]) hop ?_)
   rw[mW]
   exact cX ..
  ·exact hop.elim
 ·rename_i e _ _ e1 e2
  split at hop
  ·rename_i b e3
   rw[e3] at hx
   have hx:=pP hx
   have h1:=hT.str _ _ _ e1
   obtain⟨h2,h3⟩:=hT.sl _ _ _ _ _ e2
   have h4:=Kc hT h3
   have hrun:=run_bytes_of_string (P:=P) w src dst e b h1 h2 h4
   have hsz:w.heap.size<=(w.drew.alloc (.cells (bytesRow b (grownCap w b.size 0 e)) e ((bytesRow b (grownCap w b.size 0 e)).size,(bytesRow b (grownCap w b.size 0 e)).size+1))).heap.size:=by
    show w.heap.size<=(w.heap.push _).size
    simp
   have hlt:w.heap.size<(w.drew.alloc (.cells (bytesRow b (grownCap w b.size 0 e)) e ((bytesRow b (grownCap w b.size 0 e)).size,(bytesRow b (grownCap w b.size 0 e)).size+1))).heap.size:=by
    show w.heap.size<(w.heap.push _).size
    simp
   have hturn:Turn w (w.drew.alloc (.cells (bytesRow b (grownCap w b.size 0 e)) e ((bytesRow b (grownCap w b.size 0 e)).size,(bytesRow b (grownCap w b.size 0 e)).size+1))) none:=
    ⟨rfl,rfl,rfl,hsz,fun k hk _=>heap_alloc_old w.drew _ k hk⟩
   refine⟨_,_,_,s,φ,.inl (by simp only[execOp,ho,hx,Sem.run_bind,hrun,Result.andThen_ok];rfl),hop,h.grow hturn,?_,hturn⟩
   simp only[ak]
   have hlen:(cj b).length=b.size:=by simp[cj]
   refine dj.data ⟨some ⟨w.heap.size,0,none⟩,grownCap w b.size 0 e,by rw[hlen],by rw[hlen];exact grownCap_ge ..,.inr ⟨w.heap.size,0,b.data.toList.map (fun b=>Value.int .u8 (b.toNat:Int)),rfl,?_,?_,zG ..⟩⟩
   ·refine⟨.inr h.hsize,hlt,fun id blk hl hφ=>?_⟩
    have:=(h.place id blk _ hl hφ).1
    exact absurd this (Nat.lt_irrefl _)
   ·intro j v hj
    have hm:=EN w.drew (bytesRow b (grownCap w b.size 0 e)) e ((bytesRow b (grownCap w b.size 0 e)).size,(bytesRow b (grownCap w b.size 0 e)).size+1) (0+j)
    have e0:w.drew.heap.size=w.heap.size:=rfl
    rw[e0] at hm
    rw[hm,Nat.zero_add]
    have hjl:j<b.data.toList.length:=by
     have:=(List.getElem?_eq_some_iff.1 hj).1
     simpa using this
    unfold bytesRow
    rw[Array.getElem?_append_left (by simpa using hjl)]
    rw[List.getElem?_map] at hj
    simpa using hj
  ·exact hop.elim
 ·rename_i e _ _ _ _ e1 e2
  cases hb:((eval s.env x).deep s.hp||jJ base (eval s.env x).refs) with
  | true=>rw[hb] at hop;exact hop.elim
  | false=>
  rw[hb] at hop
  simp only[cond_false] at hop
  obtain⟨hb1,hb2⟩:=Bool.or_eq_false_iff.1 hb
  obtain⟨xs,hxs,hop⟩:=aJ hop
  obtain⟨h1,h3⟩:=hT.sl _ _ _ _ _ e1
  have h4:=Kc hT h3
  have h2:=hT.str _ _ _ e2
  obtain⟨A,c,e5,hc,hz⟩:=h.vb hx hxs hb1 hb2
  refine cq.Im (cq.same h (u:=.string (strOf xs)) (fun w' ht=>?_) hop (uS ..))
  have hrun:(convert src dst (a.eval x)).run P w'=.ok (.string (strOf xs)) w':=by
   rw[e5,run_convert_bytes_string w' src dst e A _ c h1 h4 h2]
   rcases hz with rfl | ⟨b,o',l,rfl,hw,hcs,hl⟩
   ·cases A with
    | none=>simp[Conv.bytesToString,strOf];rfl
    | some ad=>
     have:=run_bytesToString (P:=P) w' ad 0 c [] (by simp[loadCells,loadCellsFrom])
     exact this
   ·have hll:=FR hl
    subst hll
    have hlt:b<w.heap.size:=by
     rcases hw with q | q | ⟨j,d,t',ys,q1,q2,_⟩
     ·exact q.2.1
     ·exact h.mu q
     ·exact(h.place j _ b q1 (.inl q2)).1
    have hcs':=gw ht hlt hcs
    rw[run_bytesToString (P:=P) w' ⟨b,o',none⟩ xs.length c xs (by
     have:=run_loadCells_list (P:=P) w' ⟨b,o',none⟩ (xs.map (Value.int .u8)) (fun j v hj=>by rw[iq];exact hcs' j v hj)
     simpa using this),foldl_push]
    simp[strOf,ByteArray.empty,ByteArray.emptyWithCapacity]
    rfl
  simp only[execOp,ho,Sem.run_bind,hrun,Result.andThen_ok]
  rfl
 ·exact hop.elim
theorem Ib (hT:TabOk P C) (h:Sim g N s a w φ) (hd:Nat.add (o.dst.getD 0) C.off≠base) {e:TypeId} (ho:o.op=.alloc e) (hop:opW C o s K):nN P g N o a w K:=by
 simp only[opW,ho] at hop
 obtain⟨t,ht,hop⟩:=aJ hop
 have hf:=hT.ty _ _ ht
 obtain⟨i,z,hi,hs,hz,hzc⟩:=hf.info
 have hz':z.cells=(bq t).toArray:=by rw[<-hzc]
 obtain⟨h1,h2⟩:=h.CQ (Nat.add (o.dst.getD 0) C.off) hd (jL t) (bq t).toArray e (by simpa using uE t) (fun I' φ' hp' _=>by simpa using xV t)
 refine⟨_,_,_,_,_,.inl ?_,hop,h1,h2,ew w _⟩
 simp[execOp,ho,Instr.alloc,zeroValue,typeInfo,hi,hz,newVar,newRow,hz']
theorem CM {v:AV} {u:Value} (hv:ak w (imm g φ s.hp w.heap.size) (aM g) φ s.hp v u) (h1:v.one s.hp=true):u.oneCell'=true:=by
 unfold AV.one at h1
 split at h1
 ·rename_i t x
  simp only[ak] at hv
  obtain⟨cs,hr,rfl⟩:=hv
  have ha:t.agg=false:=by simpa using h1
  have hl:=hr.length
  rw[ep t ha] at hl
  match cs,hl with
  | [c],_=>
   have:=hr.one c (by simp)
   simpa [mkv,ha] using this
 ·simp only[ak] at hv
  rw[hv];exact h1
 ·simp only[ak] at hv
  obtain⟨b,o,cs,rfl,_⟩:=hv
  rfl
 ·split at h1
  ·rename_i hl
   simp only[ak] at hv
   obtain⟨b,_,rfl⟩:=hv _ hl
   rfl
  ·cases h1
 ·split at h1
  ·rename_i hl
   simp only[ak] at hv
   obtain⟨d,t,xs,e,ho⟩:=hv _ hl
   rename_i cut _ _ _ _
   cases cut with
   | none=>obtain⟨A,c,rfl,_⟩:=ho.shape;rfl
   | some p=>obtain⟨_,_,_,A,c,rfl,_⟩:=ho;rfl
  ·cases h1
 ·split at h1
  ·rename_i hl
   simp only[ak] at hv
   obtain⟨d,t,xs,e,hown⟩:=hv _ hl
   obtain⟨_,_,A,c,rfl,_⟩:=hown.look
   rfl
  ·cases h1
 ·simp only[ak] at hv
  obtain⟨vs,rfl,_⟩:=hv
  rfl
 ·simp only[ak] at hv
  obtain⟨A,c,rfl,_⟩:=hv
  rfl
 ·simp only[ak] at hv
  obtain⟨b,of,uv,rfl,_⟩:=hv
  rfl
 ·cases h1
theorem GS {u:Value} (h:u.oneCell'=true):u.cells=#[u]:=by cases u<;>first | rfl | cases h
theorem Ks (h:Sim g N s a w φ) (hd:Nat.add (o.dst.getD 0) C.off≠base) {e:TypeId} {x:Operand} (ho:o.op=.box e x) (hop:opW C o s K):nN P g N o a w K:=by
 have hx:=h.eval x
 simp only[opW,ho] at hop
 unfold Lo at hop
 obtain⟨t,ht,hop⟩:=aJ hop
 have hexec:(execOp a.eval o).run P w=.ok (.value (.pointer (some ⟨w.heap.size,0,none⟩))) (w.alloc (.cells (a.eval x).cells e)):=by
  simp[execOp,ho,Instr.box,newVar,newRow]
 cases ha:t.agg with
 | true=>
  simp only[ha,cond_true] at hop
  split at hop
  ·rename_i u vs hq
   split at hop
   case h_2=>exact hop.elim
   rename_i hh _
   have hh:=hh.down
   subst hh
   have hv:eval s.env x=.agg u vs:=by
    cases hb:Nat.ble 900000 C.off with
    | true=>rw[hb] at hq;exact hq
    | false=>rw[hb] at hq;cases hq
   rw[hv] at hx
   simp only[ak] at hx
   obtain⟨us,e4,_,hone,hr⟩:=hx
   have hc:(a.eval x).cells=us.toArray:=by rw[e4];simp[mkv,ha,Value.cells]
   rw[hc] at hexec
   obtain⟨h1,h2⟩:=h.CQ (Nat.add (o.dst.getD 0) C.off) hd (AV.fO (Nat.add (o.dst.getD 0) C.off) vs) us.toArray e (by simpa using hone) (fun I' φ' hp' L=>by simpa using ax.jv L _ _ hr)
   exact⟨_,_,_,_,_,.inl hexec,hop,h1,h2,ew w _⟩
  obtain⟨y,hy,hop⟩:=aJ hop
  obtain⟨hg,cs,hr,e4⟩:=h.iT hx (show s.iT t (eval s.env x)=some (y.1,y.2) from hy)
  have hc:(a.eval x).cells=cs.toArray:=by rw[e4];simp[mkv,ha,Value.cells]
  rw[hc] at hexec
  obtain⟨h1,h2⟩:=hg.CQ (Nat.add (o.dst.getD 0) C.off) hd (spread t y.1) cs.toArray e (by simpa using hr.one) (fun I' φ' hp' L=>by simpa using qe (hr.mono L.imm L.immSame))
  exact⟨_,_,_,_,_,.inl hexec,hop,h1,h2,ew w _⟩
 | false=>
  simp only[ha,cond_false] at hop
  cases h1:(eval s.env x).one s.hp with
  | false=>simp[h1] at hop
  | true=>
   simp only[h1,cond_true] at hop
   have hone:=CM hx h1
   rw[GS hone] at hexec
   obtain⟨h1,h2⟩:=h.CQ (Nat.add (o.dst.getD 0) C.off) hd [AV.kill (Nat.add (o.dst.getD 0) C.off) (eval s.env x)] #[a.eval x] e (by simpa using hone)
    (fun I' φ' hp' L=>by simp only[ax];exact⟨_,[],rfl,ak.jv L _ _ hx,rfl⟩)
   exact⟨_,_,_,_,_,.inl hexec,hop,h1,h2,ew w _⟩
theorem qw {s s':St} {t:Ty} {v:AV} {x:t.D} (hx:s.iT t v=some (x,s')) :
  Later w w (imm g φ s.hp w.heap.size) (imm g φ s'.hp w.heap.size) (aM g) (aM g) φ φ s.hp s'.hp:=(BS hx).later (fun _ h=>h)
theorem Later.trans' {w:World} {I I' I'' S:Nat->Prop} {φ:Names} {hp hp' hp'':Hp} (h:Later w w I I' S S φ φ hp hp') (k:Later w w I' I'' S S φ φ hp' hp''):Later w w I I'' S S φ φ hp hp'':=by
 refine⟨fun b hb=>k.imm b (h.imm b hb),fun _ _ _=>rfl,fun _ h=>h,fun _ _ _=>rfl,fun i blk' hi=>?_⟩
 obtain⟨b1,h1,e1,q1,_⟩:=k.names i blk' hi
 obtain⟨b0,h0,e0,q0,_⟩:=h.names i b1 h1
 refine⟨b0,h0,rfl,fun d t xs e=>?_,fun _ _ _=>rfl⟩
 obtain⟨d1,xs1,e2,l1⟩:=q0 d t xs e
 obtain⟨d2,xs2,e3,l2⟩:=q1 d1 t xs1 e2
 exact⟨d2,xs2,e3,l2.trans l1⟩
theorem tn {t:Ty}:∀{parts:List (Nat×Operand)} {n:Nat} {s1 s2:St} {xs:List t.D},mB t n parts s1=some (xs,s2) →
  Later w w (imm g φ s1.hp w.heap.size) (imm g φ s2.hp w.heap.size) (aM g) (aM g) φ φ s1.hp s2.hp
 | [],n,s1,s2,xs,h=>by
  simp only[mB,Option.some.injEq,Prod.mk.injEq] at h
  obtain⟨rfl,rfl⟩:=h
  exact⟨fun _ h=>h,fun _ _ _=>rfl,fun _ h=>h,fun _ _ _=>rfl,fun i blk' hi=>⟨blk',hi,rfl,fun d t xs e=>⟨d,xs,e,rfl⟩,fun _ _ _=>rfl⟩⟩
 | (i,x)::parts,n,s1,s2,xs,h=>by
  unfold mB at h
  rcases aZ i n with⟨_,hb⟩ | ⟨_,hb⟩
  ·rw[hb] at h
   simp only[cond_true] at h
   split at h
   ·rename_i y s1' hy
    split at h
    ·rename_i ys s2' hys
     simp only[Option.some.injEq,Prod.mk.injEq] at h
     obtain⟨rfl,rfl⟩:=h
     exact(qw hy).trans' (tn hys)
    ·cases h
   ·cases h
  ·rw[hb] at h
   cases h
theorem xX {t:Ty}:∀{parts:List (Nat×Operand)} {n:Nat} {s1 s2:St} {xs:List t.D},Sim g N s1 a w φ->mB t n parts s1=some (xs,s2) →
  Sim g N s2 a w φ ∧
  ∃css:List (List Value),parts.map (fun p=>(p.1,a.eval p.2))=((css.map (mkv t)).zipIdx n).map (fun x=>(x.2,x.1))/\css.length=xs.length/\(∀c∈css,c.length=t.size/\∀v∈c,v.oneCell'=true) ∧
   cK (Rep w (imm g φ s2.hp w.heap.size) t) xs css.flatten
 | [],n,s1,s2,xs,h1,h=>by
  simp only[mB,Option.some.injEq,Prod.mk.injEq] at h
  obtain⟨rfl,rfl⟩:=h
  exact⟨h1,[],rfl,rfl,by simp,rfl⟩
 | (i,x)::parts,n,s1,s2,xs,h1,h=>by
  unfold mB at h
  rcases aZ i n with⟨hin,hb⟩ | ⟨_,hb⟩
  ·rw[hb] at h
   simp only[cond_true] at h
   split at h
   ·rename_i y s1' hy
    split at h
    ·rename_i ys s2' hys
     simp only[Option.some.injEq,Prod.mk.injEq] at h
     obtain⟨rfl,rfl⟩:=h
     obtain⟨g1,cs,hr,e1⟩:=h1.iT (h1.eval x) hy
     obtain⟨q1,css,q3,q4,q5,q6⟩:=xX g1 hys
     have L2:Later w w (imm g φ s1'.hp w.heap.size) (imm g φ s2'.hp w.heap.size) (aM g) (aM g) φ φ s1'.hp s2'.hp:=tn hys
     refine⟨q1,cs::css,?_,by simp[q4],?_,?_⟩
     ·simp only[List.map_cons,List.zipIdx_cons,q3,e1,hin]
     ·intro c hc
      rcases List.mem_cons.1 hc with rfl | hc
      ·exact⟨hr.length,hr.one⟩
      ·exact q5 c hc
     ·exact⟨cs,css.flatten,by simp,hr.mono L2.imm L2.immSame,q6⟩
    ·cases h
   ·cases h
  ·rw[hb] at h
   cases h
theorem tu {t:Ty}:∀{css:List (List Value)},(∀c∈css,c.length=t.size/\∀v∈c,v.oneCell'=true)->((css.map (mkv t)).flatMap fun v=>v.cells.toList)=css.flatten
 | [],_=>rfl
 | c::css,h=>by
  have hc:=h c (by simp)
  simp only[List.map_cons,List.flatMap_cons,List.flatten_cons]
  rw[pX hc.1 hc.2 (ep t),tu (fun c hc=>h c (by simp[hc]))]
theorem tv {t:Ty}:∀{parts:List (Nat×Operand)} {n:Nat} {s1 s2:St} {xs:List t.D},Sim g N s1 a w φ->jB t n parts s1=some (xs,s2) →
  ∃(css:List (List Value)) (B:List Nat),Handed s1 s2 φ B/\parts.map (fun p=>(p.1,a.eval p.2))=((css.map (mkv t)).zipIdx n).map (fun x=>(x.2,x.1))/\css.length=xs.length/\(∀c∈css,c.length=t.size/\∀v∈c,v.oneCell'=true) ∧
   bG (Tree w t) xs css.flatten B
 | [],n,s1,s2,xs,h1,h=>by
  simp only[jB,Option.some.injEq,Prod.mk.injEq] at h
  obtain⟨rfl,rfl⟩:=h
  exact⟨[],[],Handed.refl _ φ,rfl,rfl,by simp,rfl,rfl⟩
 | (i,x)::parts,n,s1,s2,xs,h1,h=>by
  unfold jB at h
  rcases aZ i n with⟨hin,hb⟩ | ⟨_,hb⟩
  ·rw[hb] at h
   simp only[cond_true] at h
   split at h
   ·rename_i y s1' hy
    split at h
    ·rename_i ys s2' hys
     simp only[Option.some.injEq,Prod.mk.injEq] at h
     obtain⟨rfl,rfl⟩:=h
     obtain⟨B,cs,k1,hr,e1⟩:=Ad h1 (h1.eval x) hy
     obtain⟨css,E,k2,q3,q4,q5,q6⟩:=tv (k1.sim h1) hys
     refine⟨cs::css,B++E,k1.trans h1 k2,?_,by simp[q4],?_,?_⟩
     ·simp only[List.map_cons,List.zipIdx_cons,q3,e1,hin]
     ·intro c hc
      rcases List.mem_cons.1 hc with rfl | hc
      ·exact⟨hr.length,hr.one⟩
      ·exact q5 c hc
     ·exact⟨cs,css.flatten,B,E,by simp,rfl,hr,q6⟩
    ·cases h
   ·cases h
  ·rw[hb] at h
   cases h
theorem Bc (hT:TabOk P C) (h:Sim g N s a w φ) (hd:Nat.add (o.dst.getD 0) C.off≠base) {ty:TypeId} {len:Nat} {parts:Array (Nat×Operand)} (ho:o.op=.buildSlice ty len parts) (hop:opW C o s K):nN P g N o a w K:=by
 simp only[opW,ho] at hop
 split at hop
 case h_2=>exact hop.elim
 rename_i e t _ _ e1
 obtain⟨h1,h2⟩:=hT.sl _ _ _ _ _ e1
 have hf:=hT.ty _ _ h2
 obtain⟨i,z,hi,hs,hz,hzc⟩:=hf.info
 cases hb:(Nat.beq len parts.toList.length&&Nat.ble (len * t.size) 16777216) with
 | true=>
  simp only[hb,cond_true] at hop
  obtain⟨hb1,hb2⟩:=Bool.and_eq_true_iff.1 hb
  have hl:len=parts.toList.length:=Nat.eq_of_beq_eq_true hb1
  have hle:len * t.size<=16777216:=Nat.le_of_ble_eq_true hb2
  have hlm:len<=maxLen:=by
   have h3:len<=len * t.size:=Nat.le_mul_of_pos_right _ hf.pos
   unfold maxLen
   omega
  have main:∀{css:List (List Value)} {n:Nat},parts.toList.map (fun p=>(p.1,a.eval p.2))=((css.map (mkv t)).zipIdx 0).map (fun x=>(x.2,x.1))->css.length=n->(∀c∈css,c.length=t.size/\∀v∈c,v.oneCell'=true) →
    n=len/\(execOp a.eval o).run P w=.ok (.value (.slice (some ⟨w.heap.size,0,none⟩) n n)) (w.alloc (.cells css.flatten.toArray e)):=by
   intro css n q3 q4 q5
   have hpl:parts.toList.length=css.length:=by
    have:=congrArg List.length q3
    simpa using this
   have hlen':len=n:=by omega
   refine⟨hlen'.symm,?_⟩
   rw[<-hlen']
   have hsz:∀v∈css.map (mkv t),v.cells.size=t.size:=by
    intro v hv
    obtain⟨c,hc,rfl⟩:=List.mem_map.1 hv
    rw[pX (q5 c hc).1 (q5 c hc).2 (ep t)]
    simpa using (q5 c hc).1
   have hparts:(parts.map fun(i,x)=>(i,a.eval x)).toList=((css.map (mkv t)).zipIdx 0).map fun x=>(x.2,x.1):=by
    rw[Array.toList_map]
    exact q3
   have hzs:z.cells.size=t.size:=by
    have:=congrArg List.length hzc
    rw[dK] at this
    simpa using this
   by_cases h0:len=0
   ·have hc0:css=[]:=List.eq_nil_of_length_eq_zero (by omega)
    subst hc0
    subst h0
    simp only[execOp,ho,Instr.buildSlice,Sem.run_bind,run_underlying h1,Result.andThen_ok,pL hf]
    rw[hparts]
    simp[Instr.fill,newRow,Array.range_zero']
   ·have hcl:css.length=len:=by omega
    have hpos:¬len * i.size=0:=by rw[hs];have:=hf.pos;intro hc;rcases Nat.mul_eq_zero.1 hc with hc | hc<;>omega
    have hsmall:¬len * i.size > 2 ^ 24:=by
     rw[hs]
     omega
    have hfill:=Great.fill_whole hf.pos (css.map (mkv t)) ((Array.range (len * i.size)).map (z.cells[· % z.cells.size]!)) hsz (by simp[hs,hcl])
    rw[tu q5,<-hparts] at hfill
    have:=run_buildSlice (P:=P) w ty e len (parts.map fun(i,x)=>(i,a.eval x)) css.flatten.toArray i z h1 hi hz hsmall hpos (by rw[hs];rw[hs] at hfill;exact hfill)
    simp only[execOp,ho,Sem.run_bind,this,Result.andThen_ok]
    rfl
  cases hdp:(C.deep&&(!t.flat&&(jB t 0 parts.toList s).isSome)) with
  | true=>
   rw[hdp] at hop
   simp only[cond_true] at hop
   obtain⟨y,hy,hop⟩:=aJ hop
   obtain⟨css,B,k1,q3,q4,q5,q6⟩:=tv h (show jB t 0 parts.toList s=some (y.1,y.2) from hy)
   obtain⟨hn,hrun⟩:=main q3 q4 q5
   obtain⟨r1,r2⟩:=h.FO k1 (Nat.add (o.dst.getD 0) C.off) hd t y.1 css.flatten e q6 (by rw[hn];exact hlm)
   exact⟨_,_,_,_,_,.inl hrun,hop,r1,r2,ew w _⟩
  | false=>
   rw[hdp] at hop
   simp only[cond_false] at hop
   obtain⟨y,hy,hop⟩:=aJ hop
   obtain⟨q1,css,q3,q4,q5,q6⟩:=xX h (show mB t 0 parts.toList s=some (y.1,y.2) from hy)
   obtain⟨hn,hrun⟩:=main q3 q4 q5
   obtain⟨r1,r2⟩:=q1.II (Nat.add (o.dst.getD 0) C.off) hd t y.1 css.flatten e q6 (by rw[hn];exact hlm)
   exact⟨_,_,_,_,_,.inl hrun,hop,r1,r2,ew w _⟩
 | false=>
  rw[hb] at hop
  exact hop.elim
end
end Go.AE
