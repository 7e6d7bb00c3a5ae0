/- What stands in a row of slices behind slices.Delete; an array without some of its elements. -/
import Derived.Test.YtmkgiaecgkicoaaGreatAeInl
import Derived.Sort.Row
import Derived.Test.YtmkgiaecgkicoaaGreatProg
import Derived.KernelRfl
import Derived.Shelf.RegionOpenPlain
import Derived.WalkKit
import Derived.Deep.LoopGhost
import Derived.Deep.RegionLaw
import Derived.Lib.Walk
import Derived.Sort.WalkB12
import Derived.Sort.EncStr
import Derived.Lib.SliceRun
import Derived.Lib.SlicesDelete
import Derived.OwnWalk
import Derived.Tactics
import Derived.Shelf.SlLaysN
section
namespace Go.AE
open Go Go.RowKit Go.Sort
variable {g:Gl} {N:Nat} {s:St} {a:Act} {w:World} {φ:Names}
theorem bG.split {w:World} {t:Ty}:∀(n:Nat) {xs:List t.D} {cs:List Value} {B:List Nat},bG (Tree w t) xs cs B->∃E F,B=E++F/\bG (Tree w t) (xs.take n) (cs.take (n * t.size)) E/\bG (Tree w t) (xs.drop n) (cs.drop (n * t.size)) F
 | 0,_,_,B,h=>⟨[],B,rfl,by simp[bG],by simpa using h⟩
 | n+1,[],_,_,⟨e,eB⟩=>⟨[],[],by rw[eB];rfl,by rw[e];simp[bG],by rw[e];simp[bG]⟩
 | n+1,x::xs,_,_,⟨c1,c2,B1,B2,e,eB,h1,h2⟩=>by
  subst e
  obtain⟨E,F,eE,h3,h4⟩:=bG.split n h2
  refine⟨B1++E,F,by rw[eB,eE,List.append_assoc],⟨c1,c2.take (n * t.size),B1,E,?_,rfl,h1,h3⟩,?_⟩
  ·rw[List.take_append,Nat.succ_mul,h1.length,List.take_of_length_le (by rw[h1.length];omega),show n * t.size+t.size-t.size=n * t.size by omega]
  ·have hd:c1.drop (n * t.size+t.size)=[]:=List.drop_of_length_le (by rw[h1.length];omega)
   rw[List.drop_succ_cons,Nat.succ_mul,List.drop_append,h1.length,hd,show n * t.size+t.size-t.size=n * t.size by omega,List.nil_append]
   exact h4
theorem bG.JC {w:World} {t:Ty} {xs:List t.D} {cs:List Value} {B:List Nat} (h:bG (Tree w t) xs cs B) (hn:B.Nodup) {i j:Nat} (hij:i<=j) :
  ∃E,bG (Tree w t) (xs.take i++xs.drop j) (cs.take (i * t.size)++cs.drop (j * t.size)) E/\E.Nodup/\∀b∈E,b∈B:=by
 obtain⟨E2,F2,e2,a2,b2⟩:=bG.split j h
 obtain⟨E1,F1,e1,a1,b1⟩:=bG.split i a2
 rw[List.take_take,List.take_take,Nat.min_eq_left hij,Nat.min_eq_left (Nat.mul_le_mul_right _ hij)] at a1
 refine⟨E1++F2,bG.append a1 b2,?_,fun b hb=>?_⟩
 ·rw[e2,e1] at hn
  exact hn.sublist ((List.sublist_append_left E1 F1).append (List.Sublist.refl F2))
 ·rw[e2,e1]
  rcases List.mem_append.1 hb with hb | hb
  ·exact List.mem_append.2 (.inl (List.mem_append.2 (.inl hb)))
  ·exact List.mem_append.2 (.inr hb)
theorem AT {w:World} {b:Nat} {f:Array Value->Array Value} {cur:Array Value} {e:TypeId} {fr:Nat×Nat} (h:w.heap[b]? = some (.cells cur e fr)):(Go.Sort.mapBlock w b f).heap[b]? = some (.cells (f cur) e fr):=by
 unfold Go.Sort.mapBlock
 simp only[Array.getElem?_modify,if_true,h]
 rfl
theorem AJ {w:World} {b k:Nat} {f:Array Value->Array Value} (h:b≠k):(Go.Sort.mapBlock w b f).heap[k]? = w.heap[k]?:=by
 unfold Go.Sort.mapBlock
 simp only[Array.getElem?_modify,if_neg h]
theorem Bt {d:Array Value} {cur:Array Value} (h:d.size<=cur.size) {m:Nat} (hm:m<=d.size):(putCells (fun v:Value=>v) 0 d cur).toList.take m=d.toList.take m:=by
 apply List.ext_getElem?
 intro k
 rw[List.getElem?_take,List.getElem?_take]
 by_cases hk:k<m
 ·rw[if_pos hk,if_pos hk,Array.getElem?_toList,Array.getElem?_toList]
  unfold putCells
  rw[Array.getElem?_mapIdx,Array.getElem?_eq_getElem (show k<cur.size by omega),Option.map_some,if_pos ⟨Nat.zero_le _,by omega⟩,Nat.sub_zero,getElem!_pos d k (by omega),Array.getElem?_eq_getElem (by omega)]
 ·rw[if_neg hk,if_neg hk]
theorem Hw {w:World} {b:Nat} {cur:Array Value} {e:TypeId} {n:Nat} {l:List Value} (h:w.heap[b]? = some (.cells cur e (0,0))) (hl:cur.toList.take n=l) (hn:n<=cur.size):Holds (fun v:Value=>v) w b 0 l.toArray:=by
 intro k hk
 have hll:l.length=n:=by rw[<-hl,List.length_take,Array.length_toList];omega
 have hkn:k<n:=by simpa [hll] using hk
 refine⟨?_,?_⟩
 ·unfold World.cell?
  simp only[h,Option.isSome_none,Bool.false_eq_true,if_false,Nat.zero_add]
  rw[getElem!_pos l.toArray k hk,<-Array.getElem?_eq_getElem hk]
  have:cur[k]? = l[k]?:=by rw[<-hl,List.getElem?_take,if_pos hkn,Array.getElem?_toList]
  rw[this]
  simp
 ·unfold World.frozen?
  simp only[h]
  simp
theorem Sim.Ka (h:Sim g N s a w φ) {id:Nat} {t:Ty} {xs:List t.D} {i j:Nat} (hid:id≠base) (hl:lookup s.hp id=some (.arr .dp t xs)) (hsz:t.size=1) (hij:i<=j) (hj:j<=xs.length) {v:Value}
  (hv:ak w (imm g φ s.hp w.heap.size) (aM g) φ s.hp (.own id none) v) :
  (v=.slice none 0 0/\xs.length=0)\/∃(b cap:Nat) (l:List Value),v=.slice (some ⟨b,0,none⟩) xs.length cap/\l.length=xs.length/\xs.length<=cap/\cap<=maxLen/\Holds (fun v:Value=>v) w b 0 l.toArray/\(∀u∈l,u.oneCell'=true) ∧
   ∀(q:Nat) (w':World),w'=putRow (fun v:Value=>v) (Go.Sort.ahead w q) b 0 (l.take i++l.drop j++List.replicate (j-i) (Value.slice none 0 0)).toArray →
    ∃ φ',Sim g N (s.create id (.arr .dp t (xs.take i++xs.drop j))) a w' φ' ∧
     ak w' (imm g φ' (s.create id (.arr .dp t (xs.take i++xs.drop j))).hp w'.heap.size) (aM g) φ' (s.create id (.arr .dp t (xs.take i++xs.drop j))).hp (.own id none) (.slice (some ⟨b,0,none⟩) (xs.length-(j-i)) cap):=by
 have hv0:=hv
 simp only[ak] at hv0
 obtain⟨d1,t1,x1,e1,e2,l2,hr2,hb2⟩:=hv0 _ hl
 cases e1
 obtain⟨v0,e0,l0,hr0,hb0,B0,hT,hnd,hsub⟩:=h.blocks id _ hl
 obtain⟨hlen,hr2⟩:=hr2
 rw[hsz,Nat.mul_one] at hlen
 rcases hr2 with⟨rfl,hn⟩ | ⟨b,cap,cur,rfl,_,hg,hnc,hcm,hcs,htk⟩
 ·exact .inl ⟨rfl,hn⟩
 rw[hsz,Nat.mul_one] at hcs htk
 have hφ:φ id=some b:=hb2.symm
 obtain⟨hlen0,hr0⟩:=hr0
 have hl0:l0=l2:=by
  rcases hr0 with⟨rfl,hn⟩ | ⟨b',cap',cur',rfl,_,hg',hnc',hcm',hcs',htk'⟩
  ·rw[hφ] at hb0
   cases hb0
  ·rw[hφ] at hb0
   cases hb0
   rw[hg] at hg'
   cases hg'
   rw[hsz,Nat.mul_one] at htk'
   rw[<-htk',htk]
 subst hl0
 refine .inr ⟨b,cap,l0,rfl,hlen,hnc,hcm,Hw hg htk (by omega),hT.one,?_⟩
 rintro q w' rfl
 obtain⟨E,hE,hEn,hEs⟩:=hT.JC hnd hij
 rw[hsz,Nat.mul_one,Nat.mul_one] at hE
 have hdl:(l0.take i++l0.drop j++List.replicate (j-i) (Value.slice none 0 0)).toArray.size=xs.length:=by
  simp
  omega
 have hheap:(putRow (fun v:Value=>v) (Go.Sort.ahead w q) b 0 (l0.take i++l0.drop j++List.replicate (j-i) (Value.slice none 0 0)).toArray).heap[b]? = some (.cells (putCells (fun v:Value=>v) 0 (l0.take i++l0.drop j++List.replicate (j-i) (Value.slice none 0 0)).toArray cur) e2 (0,0)):=
  AT (w:=Go.Sort.ahead w q) hg
 have hln:(xs.take i++xs.drop j).length=xs.length-(j-i):=by
  simp
  omega
 refine⟨_,h.sM (Handed.refl s φ) hid (v0:=.slice (some ⟨b,0,none⟩) xs.length cap) (v':=.slice (some ⟨b,0,none⟩) (xs.length-(j-i)) cap) (e':=e2) (l:=l0.take i++l0.drop j) (xs.take i++xs.drop j) E
  (fun b' hb'=>⟨hφ.trans hb',_,_,_,hl⟩) (fun b' hb'=>⟨hsub _ (hEs _ hb'),_,hl⟩) hEn ⟨rfl,rfl,rfl,by simp,fun k hk hne=>AJ (fun e=>hne (by rw[e];rfl))⟩ ⟨?_,.inr ⟨b,cap,_,by rw[hln],Nat.zero_le _,hheap,?_,hcm,?_,?_⟩⟩ (by rw[List.append_nil];exact hE) (.inl rfl)⟩
 ·rw[hln,hsz]
  simp
  omega
 ·rw[hln]
  omega
 ·rw[hsz,Nat.mul_one]
  unfold putCells
  rw[Array.size_mapIdx]
  exact hcs
 ·rw[hln,hsz,Nat.mul_one,Bt (by rw[hdl];omega) (by rw[hdl];omega)]
  show List.take _ (l0.take i++l0.drop j++List.replicate (j-i) (Value.slice none 0 0))=_
  rw[List.take_append_of_le_length (by simp;omega),List.take_of_length_le (by simp;omega)]
theorem Sim.EU (h:Sim g N s a w φ) {id:Nat} {t:Ty} {xs:List t.D} (hid:id≠base) (hl:lookup s.hp id=some (.arr .dp t xs)) (hx:xs.length=0) {i j:Nat} :
  ∃ φ',Sim g N (s.create id (.arr .dp t (xs.take i++xs.drop j))) a w φ' ∧
   ak w (imm g φ' (s.create id (.arr .dp t (xs.take i++xs.drop j))).hp w.heap.size) (aM g) φ' (s.create id (.arr .dp t (xs.take i++xs.drop j))).hp (.own id none) (.slice none 0 0):=by
 obtain rfl:=List.length_eq_zero_iff.1 hx
 have e:([].take i++[].drop j:List t.D)=[]:=by simp
 rw[e]
 exact⟨_,h.sM (Handed.refl s φ) hid (v0:=.slice none 0 0) (v':=.slice none 0 0) (e':=0) (l:=[]) [] [] (fun b hb=>by cases hb) (fun b hb=>by cases hb) List.nodup_nil ⟨rfl,rfl,rfl,Nat.le_refl _,fun _ _ _=>rfl⟩ (World.jD w 0 0 t.size) (by simp[bG]) (.inl rfl)⟩
def Kv:Inl:=fun args s K=>match args with
 | [.own id none,.data (.int .i64) i,.data (.int .i64) j]=>(match lookup s.hp id with
  | some (.arr .dp t xs)=>bif Nat.beq id base||!Nat.beq t.size 1 then False else 0<=(i:Int)/\(i:Int)<=(j:Int)/\(j:Int)<=(xs.length:Int)/\K (.own id none) (s.create id (.arr .dp t (xs.take (i:Int).toNat++xs.drop (j:Int).toNat)))
  | _=>False)
 | _=>False
def EH (P:Program) (f:FuncId):Prop:=
 (∀(blk off cap i j:Nat) (d:Array Value),(∀u∈d.toList,u.oneCell'=true)->∀w:World,Holds (fun v:Value=>v) w blk off d->d.size<=cap->cap<=9223372036854775807->i<=j->j<=d.size →
  Calls P f #[.slice (some ⟨blk,off,none⟩) d.size cap,.int .i64 i,.int .i64 j] w fun e w'=>e=.returned (.slice (some ⟨blk,off,none⟩) (d.size-(j-i)) cap)/\∃q,w'=putRow (fun v:Value=>v) (Go.Sort.ahead w q) blk off (d.toList.take i++d.toList.drop j++List.replicate (j-i) (Value.slice none 0 0)).toArray) ∧
 ∀w:World,Calls P f #[.slice none 0 0,.int .i64 0,.int .i64 0] w fun e w'=>e=.returned (.slice none 0 0)/\w'=w
theorem Gr {I S:Nat->Prop} {hp:Hp} {n:Int} {u:Value} (h:ak w I S φ hp (.data (.int .i64) n) u):u=.int .i64 n:=by
 simp only[ak] at h
 obtain⟨cs,hr,rfl⟩:=h
 simp only[Rep] at hr
 subst hr
 rfl
theorem Ip {P:Program} {f:FuncId} (hr:EH P f) (h:Sim g N s a w φ) {id:Nat} {t:Ty} {xs:List t.D} (hid:id≠base) (hl:lookup s.hp id=some (.arr .dp t xs)) (hsz:t.size=1) {v:Value}
  (hv:ak w (imm g φ s.hp w.heap.size) (aM g) φ s.hp (.own id none) v) {i j:Int} (h0:0<=i) (h1:i<=j) (h2:j<=(xs.length:Int)) {K:AV->St->Prop} (hK:K (.own id none) (s.create id (.arr .dp t (xs.take i.toNat++xs.drop j.toNat)))) :
  Calls P f #[v,.int .i64 i,.int .i64 j] w (fun
   | .returned u,w'=>∃v s' φ',K v s'/\Sim g N s' a w' φ'/\ak w' (imm g φ' s'.hp w'.heap.size) (aM g) φ' s'.hp v u
   | _,_=>False):=by
 rcases h.Ka hid hl hsz (i:=i.toNat) (j:=j.toNat) (by omega) (by omega) hv with⟨rfl,hn⟩ | ⟨b,cap,l,rfl,hlen,hnc,hcm,hH,ho,hq⟩
 ·obtain rfl:i=0:=by omega
  obtain rfl:j=0:=by omega
  obtain⟨φ',s1,s2⟩:=h.EU hid hl hn (i:=(0:Int).toNat) (j:=(0:Int).toNat)
  refine(hr.2 w).mono fun e w' he=>?_
  obtain⟨rfl,rfl⟩:=he
  exact⟨_,_,φ',hK,s1,s2⟩
 ·have hc:=hr.1 b 0 cap i.toNat j.toNat l.toArray (by simpa using ho) w hH (by simp;omega) (by unfold maxLen at hcm;omega) (by omega) (by simp;omega)
  rw[Int.toNat_of_nonneg h0,Int.toNat_of_nonneg (Int.le_trans h0 h1),show l.toArray.size=xs.length by simp[hlen]] at hc
  refine hc.mono fun e w' he=>?_
  obtain⟨rfl,q,hw⟩:=he
  obtain⟨φ',s1,s2⟩:=hq q w' hw
  exact⟨_,_,φ',hK,s1,s2⟩
theorem KL {P:Program} {f:FuncId} (hr:EH P f):ED P f Kv:=by
 intro g N s a w φ args vals K h hargs hT
 unfold Kv at hT
 split at hT
 case h_2=>exact hT.elim
 rename_i id i j
 split at hT
 case h_2=>exact hT.elim
 rename_i t xs hl
 cases hb:(Nat.beq id base||!Nat.beq t.size 1) with
 | true=>rw[hb] at hT;exact hT.elim
 | false=>
 rw[hb] at hT
 obtain⟨h0,h1,h2,hK⟩:=hT
 obtain⟨hb1,hb2⟩:=Bool.or_eq_false_iff.1 hb
 have hid:id≠base:=fun e=>by rw[e] at hb1;cases hb1
 have hsz:t.size=1:=by simpa using hb2
 simp only[ax] at hargs
 obtain⟨v,_,rfl,hv,_,_,rfl,hi,_,_,rfl,hj,rfl⟩:=hargs
 have hi:=Gr hi
 have hj:=Gr hj
 subst hi hj
 exact Ip hr h hid hl hsz hv h0 h1 h2 hK
end Go.AE
end
section
namespace Go.Proofs
open Go.Shelf Go.RowKit Go.Lib Go.Sort
set_option maxHeartbeats 4000000 in
set_option maxRecDepth 1000000 in
/-- slices.Delete, cell by cell. -/
theorem GI (blk off cap i j:Nat) (d:Array Value) (hone:∀u∈d.toList,u.oneCell'=true) (w:World) (hH:Holds (fun v:Value=>v) w blk off d) (hcap:d.size<=cap) (hm:cap<=9223372036854775807) (hij:i<=j) (hj:j<=d.size) :
    Calls Tryz.prog 88 #[.slice (some ⟨blk,off,none⟩) d.size cap,.int .i64 i,.int .i64 j] w fun e w'=>e=.returned (.slice (some ⟨blk,off,none⟩) (d.size-(j-i)) cap)/\∃q,w'=putRow (fun v:Value=>v) (Sort.ahead w q) blk off (d.toList.take i++d.toList.drop j++List.replicate (j-i) (Value.slice none 0 0)).toArray:=by
  have mixed:Tryz.prog.follows .mixedOrders=true:=by kernel_rfl
  have t3:=Tryz.underlying3;have a3:=Tryz.isAgg3;have z3:=Tryz.sizeOf3;have v3:=Tryz.zeroValue3;have t4:=Tryz.underlying4;have a4:=Tryz.isAgg4;have z4:=Tryz.sizeOf4;have v4:=Tryz.zeroValue4;have t30:=Tryz.underlying71;have a30:=Tryz.isAgg71;have z30:=Tryz.sizeOf71;have v30:=Tryz.zeroValue71;have t42:=Tryz.underlying48;have a42:=Tryz.isAgg48;have z42:=Tryz.sizeOf48;have v42:=Tryz.zeroValue48
  obtain⟨i0,hi0,hz0,hz1,hz2⟩:=info_parts (show (Tryz.prog.info? 48).map (fun i=>(i.zero,i.size,i.bytes))=some (some (Value.slice none 0 0),1,24) by kernel_rfl)
  by_cases heq:i=j
  · subst heq
    have h0:Calls Tryz.prog 88 #[.slice (some ⟨blk,off,none⟩) d.size cap,.int .i64 i,.int .i64 i] w fun e w'=>e=.returned (.slice (some ⟨blk,off,none⟩) d.size cap)/\w'=w:=by
      clear hH
      go_enter Tryz.func88,Tryz.ntmps88
      go_wp2
      all_goals (go_ret;exact⟨rfl,rfl⟩)
    refine h0.mono ?_
    rintro e w' ⟨rfl,rfl⟩
    have e:(d.toList.take i++d.toList.drop i++List.replicate (i-i) (Value.slice none 0 0)).toArray=d:=by simp
    refine⟨by rw[Nat.sub_self,Nat.sub_zero],0,?_⟩
    rw[e]
    exact(putRow_self (fun v:Value=>v) (Sort.ahead w' 0) blk off d hH).symm
  · have hlt:i<j:=by omega
    -- the cells that are moved to the left
    obtain⟨news,hnews⟩:∃news,news=(d.toList.drop j).map (fun v:Value=>v):=⟨_,rfl⟩
    have hlen:news.length=d.size-j:=by rw[hnews];simp
    have hget:∀t,t<d.size-j->news[t]? = some ((fun v:Value=>v) d[j+t]!):=by
      intro t ht
      rw[hnews,List.getElem?_map,List.getElem?_drop,Array.getElem?_toList,getElem!_pos d (j+t) (by omega),Array.getElem?_eq_getElem (by omega)]
      rfl
    obtain⟨A,hA,hsrc⟩:∃A:Addr,(if cap=j then some (⟨blk,off,none⟩:Addr) else some ⟨blk,off+j,none⟩)=some A/\Hid (∀t u,news[t]? = some u->w.drew.cell? (A.add t)=some u):=by
      by_cases h:cap=j
      · refine⟨⟨blk,off,none⟩,by simp[h],fun t u hu=>?_⟩
        have h0:news.length=0:=by rw[hlen];omega
        rw[List.length_eq_zero_iff.1 h0] at hu
        simp at hu
      · refine⟨⟨blk,off+j,none⟩,by simp[h],fun t u hu=>?_⟩
        have ht:t<d.size-j:=by
          have:=(List.getElem?_eq_some_iff.1 hu).1
          rwa [hlen] at this
        rw[hget t ht] at hu
        rw[Addr.add_lit,show off+j+t=off+(j+t) by omega]
        exact(hH (j+t) (by omega)).1.trans hu
    have s1:Hid (news.length=(d.size-j) * 1):=by rw[Nat.mul_one];exact hlen
    have s2:Hid (∀u∈news,u.oneCell'=true):=by
      intro u hu
      rw[hnews] at hu
      obtain⟨x,hx,rfl⟩:=List.mem_map.1 hu
      exact hone x (List.mem_of_mem_drop hx)
    have s3:Hid (∀t,t<news.length->(w.drew.cell? ⟨blk,off+i * 1+t,none⟩).isSome=true/\w.drew.frozen? ⟨blk,off+i * 1+t,none⟩=false):=by
      intro t ht
      rw[hlen] at ht
      rw[Nat.mul_one,Nat.add_assoc]
      exact⟨by show (w.cell? _).isSome=true;rw[(hH (i+t) (by omega)).1];rfl,(hH (i+t) (by omega)).2⟩
    -- the world behind the append, behind a name
    obtain⟨W1,hW1⟩:∃W1,W1=w.drew.setCells blk (off+i * 1) news:=⟨_,rfl⟩
    have hW1':W1=putRow (fun v:Value=>v) (Sort.ahead w 1) blk off (lay d i (d.toList.drop j)):=by
      rw[hW1,hnews,Nat.mul_one,<-putRow_setCells (fun v:Value=>v) (Sort.ahead w 1) blk off _ d i (by simp;omega),putRow_self (fun v:Value=>v) (Sort.ahead w 1) blk off d (holds_ahead (fun v:Value=>v) w 1 blk off d hH)]
      rfl
    have hH1:Holds (fun v:Value=>v) W1 blk off (lay d i (d.toList.drop j)):=by rw[hW1'];exact holds_putRow (fun v:Value=>v) _ blk off d _ (holds_ahead (fun v:Value=>v) w 1 blk off d hH) (lay_size _ _ _)
    have hcl:∀ty,(Builtin.clear_ #[71] ty #[.slice (some ⟨blk,off+(i+(d.size-j)),none⟩) (d.size-(i+(d.size-j))) (cap-(i+(d.size-j)))]).run Tryz.prog W1=.ok (.tuple #[]) (W1.setCells blk (off+(i+(d.size-j))) (List.replicate (d.size-(i+(d.size-j))) (Value.slice none 0 0))):=
      fun ty=>Lib.run_clear_slice W1 _ _ ty _ t30 v42 rfl rfl blk (off+(i+(d.size-j))) _ _ (by omega) (fun t ht=>by rw[show off+(i+(d.size-j))+t=off+(i+(d.size-j)+t) by omega,(hH1 _ (by rw[lay_size];omega)).1];rfl) (fun t ht=>by rw[show off+(i+(d.size-j))+t=off+(i+(d.size-j)+t) by omega];exact(hH1 _ (by rw[lay_size];omega)).2)
    have X:Aside (W1=putRow (fun v:Value=>v) (Sort.ahead w 1) blk off (lay d i (d.toList.drop j))):=hW1'
    have hW:Hid (W1=w.drew.setCells blk (off+i * 1) news):=hW1
    have hic:i<=cap:=by omega
    have hjc:j<=cap:=by omega
    clear hW1 hW1' hH1 hH hget hnews hlen
    go_enter Tryz.func88,Tryz.ntmps88
    go_wp2_with fail
    go_region_law_o (refine step_append_room rfl (.tmp 22) (.tmp 25) (71) rfl (48) i0 1 t30 hi0 hz1 blk off i cap (by simp[Act.eval,Act.put]) A (d.size-j) (cap-j) news (by simp[Act.eval,Act.put]) s1.out hsrc.out s2.out (by omega) s3.out ?_;rw[<-hW.out])
    go_wp2
    go_ret
    refine⟨by rw[show d.size-(j-i)=i+(d.size-j) by omega];rfl,1,?_⟩
    rw[<-delete_arr d i j (Value.slice none 0 0) hij hj,<-putRow_setCells (fun v:Value=>v) _ blk off _ _ (i+(d.size-j)) (by rw[lay_size];simp;omega),<-X.out,List.map_replicate,show d.size-(i+(d.size-j))=j-i by omega]
set_option maxHeartbeats 4000000 in
/-- slices.Delete where there is nothing. -/
theorem GW (w:World):Calls Tryz.prog 88 #[.slice none 0 0,.int .i64 0,.int .i64 0] w fun e w'=>e=.returned (.slice none 0 0)/\w'=w:=by
  have mixed:Tryz.prog.follows .mixedOrders=true:=by kernel_rfl
  have t3:=Tryz.underlying3;have a3:=Tryz.isAgg3;have z3:=Tryz.sizeOf3;have v3:=Tryz.zeroValue3;have t4:=Tryz.underlying4;have a4:=Tryz.isAgg4;have z4:=Tryz.sizeOf4;have v4:=Tryz.zeroValue4;have t30:=Tryz.underlying71;have a30:=Tryz.isAgg71;have z30:=Tryz.sizeOf71;have v30:=Tryz.zeroValue71;have t42:=Tryz.underlying48;have a42:=Tryz.isAgg48;have z42:=Tryz.sizeOf48;have v42:=Tryz.zeroValue48
  go_enter Tryz.func88,Tryz.ntmps88
  go_wp2
  all_goals (go_ret;exact⟨rfl,rfl⟩)
theorem FG:Go.AE.EH Tryz.prog 88:=⟨fun blk off cap i j d h1 w h2 h3 h4 h5 h6=>GI blk off cap i j d h1 w h2 h3 h4 h5 h6,GW⟩

end Go.Proofs
end
