/- All operations together. -/
import Derived.Test.YtgfcmofoaglfkaaGreatAeCallB
import Derived.OrdersHeld
namespace Go.AE
open Go Go.RowKit

section
variable {P : Program} {C : Ctx} {g : Gl} {N : Nat} {o : Oper} {s : St} {a : Act} {w : World} {φ : Nat → Option Nat} {K : AV → St → Prop}

theorem Sim.dir (h : Sim g N s a w φ) (d : Dir) : ∃ φ', Sim g N (d.run s) a w φ' := by
  cases d with
  | freeze id => exact ⟨φ, h.freeze id⟩
  | fixBox id =>
    simp only [Dir.run]
    split
    · rename_i v hl
      cases hq : (v.free && !Nat.beq id base) with
      | false => exact ⟨φ, h⟩
      | true =>
        obtain ⟨h1, h2⟩ := Bool.and_eq_true_iff.1 hq
        have hid : id ≠ base := fun e => by rw [e] at h2; simp at h2
        refine ⟨φ, h.subBox hl hid fun b hb hI hi => ?_⟩
        obtain ⟨b', vs, e, hb', hg, hv, hone⟩ := h.blocks id _ hl
        rw [hb] at hb'
        cases hb'
        simp only [AVsRep] at hv
        obtain ⟨u, us, hvs, hu, rfl⟩ := hv
        have hc := cells_of_block hg
        rw [hvs] at hc hone
        simp only [AVRep]
        exact ⟨b, 0, u, rfl, hi, hc 0 u rfl, hone u (by simp), free_rep hI (fun _ _ _ => rfl) (fun _ h => h) (fun _ _ _ => rfl) v u h1 hu⟩
    · exact ⟨φ, h⟩
  | fixRow id t =>
    simp only [Dir.run]
    split
    · rename_i cs hl
      split
      · rename_i x hx
        cases h2 : (!Nat.beq id base) with
        | false => exact ⟨φ, h⟩
        | true =>
          have hid : id ≠ base := fun e => by rw [e] at h2; simp at h2
          refine ⟨φ, h.subBox hl hid fun b hb hI hi => ?_⟩
          obtain ⟨b', vs, e, hb', hg, hv, hone⟩ := h.blocks id _ hl
          rw [hb] at hb'
          cases hb'
          obtain ⟨c, vs', ev, hr, _⟩ := gather_rep hv hx
          have hc := cells_of_block hg
          rw [ev] at hc
          have := hc.take c.length
          rw [List.take_left] at this
          simp only [AVRep]
          exact ⟨b, 0, c, rfl, hi, hr.mono hI (fun _ _ _ => rfl), this⟩
      · exact ⟨φ, h⟩
    · exact ⟨φ, h⟩
  | keep l => exact ⟨φ, (h.less (s' := { s with env := keepEnv s.env l }) (fun j v hj => lookup_keepEnv _ _ j v hj) (fun _ _ h => h)).gc⟩
  | mine j id t =>
    simp only [Dir.run]
    split
    · rename_i hj
      cases hib : Nat.beq id base with
      | true => exact ⟨φ, h⟩
      | false =>
      have hid : id ≠ base := fun e => by rw [e] at hib; cases hib
      simp only [cond_false]
      have hs := h.slot j
      have hjg : Nat.blt j ghost0 = true := by
        cases hb : Nat.blt j ghost0 with
        | true => rfl
        | false => unfold AE.slot at hj; rw [hb] at hj; cases hj
      rw [hj] at hs
      simp only [AVRep] at hs
      have hs' : valOf g a j = .slice none 0 0 := by unfold valOf; rw [hjg]; exact hs
      have hown : w.ownsRow 0 0 t.size (.slice none 0 0) 0 [] := World.ownsRow_nil w 0 0 t.size
      have hb : BlockRep w (imm g (updF φ id none) (s.create id (.arr t [])).hp w.heap.size) (stab g) (updF φ id none) (s.create id (.arr t [])).hp none (.arr t []) :=
        ⟨.slice none 0 0, 0, [], hown, rfl, rfl⟩
      have h2 := h.create (id := id) (w' := w) (r := none) (c := none) (blk := .arr t []) hid (Turn.refl w none) (by simp) (by simp) (fun _ => hb)
      refine ⟨updF φ id none, h2.defers, h2.size, h2.os, h2.tape, h2.output, h2.hsize, h2.frame, h2.inj, h2.place, h2.blocks, ?_, h2.pinned⟩
      intro i av hi
      simp only [putEnv, lookup_cons, lookup_erase] at hi
      by_cases hij : j = i
      · subst hij
        simp at hi
        subst hi
        simp only [AVRep]
        intro blk hl
        simp only [St.create, lookup_cons, if_true] at hl
        cases hl
        refine ⟨t, [], rfl, 0, [], ?_, by rw [hs']; simp [updF, Value.ownBlock]⟩
        show w.ownsRow 0 0 t.size (valOf g a j) 0 []
        rw [hs']
        exact hown
      · rw [if_neg hij, if_neg (fun e => hij e.symm)] at hi
        exact h2.env i av hi
    · exact ⟨φ, h⟩

theorem Sim.norm (l : List Dir) : ∀ {s : St} {φ : Nat → Option Nat}, Sim g N s a w φ → ∃ φ', Sim g N (norm s l) a w φ' := by
  induction l with
  | nil => exact fun h => ⟨_, h⟩
  | cons d l ih =>
    intro s φ h
    obtain ⟨φ', h'⟩ := h.dir d
    exact ih h'


theorem one_of {x : List Operand} {y : List TypeId} {z : Prop} (h : match x, y with | [_], [_] => z | _, _ => False) : ∃ p q, x = [p] ∧ y = [q] ∧ z := by
  split at h
  · exact ⟨_, _, rfl, rfl, h⟩
  · exact h.elim

/-- What only looks. -/
theorem op_quiet (hT : TabOk P C) (h : Sim g N s a w φ) (hd : Nat.add (o.dst.getD 0) C.off ≠ base) (hq : quietOp o = true) (hop : opW C o s K) : DoneQ P g N o a w K := by
  unfold quietOp at hq
  split at hq
  · exact op_move h hd (.inl ‹_›) hop
  · exact op_move h hd (.inr ‹_›) hop
  · exact op_pick h ‹_› hop
  · exact op_load hT h ‹_› hop
  · exact op_nilCheck h ‹_› hop
  · exact op_bin hT h ‹_› hop
  · exact op_un h ‹_› hop
  · exact op_fieldAddr hT h ‹_› hop
  · exact op_field hT h ‹_› hop
  · exact op_indexAddr hT h ‹_› hop
  · exact op_index hT h ‹_› hop
  · exact op_extract h ‹_› hop
  · exact op_makeFunc h ‹_› hop
  · exact op_slice hT h ‹_› hop
  · exact op_build hT h ‹_› hop
  · rename_i c ho
    simp only [opW, ho] at hop
    split at hq
    case h_2 => cases hq
    rename_i b hc
    simp only [hc] at hop
    split at hq
    · split at hop
      all_goals first
        | exact hop.elim
        | exact op_len hT h ho hc ‹_› ‹_› hop
        | (rename_i e _; cases e; done)
        | (rename_i e _ _; cases e; done)
    · split at hop
      all_goals first
        | exact hop.elim
        | exact op_mm (m := false) h ho hc ‹_› hop
        | (rename_i e _; cases e; done)
        | (rename_i e _ _; cases e; done)
    · split at hop
      all_goals first
        | exact hop.elim
        | exact op_mm (m := true) h ho hc ‹_› hop
        | (rename_i e _; cases e; done)
        | (rename_i e _ _; cases e; done)
    · cases hq
  · cases hq

theorem Done.wp (h : Done P g N o a w K) {next : Act → World → Prop} {Q : Exit → Act → World → Prop}
    (hn : ∀ u w' v s' φ', K v s' → Sim g N s' a w' φ' → AVRep w' (imm g φ' s'.hp w'.heap.size) (stab g) φ' s'.hp v u → next (a.put o.dst u) w') : o.wp P a w next Q := by
  obtain ⟨u, w', v, s', φ', hr, hk, hs, hv⟩ := h
  unfold Oper.wp
  rcases hr with hr | ⟨hr, rfl⟩
  · rw [hr]; exact hn _ _ _ _ _ hk hs hv
  · rw [hr]; exact hn _ _ _ _ _ hk hs hv

theorem DoneE.wp (h : DoneE P g N o a w K) {next : Act → World → Prop} {Q : Exit → Act → World → Prop}
    (hn : ∀ u w' v s' φ', K v s' → Sim g N s' a w' φ' → AVRep w' (imm g φ' s'.hp w'.heap.size) (stab g) φ' s'.hp v u → Turn w w' none → next (a.put o.dst u) w') : o.wp P a w next Q := by
  obtain ⟨u, w', v, s', φ', hr, hk, hs, hv, ht⟩ := h
  unfold Oper.wp
  rcases hr with hr | ⟨hr, rfl⟩
  · rw [hr]; exact hn _ _ _ _ _ hk hs hv ht
  · rw [hr]; exact hn _ _ _ _ _ hk hs hv ht

theorem AVsRep.append {w : World} {I S : Nat → Prop} {φ : Nat → Option Nat} {hp : Hp} : ∀ {l k : List AV} {vs us : List Value}, AVsRep w I S φ hp l vs → AVsRep w I S φ hp k us → AVsRep w I S φ hp (l ++ k) (vs ++ us)
  | [], k, vs, us, h, h' => by simp only [AVsRep] at h; subst h; exact h'
  | b :: l, k, vs, us, h, h' => by
    simp only [AVsRep] at h
    obtain ⟨v, vs', rfl, h1, h2⟩ := h
    simp only [List.cons_append, AVsRep]
    exact ⟨v, _, rfl, h1, AVsRep.append h2 h'⟩

theorem op_wp (hT : TabOk P C) (hC : ConsOk P C) (h : Sim g N s a w φ) (hd : Nat.add (o.dst.getD 0) C.off ≠ base) (hop : opW C o s K) {next : Act → World → Prop} {Q : Exit → Act → World → Prop}
    (hn : ∀ u w' v s' φ', K v s' → Sim g N s' a w' φ' → AVRep w' (imm g φ' s'.hp w'.heap.size) (stab g) φ' s'.hp v u → (writerOp o = false → lentCall C o s = true → Turn w w' none) → next (a.put o.dst u) w') :
    o.wp P a w next Q := by
  cases hq : quietOp o with
  | true => exact (op_quiet hT h hd hq hop).doneE.wp fun u w' v s' φ' h1 h2 h3 h4 => hn u w' v s' φ' h1 h2 h3 (fun _ _ => h4)
  | false =>
  have grow : DoneE P g N o a w K → o.wp P a w next Q := fun hd => hd.wp fun u w' v s' φ' h1 h2 h3 h4 => hn u w' v s' φ' h1 h2 h3 (fun _ _ => h4)
  have write : writerOp o = true → Done P g N o a w K → o.wp P a w next Q := fun hw hd => hd.wp fun u w' v s' φ' h1 h2 h3 => hn u w' v s' φ' h1 h2 h3 (fun e => by rw [hw] at e; cases e)
  cases ho : o.op with
  | alloc e => exact grow (op_alloc hT h hd ho hop)
  | convert sr ds x => exact grow (op_convert hT h ho hop)
  | box e x => exact grow (op_box h hd ho hop)
  | buildSlice t n parts => exact grow (op_buildSlice hT h hd ho hop)
  | makeSlice t x y => exact grow (op_make hT h hd ho hop)
  | store t x y => exact write (by simp [writerOp, ho]) (op_store hT h ho hop)
  | call c =>
    cases hc : c.callee with
    | builtin b =>
      have hop' := hop
      simp only [opW, ho, hc] at hop'
      split at hop'
      all_goals first
        | exact hop'.elim
        | (exfalso; simp [quietOp, ho, hc] at hq; done)
        | skip
      rename_i e1 e2
      rename_i u
      cases hi : isIntTI C.tab u with
      | true => rw [hi] at hop'; exact hop'.elim
      | false =>
        rw [hi] at hop'
        refine write (by simp [writerOp, ho, hc]) (op_append hT h hd ho hc e1 e2 ?_ hop')
        unfold isIntTI at hi
        split at hi
        · cases hi
        · rename_i ti hne hl
          refine ⟨_, hl, fun k hk => ?_⟩
          obtain ⟨td, sz, by_⟩ := ti
          have hk : td = .val (.int k) := hk
          subst hk
          exact hne _ _ _ rfl
        · cases hi
    | invoke r n => simp [opW, ho, hc] at hop
    | value f =>
      have hop' := hop
      simp only [opW, ho, hc] at hop'
      split at hop'
      case h_2 => exact hop'.elim
      rename_i fid caps e1
      have hf := h.eval f
      rw [e1] at hf
      simp only [AVRep] at hf
      obtain ⟨cvs, hfv, hcv⟩ := hf
      have hargs := AVsRep.append (evals_rep h c.args.toList) hcv
      obtain ⟨hent, hcall⟩ := call_ok hC h hd hargs hop'
      unfold Oper.wp
      have hrun : (execOp a.eval o).run P w = .ok (.enter fid (c.args.toList.map a.eval ++ cvs).toArray) w := by
        have : (execOp a.eval o).run P w = (callFunc fid (c.args.map a.eval ++ cvs.toArray)).run P w := by
          simp [execOp, ho, resolve, hc, hfv, Deferred.ofValue, invoke]
        rw [this, hent]
        congr 2
        apply Array.ext'
        simp
      rw [hrun, Oper.upon_enter]
      refine Calls.mono hcall ?_
      intro e w' he
      cases e with
      | returned u =>
        obtain ⟨v, s', φ', h1, h2, h3, h4⟩ := he
        refine hn u w' v s' φ' h1 h2 h3 (fun _ hl => h4 ?_)
        unfold lentCall at hl
        simp only [ho, hc, e1] at hl
        split at hl
        · cases hl
        rename_i hin
        split at hl
        · rename_i con hcon
          split at hl
          · rename_i p hp
            split at hl
            · rename_i hpt
              exact ⟨hin, con, p, hcon, hp, hpt⟩
            · cases hl
          · cases hl
        · cases hl
      | panicked c => exact he.elim
      | outgrown => exact he.elim
  | _ => first
    | (exfalso; simp [quietOp, ho] at hq; done)
    | (exfalso; simp [opW, ho] at hop; done)

end
end Go.AE
