/- Calls: what comes back. -/
import Derived.Test.YtgfcmofoaglfkaaGreatAeCallA
namespace Go.AE
open Go Go.RowKit

section
variable {P : Program} {C : Ctx} {g : Gl} {N : Nat} {o : Oper} {s : St} {a : Act} {w : World} {φ : Nat → Option Nat} {K : AV → St → Prop}

theorem plain_all {w w' : World} {I I' S S' : Nat → Prop} {φ φ' : Nat → Option Nat} {hp hp' : Hp} (hI : ∀ b, I b → I' b) (hIs : Same I w w') : ∀ {l : List AV} {vs : List Value}, allPlain l = true →
    AVsRep w I S φ hp l vs → AVsRep w' I' S' φ' hp' l vs
  | [], vs, _, h => by simpa only [AVsRep] using h
  | v :: l, vs, hp, h => by
    simp only [AVsRep] at h ⊢
    obtain ⟨u, us, rfl, h1, h2⟩ := h
    simp only [allPlain, Bool.and_eq_true] at hp
    refine ⟨u, us, rfl, ?_, plain_all hI hIs hp.2 h2⟩
    have hp1 := hp.1
    cases v <;> simp only [plainCell] at hp1 <;> simp only [AVRep] at h1 ⊢
    · exact h1
    · obtain ⟨cs, h3, h4⟩ := h1; exact ⟨cs, h3.mono hI hIs, h4⟩
    all_goals cases hp1

theorem ownsRow_at {w w' : World} {e : TypeId} {size n : Nat} {v : Value} {l : List Value} (h : w.ownsRow 0 e size v n l) (hw : ∀ b, v.ownBlock = some b → w'.heap[b]? = w.heap[b]?) : w'.ownsRow 0 e size v n l := by
  rcases h with ⟨hl, hn | ⟨g, cap, cur, rfl, hb, hg, rest⟩⟩
  · exact ⟨hl, .inl hn⟩
  · exact ⟨hl, .inr ⟨g, cap, cur, rfl, hb, (hw g rfl).trans hg, rest⟩⟩

/-- What comes back is taken in. -/
theorem inVal_ok (h : Sim g N s a w φ) {c : Option Nat} {hp' : Hp} {φ' : Nat → Option Nat} {w' w1 : World} {r v : AV} {u : Value} {d : Nat} {s2 : St} (hd : d ≠ base)
    (hS : Sim (calleeGl g φ s w c) 0 ⟨[], hp'⟩ idle w' φ') (hr : AVRep w' (imm (calleeGl g φ s w c) φ' hp' w'.heap.size) (stab (calleeGl g φ s w c)) φ' hp' r u)
    (ht : Turn w w1 none) (hsz : w1.heap.size = w'.heap.size) (hb : ∀ b, c ≠ some b → w1.heap[b]? = w'.heap[b]?)
    (hcl : ∀ b, c = some b → b < w.heap.size ∧ ∃ id blk, lookup hp' id = some blk ∧ φ' id = some b) (hv : inVal hp' d r s = some (v, s2)) :
    ∃ φ2, Sim g N s2 a w1 φ2 ∧ (∀ b, imm (calleeGl g φ s w c) φ' hp' w'.heap.size b → imm g φ2 s2.hp w'.heap.size b) ∧
      (∀ hpF : Hp, (∀ id blk, lookup hpF id = some blk → ∃ blk0, lookup s2.hp id = some blk0 ∧ ∀ t xs, blk0 = .arr t xs → blk = .arr t xs) → AVRep w' (imm g φ2 hpF w'.heap.size) (stab g) φ2 hpF v u) ∧
      (∀ i cs, i ≠ d → lookup s.hp i = some (.box cs) → φ2 i = φ i ∧ ∃ cs', lookup s2.hp i = some (.box cs')) := by
  have himm0 : ∀ b, imm (calleeGl g φ s w c) φ' hp' w'.heap.size b → imm g φ s.hp w'.heap.size b := by
    rintro b ⟨h1, h2, h3⟩
    refine ⟨?_, h2, fun id blk hl e => ?_⟩
    · rcases h1 with h1 | h1
      · exact h1.1
      · exact .inr (Nat.le_trans h.hsize h1)
    · have hlt := (h.place id blk b hl e).1
      rcases h1 with h1 | h1
      · exact h1.2.2 id blk hl e
      · have h1 : w.heap.size ≤ b := h1
        omega
  have simple : ∀ (_ : s2 = s) (_ : ∀ hpF : Hp, (∀ b, imm (calleeGl g φ s w c) φ' hp' w'.heap.size b → imm g φ hpF w'.heap.size b) → AVRep w' (imm g φ hpF w'.heap.size) (stab g) φ hpF v u),
      ∃ φ2, Sim g N s2 a w1 φ2 ∧ (∀ b, imm (calleeGl g φ s w c) φ' hp' w'.heap.size b → imm g φ2 s2.hp w'.heap.size b) ∧
      (∀ hpF : Hp, (∀ id blk, lookup hpF id = some blk → ∃ blk0, lookup s2.hp id = some blk0 ∧ ∀ t xs, blk0 = .arr t xs → blk = .arr t xs) → AVRep w' (imm g φ2 hpF w'.heap.size) (stab g) φ2 hpF v u) ∧
      (∀ i cs, i ≠ d → lookup s.hp i = some (.box cs) → φ2 i = φ i ∧ ∃ cs', lookup s2.hp i = some (.box cs')) := by
    rintro rfl hv
    refine ⟨φ, h.grow ht, himm0, fun hpF hF => hv hpF fun b hb => ?_, fun i cs _ hi => ⟨rfl, cs, hi⟩⟩
    obtain ⟨h1, h2, h3⟩ := himm0 b hb
    refine ⟨h1, h2, fun id blk hl => ?_⟩
    obtain ⟨blk0, hq, _⟩ := hF id blk hl
    exact h3 id blk0 hq
  unfold inVal at hv
  split at hv
  · split at hv
    case h_2 => cases hv
    rename_i t xs hl
    cases hv
    simp only [AVRep] at hr
    obtain ⟨t2, x2, e2, hown⟩ := hr _ hl
    cases e2
    obtain ⟨v0, e0, l0, q1, q2, q3⟩ := hS.blocks 0 _ hl
    have hpl : ∀ b, φ' 0 = some b → b < w'.heap.size ∧ w.heap.size ≤ b := by
      intro b hb
      obtain ⟨p1, p2⟩ := hS.place 0 _ b hl hb
      exact ⟨p1, p2.resolve_right (fun q => q.2.1 _ _ rfl)⟩
    have hlk : ∀ j, lookup (s.create d (.arr t xs)).hp j = if j = d then some (.arr t xs) else (lookup s.hp j).map (mapBlock (AV.killAll d)) := by
      intro j
      simp only [St.create, lookup_cons, lookup_mapHp, lookup_erase]
      by_cases hj : j = d
      · simp [hj]
      · have : ¬ d = j := fun e => hj e.symm
        simp [hj, this]
    have himm : ∀ b, imm (calleeGl g φ s w c) φ' hp' w'.heap.size b → imm g (updF φ d (φ' 0)) (s.create d (.arr t xs)).hp w'.heap.size b := by
      intro b hb
      obtain ⟨h1, h2, h3⟩ := himm0 b hb
      refine ⟨h1, h2, fun id blk hli e => ?_⟩
      rw [hlk] at hli
      by_cases hid : id = d
      · simp only [updF, if_pos hid] at e
        exact hb.2.2 0 _ hl e
      · rw [if_neg hid] at hli
        simp only [updF, if_neg hid] at e
        cases hq : lookup s.hp id with
        | none => simp [hq] at hli
        | some blk0 => exact h3 id blk0 hq e
    have hsame : Same (imm (calleeGl g φ s w c) φ' hp' w'.heap.size) w' w1 := by
      intro b hbi o
      refine cell_of_heap (hb b fun e => ?_) o
      obtain ⟨_, id, blk, hli, hp⟩ := hcl b e
      exact hbi.2.2 id blk hli hp
    have hrow : ∀ {v e l}, v.ownBlock = φ' 0 → w'.ownsRow 0 e t.size v xs.length l → w1.ownsRow 0 e t.size v xs.length l := by
      intro v e l hv ho
      refine ownsRow_at ho fun b hvb => hb b fun e => ?_
      have h1 := (hpl b (by rw [← hv, hvb])).2
      have h2 := (hcl b e).1
      omega
    refine ⟨updF φ d (φ' 0), h.create hd ht (by simp) (fun b hb => ?_) (fun _ => ⟨v0, e0, l0, hrow q2 q1, q2, q3.mono' (fun b hb => by rw [hsz]; exact himm b hb) hsame⟩), himm, ?_, ?_⟩
    · obtain ⟨h1, h2⟩ := hpl b hb
      exact ⟨by rw [hsz]; exact h1, .inl h2⟩
    · intro hpF hF
      simp only [AVRep]
      intro blk hlb
      obtain ⟨blk0, hq, hq2⟩ := hF d blk hlb
      rw [hlk, if_pos rfl] at hq
      cases hq
      refine ⟨t, xs, hq2 t xs rfl, ?_⟩
      simpa [updF] using hown
    · intro i cs hi hli
      refine ⟨by simp [updF, hi], ?_⟩
      rw [hlk, if_neg hi, hli]
      exact ⟨_, rfl⟩
  · rename_i vs
    cases hq : allPlain vs with
    | false => simp [hq] at hv
    | true =>
      simp only [hq, cond_true, Option.some.injEq, Prod.mk.injEq] at hv
      obtain ⟨rfl, rfl⟩ := hv
      refine simple rfl fun hpF hF => ?_
      simp only [AVRep] at hr ⊢
      obtain ⟨us, h1, h2⟩ := hr
      exact ⟨us, h1, plain_all hF (fun _ _ _ => rfl) hq h2⟩
  · cases hq : r.kept with
    | false => rw [hq] at hv; cases hv
    | true =>
      rw [hq] at hv
      cases hv
      refine simple rfl fun hpF hF => ?_
      exact kept_rep hF (fun _ _ _ => rfl) _ _ hq hr

theorem mem_uniq {x : Nat} : ∀ {l acc : List Nat}, (x ∈ acc ∨ x ∈ l) → x ∈ uniq acc l
  | [], acc, h => by simpa [uniq] using h
  | i :: l, acc, h => by
    unfold uniq
    cases hm : memN i acc with
    | true =>
      refine mem_uniq ?_
      rcases h with h | h
      · exact .inl h
      · rcases List.mem_cons.1 h with rfl | h
        · left
          clear h
          induction acc with
          | nil => simp [memN] at hm
          | cons j acc ih =>
            unfold memN at hm
            rcases beq_cases x j with ⟨e, hb⟩ | ⟨_, hb⟩
            · simp [e]
            · rw [hb] at hm
              exact List.mem_cons_of_mem _ (ih hm)
        · exact .inr h
    | false =>
      refine mem_uniq ?_
      rcases h with h | h
      · exact .inl (by simp [h])
      · rcases List.mem_cons.1 h with rfl | h
        · exact .inl (by simp)
        · exact .inr h

theorem mem_ptrIds {i o : Nat} : ∀ {l : List AV}, AV.ptr i o ∈ l → i ∈ ptrIds l
  | v :: l, h => by
    rcases List.mem_cons.1 h with rfl | h
    · simp [ptrIds]
    · have := mem_ptrIds h
      unfold ptrIds
      split <;> simp_all

theorem setHeap_old (w' : World) (b : Nat) (x : Obj) (j : Nat) : (w'.heap.setIfInBounds b x)[j]? = if b = j ∧ j < w'.heap.size then some x else w'.heap[j]? := by
  rw [Array.getElem?_setIfInBounds]
  by_cases hb : b = j
  · subst hb
    by_cases hl : b < w'.heap.size
    · simp [hl]
    · simp [hl]
  · simp [hb]

theorem call_ok (hC : ConsOk P C) (h : Sim g N s a w φ) {f : FuncId} {args : List AV} {vals : List Value} {d : Nat} (hd : d ≠ base) (hv : AVsRep w (imm g φ s.hp w.heap.size) (stab g) φ s.hp args vals)
    (hop : callW C f args d s K) : (∀ args w, (callFunc f args).run P w = .ok (.enter f args) w) ∧ Calls P f vals.toArray w (fun
      | .returned u, w' => ∃ v s' φ', K v s' ∧ Sim g N s' a w' φ' ∧ AVRep w' (imm g φ' s'.hp w'.heap.size) (stab g) φ' s'.hp v u ∧
          ((lookup C.inl f = none ∧ ∃ con p, lookup C.cons f = some con ∧ passAll con.par args s = some p ∧ ptrIds p.1 = []) → Turn w w' none)
      | _, _ => False) := by
  unfold callW at hop
  cases hin : lookup C.inl f with
  | some T =>
    rw [hin] at hop
    obtain ⟨hent, hok⟩ := hC.2 f T hin
    refine ⟨hent, Calls.mono (hok g N s a w φ args vals K h hv hop) ?_⟩
    intro e w' he
    cases e with
    | returned u =>
      obtain ⟨v, s', φ', h1, h2, h3⟩ := he
      exact ⟨v, s', φ', h1, h2, h3, fun hq => by cases hq.1⟩
    | panicked c => exact he.elim
    | outgrown => exact he.elim
  | none =>
  rw [hin] at hop
  simp only at hop
  obtain ⟨con, hcon, hop⟩ := optW_some hop
  obtain ⟨p, hp, hop⟩ := optW_some hop
  obtain ⟨hent, hok⟩ := hC.1 f con hcon
  refine ⟨hent, ?_⟩
  obtain ⟨s1, hmv, hav, hfree⟩ := passAll_rep h hv (show passAll con.par args s = some (p.1, p.2) from hp)
  split at hop
  · rename_i hu
    have hno : ∀ v ∈ p.1, v.free = true := by
      intro v hv
      rcases hfree v hv with q | ⟨i, o, rfl⟩
      · exact q
      · have := mem_uniq (acc := []) (.inr (mem_ptrIds hv))
        rw [hu] at this
        cases this
    have hS0 : Sim (calleeGl g φ p.2 w none) 0 ⟨[], []⟩ idle w (fun _ => none) :=
      ⟨rfl, rfl, rfl, rfl, rfl, Nat.le_refl _, fun _ _ _ => rfl, fun _ _ _ _ _ h => by simp [lookup] at h, fun _ _ _ h => by simp [lookup] at h, fun _ _ h => by simp [lookup] at h, fun _ _ h => by simp [lookup] at h, fun _ h => by simp [lookup] at h⟩
    have hI : ∀ b, imm g φ p.2.hp w.heap.size b → imm (calleeGl g φ p.2 w none) (fun _ => none) [] w.heap.size b := callee_imm s1 (fun _ _ _ h => by simp [lookup] at h) (fun _ h => by cases h)
    have hSt := callee_stab s1 (c := none) (fun _ h => by cases h)
    have hargs : ∀ {l : List AV} {vs : List Value}, (∀ v ∈ l, v.free = true) → AVsRep w (imm g φ p.2.hp w.heap.size) (where_ g φ p.2 w) φ p.2.hp l vs →
        AVsRep w (imm (calleeGl g φ p.2 w none) (fun _ => none) [] w.heap.size) (stab (calleeGl g φ p.2 w none)) (fun _ => none) [] l vs := by
      intro l
      induction l with
      | nil => intro vs _ h; simpa only [AVsRep] using h
      | cons x l ih =>
        intro vs hf h
        simp only [AVsRep] at h ⊢
        obtain ⟨u, us, rfl, h1, h2⟩ := h
        exact ⟨u, us, rfl, free_rep hI (fun _ _ _ => rfl) hSt (fun _ _ _ => rfl) _ _ (hf x (by simp)) h1, ih (fun v hv => hf v (by simp [hv])) h2⟩
    refine Calls.mono (hok (calleeGl g φ p.2 w none) p.1 [] _ (fun _ => none) vals hop hS0 (hargs hno hav)) ?_
    intro e w' hb
    cases e with
    | returned u =>
      obtain ⟨r, hp', φ', hK, hS', hr⟩ := hb
      obtain ⟨q, hq, hK⟩ := optW_some hK
      have ht : Turn w w' none := ⟨hS'.os, hS'.tape, hS'.output, hS'.hsize, fun b hb _ => hS'.frame b hb (fun e => by cases e)⟩
      obtain ⟨φ2, r1, r2, r3, r4⟩ := inVal_ok s1 hd hS' hr ht rfl (fun _ _ => rfl) (fun _ h => by cases h) (show inVal hp' d r p.2 = some (q.1, q.2) from hq)
      exact ⟨q.1, q.2, φ2, hK, r1, r3 q.2.hp fun id blk hl => ⟨blk, hl, fun _ _ e => e⟩, fun _ => ht⟩
    | panicked c => exact hb.elim
    | outgrown => exact hb.elim
  · rename_i i hu
    split at hop
    case h_2 => exact hop.elim
    rename_i cs hlb
    cases hpl : (allPlain cs && !Nat.beq d i) with
    | false => simp [hpl] at hop
    | true =>
    simp only [hpl, cond_true] at hop
    obtain ⟨hpl, hdi⟩ := Bool.and_eq_true_iff.1 hpl
    have hdi : i ≠ d := by rintro rfl; simp at hdi
    obtain ⟨b0, bvs, be, hφi, hgb, hcs, hone⟩ := s1.blocks i _ hlb
    have hb0 : b0 < w.heap.size := (s1.place i _ b0 hlb hφi).1
    let φ0 : Nat → Option Nat := fun j => if j = base then some b0 else none
    have hlk0 : ∀ j blk, lookup [(base, Block.box cs)] j = some blk → j = base ∧ blk = .box cs := by
      intro j blk hj
      rw [lookup_cons] at hj
      split at hj
      · rename_i e; cases hj; exact ⟨e.symm, rfl⟩
      · simp [lookup] at hj
    have hI : ∀ b, imm g φ p.2.hp w.heap.size b → imm (calleeGl g φ p.2 w (some b0)) φ0 [(base, .box cs)] w.heap.size b := by
      refine callee_imm s1 (fun id blk b hl hb => ?_) (fun b hb => by cases hb; exact ⟨i, _, hlb, hφi⟩)
      obtain ⟨rfl, _⟩ := hlk0 id blk hl
      simpa [φ0] using hb
    have hSt := callee_stab s1 (c := some b0) (fun b hb => by cases hb; exact ⟨i, cs, hlb, hφi⟩)
    have hS0 : Sim (calleeGl g φ p.2 w (some b0)) 0 ⟨[], [(base, .box cs)]⟩ idle w φ0 := by
      refine ⟨rfl, rfl, rfl, rfl, rfl, Nat.le_refl _, fun _ _ _ => rfl, ?_, ?_, ?_, fun _ _ h => by simp [lookup] at h, ?_⟩
      · intro j k bj bk b hj hk _ _
        rw [(hlk0 j bj hj).1, (hlk0 k bk hk).1]
      · intro j blk b hj hb
        obtain ⟨rfl, rfl⟩ := hlk0 j blk hj
        simp only [φ0, if_true, Option.some.injEq] at hb
        subst hb
        exact ⟨hb0, .inr ⟨rfl, (fun t xs e => by cases e), rfl⟩⟩
      · intro j blk hj
        obtain ⟨rfl, rfl⟩ := hlk0 j blk hj
        exact ⟨b0, bvs, be, by simp [φ0], hgb, plain_all hI (fun _ _ _ => rfl) hpl hcs, hone⟩
      · intro blk _
        exact ⟨b0, by simp [φ0], hb0⟩
    have hptr : ∀ j o, AV.ptr j o ∈ p.1 → j = i := by
      intro j o hj
      have := mem_uniq (acc := []) (.inr (mem_ptrIds hj))
      rw [hu] at this
      simpa using this
    have hargs : ∀ {l : List AV} {vs : List Value}, (∀ v ∈ l, v.free = true ∨ ∃ i o, v = .ptr i o) → (∀ j o, AV.ptr j o ∈ l → j = i) → AVsRep w (imm g φ p.2.hp w.heap.size) (where_ g φ p.2 w) φ p.2.hp l vs →
        AVsRep w (imm (calleeGl g φ p.2 w (some b0)) φ0 [(base, .box cs)] w.heap.size) (stab (calleeGl g φ p.2 w (some b0))) φ0 [(base, .box cs)] (renArgs l) vs := by
      intro l
      induction l with
      | nil => intro vs _ _ h; simpa only [AVsRep, renArgs] using h
      | cons x l ih =>
        intro vs hf hj h
        simp only [AVsRep] at h
        obtain ⟨u, us, rfl, h1, h2⟩ := h
        have ih := ih (fun v hv => hf v (by simp [hv])) (fun j o hm => hj j o (by simp [hm])) h2
        by_cases hx : ∃ j o, x = .ptr j o
        · obtain ⟨j, o, rfl⟩ := hx
          simp only [renArgs, AVsRep]
          refine ⟨u, us, rfl, ?_, ih⟩
          obtain rfl := hj j o (by simp)
          simp only [AVRep] at h1 ⊢
          intro blk _
          obtain ⟨b, e1, e2⟩ := h1 _ hlb
          rw [hφi] at e1
          cases e1
          exact ⟨b0, by simp [φ0], e2⟩
        · have hren : renArgs (x :: l) = x :: renArgs l := by
            cases x <;> first | rfl | exact absurd ⟨_, _, rfl⟩ hx
          rw [hren]
          simp only [AVsRep]
          exact ⟨u, us, rfl, free_rep hI (fun _ _ _ => rfl) hSt (fun _ _ _ => rfl) _ _ ((hf x (by simp)).resolve_right hx) h1, ih⟩
    refine Calls.mono (hok (calleeGl g φ p.2 w (some b0)) (renArgs p.1) [(base, .box cs)] _ φ0 vals hop hS0 (hargs hfree hptr hav)) ?_
    intro e w' hb
    cases e with
    | returned u =>
      obtain ⟨r, hp', φ', hK, hS', hr⟩ := hb
      split at hK
      case h_2 => exact hK.elim
      rename_i cs' hlb'
      cases hpl' : (Nat.beq cs'.length cs.length && allPlain cs') with
      | false => simp [hpl'] at hK
      | true =>
      simp only [hpl', cond_true] at hK
      obtain ⟨q, hq, hK⟩ := optW_some hK
      obtain ⟨hlen, hpl'⟩ := Bool.and_eq_true_iff.1 hpl'
      have hφb : φ' base = some b0 := by
        obtain ⟨b1, e1, e2⟩ := hS'.pinned _ hlb'
        rcases (hS'.place base _ b1 hlb' e1).2 with e3 | ⟨e3, _⟩
        · exact absurd e2 (by omega)
        · have e3 : some b0 = some b1 := e3
          rw [e1, ← e3]
      have hf : ∀ b, b < w.heap.size → b ≠ b0 → w'.heap[b]? = w.heap[b]? := fun b hb hne => hS'.frame b hb (fun e => hne (by cases e; rfl))
      have hsz : w.heap.size ≤ w'.heap.size := hS'.hsize
      let w1 : World := { w' with heap := w'.heap.setIfInBounds b0 (.cells bvs be (0, 0)) }
      have hw1 : ∀ j, w1.heap[j]? = if b0 = j ∧ j < w'.heap.size then some (.cells bvs be (0, 0)) else w'.heap[j]? := setHeap_old w' b0 _
      have hsz1 : w1.heap.size = w'.heap.size := by simp [w1]
      have ht1 : Turn w w1 none := by
        refine ⟨hS'.os, hS'.tape, hS'.output, by rw [hsz1]; exact hsz, fun b hb _ => ?_⟩
        rw [hw1]
        by_cases hbb : b0 = b
        · subst hbb
          rw [if_pos ⟨rfl, by omega⟩, hgb]
        · rw [if_neg (fun e => hbb e.1)]
          exact hf b hb (fun e => hbb e.symm)
      have ht2 : Turn w1 w' (some b0) := by
        refine ⟨rfl, rfl, rfl, by rw [hsz1]; exact Nat.le_refl _, fun b hb hne => ?_⟩
        rw [hw1, if_neg (fun e => hne (by rw [e.1]))]
      obtain ⟨φ2, r1, r2, r3, r4⟩ := inVal_ok s1 hd hS' hr ht1 hsz1 (fun b hne => by rw [hw1, if_neg (fun e => hne (by rw [e.1]))]) (fun b hb => by cases hb; exact ⟨hb0, base, _, hlb', hφb⟩)
        (show inVal hp' d r p.2 = some (q.1, q.2) from hq)
      obtain ⟨e1, cs2, e2⟩ := r4 i cs hdi hlb
      have hlkF : ∀ id blk, lookup (q.2.setBlock i (.box cs')).hp id = some blk → ∃ blk0, lookup q.2.hp id = some blk0 ∧ ∀ t xs, blk0 = .arr t xs → blk = .arr t xs := by
        intro id blk hl
        simp only [St.setBlock, lookup_cons, lookup_erase] at hl
        by_cases hid : id = i
        · subst hid
          exact ⟨_, e2, fun t xs e => by cases e⟩
        · have : ¬ i = id := fun e => hid e.symm
          simp only [hid, this, if_false] at hl
          exact ⟨blk, hl, fun _ _ e => e⟩
      obtain ⟨bb, vs', be', f1, f2, f3, f4⟩ := hS'.blocks base _ hlb'
      rw [hφb] at f1
      cases f1
      have hSim : Sim g N (q.2.setBlock i (.box cs')) a w' φ2 := by
        refine r1.setBlock ht2 e2 (e1.trans hφi) (fun t xs e => by cases e) (fun _ _ => ⟨cs', rfl⟩) (fun ⟨t, xs, e⟩ => by cases e) (fun _ => ?_)
        refine ⟨b0, vs', be', rfl, f2, plain_all (fun b hb => ?_) (fun _ _ _ => rfl) hpl' f3, f4⟩
        obtain ⟨i1, i2, i3⟩ := r2 b hb
        refine ⟨i1, i2, fun id blk hl => ?_⟩
        obtain ⟨blk0, hq0, _⟩ := hlkF id blk hl
        exact i3 id blk0 hq0
      refine ⟨q.1, q.2.setBlock i (.box cs'), φ2, hK, hSim, r3 _ hlkF, ?_⟩
      rintro ⟨_, con2, p2, hc2, hp2, he2⟩
      rw [hcon] at hc2
      cases hc2
      rw [hp] at hp2
      cases hp2
      rw [he2] at hu
      cases hu
    | panicked c => exact hb.elim
    | outgrown => exact hb.elim
  · exact hop.elim

end
end Go.AE
