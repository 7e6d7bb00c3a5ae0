/- What is known of memory, carried over the changes that a call makes. -/
import Derived.Test.YtgfcmofoaglfkaaGreatAeMove
namespace Go.AE
open Go Go.RowKit

def updF (φ : Nat → Option Nat) (id : Nat) (r : Option Nat) : Nat → Option Nat := fun i => if i = id then r else φ i

theorem BlockRep.later {w w' : World} {I I' S S' : Nat → Prop} {φ φ' : Nat → Option Nat} {hp hp' : Hp} (L : Later w w' I I' S S' φ φ' hp hp') {r : Option Nat} {blk : Block}
    (hr : ∀ b, r = some b → w'.heap[b]? = w.heap[b]?) (h : BlockRep w I S φ hp r blk) : BlockRep w' I' S' φ' hp' r blk := by
  cases blk with
  | box cs =>
    obtain ⟨b, vs, e, hb, hg, hv, h1⟩ := h
    exact ⟨b, vs, e, hb, (hr b hb).trans hg, AVsRep.later L _ _ hv, h1⟩
  | arr t xs =>
    obtain ⟨v, e, l, ho, hb, hl⟩ := h
    refine ⟨v, e, l, ?_, hb, hl.mono' L.imm L.immSame⟩
    rcases ho with ⟨hn, hv | ⟨g, cap, cur, hv, h0, hg, rest⟩⟩
    · exact ⟨hn, .inl hv⟩
    · exact ⟨hn, .inr ⟨g, cap, cur, hv, h0, (hr g (by rw [← hb, hv]; rfl)).trans hg, rest⟩⟩

theorem BlockRep.killed {id : Nat} {w w' : World} {I I' S S' : Nat → Prop} {φ φ' : Nat → Option Nat} {hp hp' : Hp} (L : LaterX id w w' I I' S S' φ φ' hp hp') {r : Option Nat} {blk : Block}
    (hr : ∀ b, r = some b → w'.heap[b]? = w.heap[b]?) (h : BlockRep w I S φ hp r blk) : BlockRep w' I' S' φ' hp' r (mapBlock (AV.killAll id) blk) := by
  cases blk with
  | box cs =>
    obtain ⟨b, vs, e, hb, hg, hv, h1⟩ := h
    exact ⟨b, vs, e, hb, (hr b hb).trans hg, AVsRep.killed L _ _ hv, h1⟩
  | arr t xs =>
    obtain ⟨v, e, l, ho, hb, hl⟩ := h
    refine ⟨v, e, l, ?_, hb, hl.mono' L.imm L.immSame⟩
    rcases ho with ⟨hn, hv | ⟨g, cap, cur, hv, h0, hg, rest⟩⟩
    · exact ⟨hn, .inl hv⟩
    · exact ⟨hn, .inr ⟨g, cap, cur, hv, h0, (hr g (by rw [← hb, hv]; rfl)).trans hg, rest⟩⟩

theorem BlockRep.fixed {id : Nat} {w w' : World} {I I' S S' : Nat → Prop} {φ φ' : Nat → Option Nat} {hp hp' : Hp} {t : Ty} {xs : List t.D} (L : LaterX id w w' I I' S S' φ φ' hp hp')
    (hid : lookup hp' id = none) (hx : lookup hp id = some (.arr t xs))
    (hd : ∀ cut u, OwnRep w (φ id) t xs.length cut u → ∃ cs, Rep w' I' (.sl t) (cutList xs cut) cs ∧ u = mkv (.sl t) cs) {r : Option Nat} {blk : Block}
    (hr : ∀ b, r = some b → w'.heap[b]? = w.heap[b]?) (h : BlockRep w I S φ hp r blk) : BlockRep w' I' S' φ' hp' r (mapBlock (AV.fixAll id t xs) blk) := by
  cases blk with
  | box cs =>
    obtain ⟨b, vs, e, hb, hg, hv, h1⟩ := h
    exact ⟨b, vs, e, hb, (hr b hb).trans hg, AVsRep.fixed L hid hx hd _ _ hv, h1⟩
  | arr t xs =>
    obtain ⟨v, e, l, ho, hb, hl⟩ := h
    refine ⟨v, e, l, ?_, hb, hl.mono' L.imm L.immSame⟩
    rcases ho with ⟨hn, hv | ⟨g, cap, cur, hv, h0, hg, rest⟩⟩
    · exact ⟨hn, .inl hv⟩
    · exact ⟨hn, .inr ⟨g, cap, cur, hv, h0, (hr g (by rw [← hb, hv]; rfl)).trans hg, rest⟩⟩

section
variable {g : Gl} {N : Nat} {s : St} {a : Act} {w : World} {φ : Nat → Option Nat}

/-- The world has changed in one place at the most, where an array or a box of the call's own stood, and may have grown. -/
structure Turn (w w' : World) (c : Option Nat) : Prop where
  os : w'.os = w.os
  tape : w'.tape = w.tape
  output : w'.output = w.output
  size : w.heap.size ≤ w'.heap.size
  block : ∀ b, b < w.heap.size → c ≠ some b → w'.heap[b]? = w.heap[b]?

theorem Turn.refl (w : World) (c : Option Nat) : Turn w w c := ⟨rfl, rfl, rfl, Nat.le_refl _, fun _ _ _ => rfl⟩

theorem cell_of_heap {w w' : World} {b : Nat} (h : w'.heap[b]? = w.heap[b]?) (o : Nat) : w'.cell? ⟨b, o, none⟩ = w.cell? ⟨b, o, none⟩ :=
  World.cell?_of_block (w := w) (a := ⟨b, o, none⟩) h

theorem Sim.stab_lt (h : Sim g N s a w φ) {b : Nat} (hb : stab g b) : b < w.heap.size := Nat.lt_of_lt_of_le hb.1 h.hsize

/-- A live block is not one of those that were lent. -/
theorem Sim.stab_ne (h : Sim g N s a w φ) {i : Nat} {blk : Block} {b c : Nat} (hi : lookup s.hp i = some blk) (hc : φ i = some c) (hb : stab g b) : c ≠ b := by
  rintro rfl
  rcases (h.place i blk c hi hc).2 with h1 | ⟨h1, _⟩
  · exact absurd hb.1 (by omega)
  · exact hb.2 h1

/-- An array of the call's own becomes fixed. -/
theorem Sim.freeze (h : Sim g N s a w φ) (id : Nat) : Sim g N (s.freeze id) a w φ := by
  unfold St.freeze
  split
  case h_2 => exact h
  case h_1 t xs hx =>
    have hlk : ∀ j, lookup (mapHp (AV.fixAll id t xs) (erase s.hp id)) j = if j = id then none else (lookup s.hp j).map (mapBlock (AV.fixAll id t xs)) := by
      intro j
      rw [lookup_mapHp, lookup_erase]
      split <;> rfl
    have hlive : ∀ j blk', lookup (mapHp (AV.fixAll id t xs) (erase s.hp id)) j = some blk' → j ≠ id ∧ ∃ blk, lookup s.hp j = some blk ∧ blk' = mapBlock (AV.fixAll id t xs) blk := by
      intro j blk' hj
      rw [hlk] at hj
      by_cases hji : j = id
      · simp [hji] at hj
      · rw [if_neg hji] at hj
        cases hq : lookup s.hp j with
        | none => simp [hq] at hj
        | some blk => simp [hq] at hj; exact ⟨hji, blk, rfl, hj.symm⟩
    have himm : ∀ b, imm g φ s.hp w.heap.size b → imm g φ (mapHp (AV.fixAll id t xs) (erase s.hp id)) w.heap.size b := by
      rintro b ⟨h1, h2, h3⟩
      refine ⟨h1, h2, fun j blk' hj => ?_⟩
      obtain ⟨_, blk, hq, _⟩ := hlive j blk' hj
      exact h3 j blk hq
    have L : LaterX id w w (imm g φ s.hp w.heap.size) (imm g φ (mapHp (AV.fixAll id t xs) (erase s.hp id)) w.heap.size) (stab g) (stab g) φ φ s.hp (mapHp (AV.fixAll id t xs) (erase s.hp id)) := by
      refine ⟨himm, fun _ _ _ => rfl, fun _ h => h, fun _ _ _ => rfl, fun i blk' _ hi => ?_⟩
      obtain ⟨_, blk, hq, rfl⟩ := hlive i blk' hi
      refine ⟨blk, hq, rfl, ?_, fun _ b _ cur e hg => ⟨cur, hg, rfl⟩⟩
      rintro t' xs' rfl
      exact ⟨xs', rfl, rfl⟩
    have hnone : lookup (mapHp (AV.fixAll id t xs) (erase s.hp id)) id = none := by rw [hlk]; simp
    have hd : ∀ cut u, OwnRep w (φ id) t xs.length cut u → ∃ cs, Rep w (imm g φ (mapHp (AV.fixAll id t xs) (erase s.hp id)) w.heap.size) (.sl t) (cutList xs cut) cs ∧ u = mkv (.sl t) cs := by
      intro cut u hu
      obtain ⟨v, e, l, ho, hb, hl⟩ := h.blocks id _ hx
      obtain ⟨A, c, rfl, hc, hz⟩ := own_open ho hb hl hu
      refine ⟨[.slice A (cutList xs cut).length c], ⟨A, c, rfl, hc, ?_⟩, rfl⟩
      rcases hz with hz | ⟨b, o, k, hA, hr, hcs, hk⟩
      · exact .inl hz
      · refine .inr ⟨b, o, k, hA, ?_, hcs, hk.mono' himm (fun _ _ _ => rfl)⟩
        obtain ⟨p1, p2⟩ := h.place id _ b hx hr
        refine ⟨.inr (p2.resolve_right (fun q => q.2.1 t xs rfl)), p1, fun j blk' hj hjb => ?_⟩
        obtain ⟨hne, blk, hq, _⟩ := hlive j blk' hj
        exact hne (h.inj j id _ _ b hq hx hjb hr)
    refine ⟨h.defers, h.size, h.os, h.tape, h.output, h.hsize, h.frame, ?_, ?_, ?_, ?_, fun blk' hb => by obtain ⟨_, blk, hq, _⟩ := hlive base blk' hb; exact h.pinned blk hq⟩
    · intro i j bi bj b hi hj
      obtain ⟨_, blki, hqi, _⟩ := hlive i bi hi
      obtain ⟨_, blkj, hqj, _⟩ := hlive j bj hj
      exact h.inj i j _ _ b hqi hqj
    · intro i blk' b hi hb
      obtain ⟨_, blk, hq, rfl⟩ := hlive i blk' hi
      obtain ⟨p1, p2⟩ := h.place i blk b hq hb
      refine ⟨p1, p2.imp (fun x => x) (fun q => ⟨q.1, fun t' xs' e => ?_, q.2.2⟩)⟩
      cases blk with
      | box cs => simp [mapBlock] at e
      | arr t1 x1 => exact q.2.1 t1 x1 rfl
    · intro i blk' hi
      obtain ⟨_, blk, hq, rfl⟩ := hlive i blk' hi
      exact (h.blocks i blk hq).fixed L hnone hx hd (fun _ _ => rfl)
    · intro j av hj
      rw [lookup_mapEnv] at hj
      cases hq : lookup s.env j with
      | none => simp [hq] at hj
      | some v =>
        simp [hq] at hj
        subst hj
        exact AVRep.fixed L hnone hx hd v _ (h.env j v hq)

/-- A box of the call's own is written no more. -/
theorem Sim.subBox (h : Sim g N s a w φ) {id : Nat} {W : AV} {cs : List AV} (hx : lookup s.hp id = some (.box cs)) (hid : id ≠ base)
    (hW : ∀ b, φ id = some b → (∀ c, imm g φ s.hp w.heap.size c → imm g φ (s.subBox id W).hp w.heap.size c) → imm g φ (s.subBox id W).hp w.heap.size b → AVRep w (imm g φ (s.subBox id W).hp w.heap.size) (stab g) φ (s.subBox id W).hp W (.pointer (some ⟨b, 0, none⟩))) :
    Sim g N (s.subBox id W) a w φ := by
  have hlk : ∀ j, lookup (s.subBox id W).hp j = if j = id then none else (lookup s.hp j).map (mapBlock (AV.subAll id W)) := by
    intro j
    simp only [St.subBox, lookup_mapHp, lookup_erase]
    split <;> rfl
  have hlive : ∀ j blk', lookup (s.subBox id W).hp j = some blk' → j ≠ id ∧ ∃ blk, lookup s.hp j = some blk ∧ blk' = mapBlock (AV.subAll id W) blk := by
    intro j blk' hj
    rw [hlk] at hj
    by_cases hji : j = id
    · simp [hji] at hj
    · rw [if_neg hji] at hj
      cases hq : lookup s.hp j with
      | none => simp [hq] at hj
      | some blk => simp [hq] at hj; exact ⟨hji, blk, rfl, hj.symm⟩
  have himm : ∀ b, imm g φ s.hp w.heap.size b → imm g φ (s.subBox id W).hp w.heap.size b := by
    rintro b ⟨h1, h2, h3⟩
    refine ⟨h1, h2, fun j blk' hj => ?_⟩
    obtain ⟨_, blk, hq, _⟩ := hlive j blk' hj
    exact h3 j blk hq
  have L : LaterX id w w (imm g φ s.hp w.heap.size) (imm g φ (s.subBox id W).hp w.heap.size) (stab g) (stab g) φ φ s.hp (s.subBox id W).hp := by
    refine ⟨himm, fun _ _ _ => rfl, fun _ h => h, fun _ _ _ => rfl, fun i blk' _ hi => ?_⟩
    obtain ⟨_, blk, hq, rfl⟩ := hlive i blk' hi
    refine ⟨blk, hq, rfl, ?_, fun _ b _ cur e hg => ⟨cur, hg, rfl⟩⟩
    rintro t' xs' rfl
    exact ⟨xs', rfl, rfl⟩
  have hW' : ∀ b, φ id = some b → AVRep w (imm g φ (s.subBox id W).hp w.heap.size) (stab g) φ (s.subBox id W).hp W (.pointer (some ⟨b, 0, none⟩)) := by
    intro b hb
    refine hW b hb himm ?_
    obtain ⟨p1, p2⟩ := h.place id _ b hx hb
    refine ⟨.inr (p2.resolve_right (fun q => hid q.2.2)), p1, fun j blk' hj hjb => ?_⟩
    obtain ⟨hne, blk, hq, _⟩ := hlive j blk' hj
    exact hne (h.inj j id _ _ b hq hx hjb hb)
  refine ⟨h.defers, h.size, h.os, h.tape, h.output, h.hsize, h.frame, ?_, ?_, ?_, ?_, fun blk' hb => by obtain ⟨_, blk, hq, _⟩ := hlive base blk' hb; exact h.pinned blk hq⟩
  · intro i j bi bj b hi hj
    obtain ⟨_, blki, hqi, _⟩ := hlive i bi hi
    obtain ⟨_, blkj, hqj, _⟩ := hlive j bj hj
    exact h.inj i j _ _ b hqi hqj
  · intro i blk' b hi hb
    obtain ⟨_, blk, hq, rfl⟩ := hlive i blk' hi
    obtain ⟨p1, p2⟩ := h.place i blk b hq hb
    refine ⟨p1, p2.imp (fun x => x) (fun q => ⟨q.1, fun t' xs' e => ?_, q.2.2⟩)⟩
    cases blk with
    | box cs => simp [mapBlock] at e
    | arr t1 x1 => exact q.2.1 t1 x1 rfl
  · intro i blk' hi
    obtain ⟨_, blk, hq, rfl⟩ := hlive i blk' hi
    have hb := h.blocks i blk hq
    cases blk with
    | box cs =>
      obtain ⟨b, vs, e, hb, hg, hv, h1⟩ := hb
      exact ⟨b, vs, e, hb, hg, AVsRep.subbed L hx hW' _ _ hv, h1⟩
    | arr t xs =>
      obtain ⟨v, e, l, ho, hb, hl⟩ := hb
      exact ⟨v, e, l, ho, hb, hl.mono' L.imm L.immSame⟩
  · intro j av hj
    simp only [St.subBox, lookup_mapEnv] at hj
    cases hq : lookup s.env j with
    | none => simp [hq] at hj
    | some v =>
      simp [hq] at hj
      subst hj
      exact AVRep.subbed L hx hW' v _ (h.env j v hq)

/-- A block gets a name; what had the name is no longer to be reached. -/
theorem Sim.create (h : Sim g N s a w φ) {id : Nat} {w' : World} {r c : Option Nat} {blk : Block} (hid : id ≠ base) (hw : Turn w w' c)
    (hc : ∀ b, c = some b → φ id = some b ∧ ∃ t xs, lookup s.hp id = some (.arr t xs))
    (hr : ∀ b, r = some b → b < w'.heap.size ∧ (w.heap.size ≤ b ∨ (φ id = some b ∧ ∃ t xs, lookup s.hp id = some (.arr t xs))))
    (hb : LaterX id w w' (imm g φ s.hp w.heap.size) (imm g (updF φ id r) (s.create id blk).hp w'.heap.size) (stab g) (stab g) φ (updF φ id r) s.hp (s.create id blk).hp →
      BlockRep w' (imm g (updF φ id r) (s.create id blk).hp w'.heap.size) (stab g) (updF φ id r) (s.create id blk).hp r blk) :
    Sim g N (s.create id blk) a w' (updF φ id r) := by
  have hlk : ∀ j, lookup (s.create id blk).hp j = if j = id then some blk else (lookup s.hp j).map (mapBlock (AV.killAll id)) := by
    intro j
    simp only [St.create, lookup_cons, lookup_mapHp, lookup_erase]
    by_cases hj : j = id
    · simp [hj]
    · have : ¬ id = j := fun e => hj e.symm
      simp [hj, this]
  have hlive : ∀ j blk', j ≠ id → lookup (s.create id blk).hp j = some blk' → ∃ blk0, lookup s.hp j = some blk0 ∧ blk' = mapBlock (AV.killAll id) blk0 := by
    intro j blk' hji hj
    rw [hlk, if_neg hji] at hj
    cases hq : lookup s.hp j with
    | none => simp [hq] at hj
    | some b0 => simp [hq] at hj; exact ⟨b0, rfl, hj.symm⟩
  have hcne : ∀ b, c = some b → ∀ j blk0, j ≠ id → lookup s.hp j = some blk0 → φ j ≠ some b := by
    intro b hcb j blk0 hj hq e
    obtain ⟨h1, t, xs, h2⟩ := hc b hcb
    exact hj (h.inj j id _ _ b hq h2 e h1)
  have hcge : ∀ b, c = some b → g.w0.heap.size ≤ b ∧ b < w.heap.size := by
    intro b hcb
    obtain ⟨h1, t, xs, h2⟩ := hc b hcb
    obtain ⟨p1, p2⟩ := h.place id _ b h2 h1
    exact ⟨p2.resolve_right (fun q => q.2.1 t xs rfl), p1⟩
  have himm : ∀ b, imm g φ s.hp w.heap.size b → imm g (updF φ id r) (s.create id blk).hp w'.heap.size b := by
    rintro b ⟨h1, h2, h3⟩
    refine ⟨h1, Nat.lt_of_lt_of_le h2 hw.size, fun j blk' hj e => ?_⟩
    by_cases hji : j = id
    · subst hji
      simp only [updF, if_true] at e
      rcases (hr b e).2 with q | ⟨q1, t, xs, q2⟩
      · omega
      · exact h3 j _ q2 q1
    · obtain ⟨b0, hq, _⟩ := hlive j blk' hji hj
      simp only [updF, if_neg hji] at e
      exact h3 j b0 hq e
  have hsameI : Same (imm g φ s.hp w.heap.size) w w' := by
    rintro b ⟨h1, h2, h3⟩ o
    refine cell_of_heap (hw.block b h2 (fun e => ?_)) o
    obtain ⟨q1, t, xs, q2⟩ := hc b e
    exact h3 id _ q2 q1
  have hsameS : Same (stab g) w w' := by
    rintro b hb o
    refine cell_of_heap (hw.block b (h.stab_lt hb) (fun e => ?_)) o
    have := (hcge b e).1
    exact absurd hb.1 (by omega)
  have hheap : ∀ j blk0, j ≠ id → lookup s.hp j = some blk0 → ∀ b, φ j = some b → w'.heap[b]? = w.heap[b]? := by
    intro j blk0 hji hq b hb
    exact hw.block b (h.place j blk0 b hq hb).1 (fun e => hcne b e j blk0 hji hq hb)
  have L : LaterX id w w' (imm g φ s.hp w.heap.size) (imm g (updF φ id r) (s.create id blk).hp w'.heap.size) (stab g) (stab g) φ (updF φ id r) s.hp (s.create id blk).hp := by
    refine ⟨himm, hsameI, fun _ h => h, hsameS, fun i blk' hi hl => ?_⟩
    obtain ⟨b0, hq, rfl⟩ := hlive i blk' hi hl
    refine ⟨b0, hq, by simp [updF, hi], ?_, fun _ b hb cur e hg => ⟨cur, (hheap i b0 hi hq b hb).trans hg, rfl⟩⟩
    rintro t' xs' rfl
    exact ⟨xs', rfl, rfl⟩
  refine ⟨h.defers, h.size, hw.os.trans h.os, hw.tape.trans h.tape, hw.output.trans h.output, Nat.le_trans h.hsize hw.size, ?_, ?_, ?_, ?_, ?_, fun blk' hb => by obtain ⟨b0, hq, _⟩ := hlive base blk' (fun e => hid e.symm) hb; simpa only [updF, if_neg (fun e => hid (Eq.symm e) : ¬ base = id)] using h.pinned b0 hq⟩
  · intro b hb hio
    rw [hw.block b (Nat.lt_of_lt_of_le hb h.hsize) (fun e => by have := (hcge b e).1; omega)]
    exact h.frame b hb hio
  · intro i j bi bj b hi hj ei ej
    by_cases hii : i = id
    · by_cases hji : j = id
      · rw [hii, hji]
      · exfalso
        subst hii
        obtain ⟨b0, hq, _⟩ := hlive j bj hji hj
        simp only [updF, if_true] at ei
        simp only [updF, if_neg hji] at ej
        rcases (hr b ei).2 with q | ⟨q1, t, xs, q2⟩
        · have := (h.place j b0 b hq ej).1; omega
        · exact hji (h.inj j i _ _ b hq q2 ej q1)
    · obtain ⟨b0, hq, _⟩ := hlive i bi hii hi
      simp only [updF, if_neg hii] at ei
      by_cases hji : j = id
      · exfalso
        subst hji
        simp only [updF, if_true] at ej
        rcases (hr b ej).2 with q | ⟨q1, t, xs, q2⟩
        · have := (h.place i b0 b hq ei).1; omega
        · exact hii (h.inj i j _ _ b hq q2 ei q1)
      · obtain ⟨b1, hq1, _⟩ := hlive j bj hji hj
        simp only [updF, if_neg hji] at ej
        exact h.inj i j _ _ b hq hq1 ei ej
  · intro i blk' b hi hb
    by_cases hii : i = id
    · subst hii
      simp only [updF, if_true] at hb
      obtain ⟨q0, q⟩ := hr b hb
      refine ⟨q0, .inl ?_⟩
      rcases q with q | ⟨q1, t, xs, q2⟩
      · exact Nat.le_trans h.hsize q
      · exact ((h.place i _ b q2 q1).2).resolve_right (fun q => q.2.1 t xs rfl)
    · obtain ⟨b0, hq, rfl⟩ := hlive i blk' hii hi
      simp only [updF, if_neg hii] at hb
      obtain ⟨p1, p2⟩ := h.place i b0 b hq hb
      refine ⟨Nat.lt_of_lt_of_le p1 hw.size, p2.imp (fun x => x) (fun q => ⟨q.1, fun t' xs' e => ?_, q.2.2⟩)⟩
      cases b0 with
      | box cs => simp [mapBlock] at e
      | arr t1 x1 => exact q.2.1 t1 x1 rfl
  · intro i blk' hi
    by_cases hii : i = id
    · subst hii
      rw [hlk, if_pos rfl] at hi
      cases hi
      simp only [updF, if_true]
      exact hb L
    · obtain ⟨b0, hq, rfl⟩ := hlive i blk' hii hi
      have := (h.blocks i b0 hq).killed L (fun b hb => hheap i b0 hii hq b hb)
      simpa only [updF, if_neg hii] using this
  · intro j av hj
    simp only [St.create, lookup_mapEnv] at hj
    cases hq : lookup s.env j with
    | none => simp [hq] at hj
    | some v =>
      simp [hq] at hj
      subst hj
      exact AVRep.killed L v _ (h.env j v hq)

/-- What a block holds turns, in place. -/
theorem Sim.setBlock (h : Sim g N s a w φ) {id : Nat} {w' : World} {b : Nat} {old blk : Block} (hw : Turn w w' (some b)) (hid : lookup s.hp id = some old) (hφ : φ id = some b)
    (hshape : ∀ t xs, old = .arr t xs → ∃ xs', blk = .arr t xs' ∧ xs'.length = xs.length) (hbox : ∀ cs, old = .box cs → ∃ cs', blk = .box cs')
    (hrow : (∃ t xs, old = .arr t xs) → ∀ cur e, w.heap[b]? = some (.cells cur e (0, 0)) → ∃ cur', w'.heap[b]? = some (.cells cur' e (0, 0)) ∧ cur'.size = cur.size)
    (hb : Later w w' (imm g φ s.hp w.heap.size) (imm g φ (s.setBlock id blk).hp w'.heap.size) (stab g) (stab g) φ φ s.hp (s.setBlock id blk).hp →
      BlockRep w' (imm g φ (s.setBlock id blk).hp w'.heap.size) (stab g) φ (s.setBlock id blk).hp (some b) blk) :
    Sim g N (s.setBlock id blk) a w' φ := by
  have hlk : ∀ j, lookup (s.setBlock id blk).hp j = if j = id then some blk else lookup s.hp j := by
    intro j
    simp only [St.setBlock, lookup_cons, lookup_erase]
    by_cases hj : j = id
    · simp [hj]
    · have : ¬ id = j := fun e => hj e.symm
      simp [hj, this]
  have hlive : ∀ j blk', lookup (s.setBlock id blk).hp j = some blk' → ∃ blk0, lookup s.hp j = some blk0 := by
    intro j blk' hj
    rw [hlk] at hj
    by_cases hji : j = id
    · exact ⟨old, hji ▸ hid⟩
    · rw [if_neg hji] at hj; exact ⟨_, hj⟩
  have himm : ∀ x, imm g φ s.hp w.heap.size x → imm g φ (s.setBlock id blk).hp w'.heap.size x := by
    rintro x ⟨h1, h2, h3⟩
    refine ⟨h1, Nat.lt_of_lt_of_le h2 hw.size, fun j blk' hj => ?_⟩
    obtain ⟨b0, hq⟩ := hlive j blk' hj
    exact h3 j b0 hq
  have L : Later w w' (imm g φ s.hp w.heap.size) (imm g φ (s.setBlock id blk).hp w'.heap.size) (stab g) (stab g) φ φ s.hp (s.setBlock id blk).hp := by
    refine ⟨himm, ?_, fun _ h => h, ?_, ?_⟩
    · rintro x ⟨h1, h2, h3⟩ o
      exact cell_of_heap (hw.block x h2 (fun e => by cases e; exact h3 id old hid hφ)) o
    · rintro x hx o
      exact cell_of_heap (hw.block x (h.stab_lt hx) (fun e => by cases e; exact h.stab_ne hid hφ hx rfl)) o
    · intro i blk' hi
      rw [hlk] at hi
      by_cases hii : i = id
      · subst hii
        rw [if_pos rfl] at hi
        cases hi
        exact ⟨old, hid, rfl, hshape, fun hq x hx cur e hg => by rw [hφ] at hx; cases hx; exact hrow hq cur e hg⟩
      · rw [if_neg hii] at hi
        refine ⟨blk', hi, rfl, fun t xs e => ⟨xs, e, rfl⟩, fun _ x hx cur e hg => ⟨cur, ?_, rfl⟩⟩
        rw [hw.block x (h.place i _ x hi hx).1 (fun e => by cases e; exact hii (h.inj i id _ _ b hi hid hx hφ))]
        exact hg
  refine ⟨h.defers, h.size, hw.os.trans h.os, hw.tape.trans h.tape, hw.output.trans h.output, Nat.le_trans h.hsize hw.size, ?_, ?_, ?_, ?_, ?_, fun blk' hb => by obtain ⟨b0, hq⟩ := hlive base blk' hb; exact h.pinned b0 hq⟩
  · intro x hx hio
    rw [hw.block x (Nat.lt_of_lt_of_le hx h.hsize) (fun e => ?_)]
    · exact h.frame x hx hio
    · cases e
      rcases (h.place id old b hid hφ).2 with q | q
      · omega
      · exact hio q.1
  · intro i j bi bj x hi hj ei ej
    obtain ⟨_, hqi⟩ := hlive i bi hi
    obtain ⟨_, hqj⟩ := hlive j bj hj
    exact h.inj i j _ _ x hqi hqj ei ej
  · intro i blk' x hi hx
    rw [hlk] at hi
    by_cases hii : i = id
    · subst hii
      rw [if_pos rfl] at hi
      cases hi
      obtain ⟨p1, p2⟩ := h.place i old x hid hx
      refine ⟨Nat.lt_of_lt_of_le p1 hw.size, p2.imp (fun x => x) (fun q => ⟨q.1, fun t' xs' e => ?_, q.2.2⟩)⟩
      cases old with
      | box cs => obtain ⟨cs', e'⟩ := hbox cs rfl; rw [e'] at e; cases e
      | arr t1 x1 => exact q.2.1 t1 x1 rfl
    · rw [if_neg hii] at hi
      obtain ⟨p1, p2⟩ := h.place i _ x hi hx
      exact ⟨Nat.lt_of_lt_of_le p1 hw.size, p2⟩
  · intro i blk' hi
    rw [hlk] at hi
    by_cases hii : i = id
    · subst hii
      rw [if_pos rfl] at hi
      cases hi
      rw [hφ]
      exact hb L
    · rw [if_neg hii] at hi
      exact (h.blocks i blk' hi).later L (fun x hx => hw.block x (h.place i _ x hi hx).1 (fun e => by cases e; exact hii (h.inj i id _ _ b hi hid hx hφ)))
  · intro j av hj
    exact AVRep.later L av _ (h.env j av hj)

/-- Growth alone: nothing that has a name is touched. -/
theorem Sim.grow (h : Sim g N s a w φ) {w' : World} (hw : Turn w w' none) : Sim g N s a w' φ := by
  have L : Later w w' (imm g φ s.hp w.heap.size) (imm g φ s.hp w'.heap.size) (stab g) (stab g) φ φ s.hp s.hp := by
    refine ⟨fun b ⟨h1, h2, h3⟩ => ⟨h1, Nat.lt_of_lt_of_le h2 hw.size, h3⟩, fun b ⟨_, h2, _⟩ o => cell_of_heap (hw.block b h2 (by simp)) o, fun _ h => h,
      fun b hb o => cell_of_heap (hw.block b (h.stab_lt hb) (by simp)) o, fun i blk' hi => ⟨blk', hi, rfl, fun t xs e => ⟨xs, e, rfl⟩, fun _ x hx cur e hg => ⟨cur, ?_, rfl⟩⟩⟩
    rw [hw.block x (h.place i _ x hi hx).1 (by simp)]
    exact hg
  refine ⟨h.defers, h.size, hw.os.trans h.os, hw.tape.trans h.tape, hw.output.trans h.output, Nat.le_trans h.hsize hw.size, ?_, h.inj, ?_, ?_, ?_, h.pinned⟩
  · intro x hx hio
    rw [hw.block x (Nat.lt_of_lt_of_le hx h.hsize) (by simp)]
    exact h.frame x hx hio
  · intro i blk b hi hb
    obtain ⟨p1, p2⟩ := h.place i blk b hi hb
    exact ⟨Nat.lt_of_lt_of_le p1 hw.size, p2⟩
  · intro i blk hi
    exact (h.blocks i blk hi).later L (fun x hx => hw.block x (h.place i _ x hi hx).1 (by simp))
  · intro j av hj
    exact AVRep.later L av _ (h.env j av hj)

/-- A slot is written. -/
theorem Sim.put (h : Sim g N s a w φ) (d : Option Nat) {v : AV} {u : Value} (hv : AVRep w (imm g φ s.hp w.heap.size) (stab g) φ s.hp v u) : Sim g N (s.put N d v) (a.put d u) w φ := by
  cases d with
  | none => exact h
  | some d =>
    have hsz : (a.tmps.setIfInBounds d u).size = N := by simpa using h.size
    simp only [St.put, Act.put]
    cases hb : (Nat.blt d N && Nat.blt d ghost0) with
    | true =>
      obtain ⟨hb, hg⟩ := Bool.and_eq_true_iff.1 hb
      have hlt : d < N := by simpa [Nat.blt_eq] using hb
      refine ⟨h.defers, hsz, h.os, h.tape, h.output, h.hsize, h.frame, h.inj, h.place, h.blocks, ?_, h.pinned⟩
      intro j av hj
      simp only [cond_true, putEnv, lookup_cons, lookup_erase] at hj
      by_cases hjd : d = j
      · subst hjd
        simp at hj
        subst hj
        have : d < a.tmps.size := by rw [h.size]; exact hlt
        unfold valOf
        rw [hg]
        simpa [this] using hv
      · rw [if_neg hjd, if_neg (fun e => hjd e.symm)] at hj
        have := h.env j av hj
        have e : (a.tmps.setIfInBounds d u).getD j undef = a.tmps.getD j undef := by
          simp [hjd]
        unfold valOf at this ⊢
        simp only [e]
        exact this
    | false =>
      have hge : N ≤ d ∨ Nat.blt d ghost0 = false := by
        rcases Bool.and_eq_false_iff.1 hb with hb | hb
        · left
          have : ¬ d < N := by intro hc; rw [← Nat.blt_eq] at hc; rw [hc] at hb; cases hb
          omega
        · exact .inr hb
      refine ⟨h.defers, hsz, h.os, h.tape, h.output, h.hsize, h.frame, h.inj, h.place, h.blocks, ?_, h.pinned⟩
      intro j av hj
      have hv := h.env j av hj
      rcases hge with hge | hge
      · have e : a.tmps.setIfInBounds d u = a.tmps := Array.setIfInBounds_eq_of_size_le (by rw [h.size]; exact hge)
        unfold valOf at hv ⊢
        simp only [e]
        exact hv
      · unfold valOf at hv ⊢
        cases hj : Nat.blt j ghost0 with
        | false => rw [hj] at hv; exact hv
        | true =>
          rw [hj] at hv
          have hne : d ≠ j := by rintro rfl; rw [hge] at hj; cases hj
          have e : (a.tmps.setIfInBounds d u).getD j undef = a.tmps.getD j undef := by
            simp [hne]
          simp only [cond_true, e]
          exact hv

end
end Go.AE
