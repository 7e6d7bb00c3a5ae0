/- Calls: what is handed over. -/
import Derived.Test.YtiplhefglgpdoaaGreatAeOpG
namespace Go.AE
open Go Go.RowKit
section
variable {P : Program} {C : Ctx} {g : Gl} {N : Nat} {o : Oper} {s : St} {a : Act} {w : World} {φ : Names} {K : AV → St → Prop}
structure Moved (g : Gl) (w : World) (φ : Names) (s s' : St) : Prop where
 wh : ∀ b, where_ g φ s w b → where_ g φ s' w b
 gone : Gone s s'
theorem Moved.imm {s s' : St} (h : Moved g w φ s s') : ∀ b, imm g φ s.hp w.heap.size b → imm g φ s'.hp w.heap.size b := h.gone.imm
theorem Moved.refl (g : Gl) (w : World) (φ : Names) (s : St) : Moved g w φ s s := ⟨fun _ h => h, Gone.refl s⟩
theorem Moved.trans {s s' s'' : St} (h : Moved g w φ s s') (k : Moved g w φ s' s'') : Moved g w φ s s'' := ⟨fun b hb => k.wh b (h.wh b hb), h.gone.trans k.gone⟩
theorem Moved.later {s s' : St} (h : Moved g w φ s s') {S S' : Nat → Prop} (hS : ∀ b, S b → S' b) : Later w w (AE.imm g φ s.hp w.heap.size) (AE.imm g φ s'.hp w.heap.size) S S' φ φ s.hp s'.hp := h.gone.later hS
theorem Sim.moved_gone (h : Sim g N s a w φ) {s' : St} (k : Gone s s') : Moved g w φ s s' := by
 refine ⟨?_, k⟩
 rintro b (hb | hb | ⟨j, d, t, xs, hj, hjb, hne⟩)
 ·exact .inl (k.imm b hb)
 ·exact .inr (.inl hb)
 ·cases hq : lookup s'.hp j with
  | some blk =>
   obtain ⟨b0, h0, e0, _⟩ := k j blk hq
   rw [hj] at h0
   cases h0
   have := e0 d t xs rfl
   subst this
   exact .inr (.inr ⟨j, d, t, xs, hq, hjb, hne⟩)
  | none =>
   left
   obtain ⟨p1, p2⟩ := h.place j _ b hj (.inl hjb)
   refine ⟨Gl.mine_imm (p2.resolve_right (fun q => hne q.2)), p1, fun i blk' hi ho => ?_⟩
   obtain ⟨b0, h0, _⟩ := k i blk' hi
   have := h.inj i j _ _ b h0 hj ho (.inl hjb)
   subst this
   rw [hq] at hi
   cases hi
theorem Sim.moved_freeze (h : Sim g N s a w φ) (id : Nat) : Moved g w φ s (s.freeze id) := h.moved_gone (freeze_gone s id)
theorem Sim.moved_give (h : Sim g N s a w φ) {s' : St} {t : Ty} {v : AV} {x : t.D} (hx : s.give t v = some (x, s')) : Moved g w φ s s' := h.moved_gone (give_gone hx)
theorem as_own {hp : Hp} {id : Nat} {cut : Option (Int × Int)} {t : Ty} {d : Bool} {xs : List t.D} (h : lookup hp id = some (.arr d t xs)) : (AV.own id cut).as hp (.sl t) = some (cutList xs cut) := by
 simp [AV.as, h, eq?_self, castD]
theorem blt_true {n m : Nat} (h : Nat.blt n m = true) : n < m := by rwa [Nat.blt_eq] at h
theorem stab_where (b : Nat) (hb : stab g b) : where_ g φ s w b := .inr (.inl hb)
theorem capsLent_rep (h : Sim g N s a w φ) : ∀ {l l' : List AV} {vs : List Value}, AVsRep w (imm g φ s.hp w.heap.size) (stab g) φ s.hp l vs → capsLent s.hp l = some l' →
  AVsRep w (imm g φ s.hp w.heap.size) (where_ g φ s w) φ s.hp l' vs ∧ AV.freeAll l' = true
 | [], l', vs, hv, hl => by
  simp only [capsLent, Option.some.injEq] at hl
  subst hl
  exact ⟨by simpa only [AVsRep] using hv, rfl⟩
 | v :: l, l', vs, hv, hl => by
  simp only [AVsRep] at hv
  obtain ⟨u, us, rfl, hv, hvs⟩ := hv
  unfold capsLent at hl
  split at hl
  case h_2 => cases hl
  rename_i k hk
  obtain ⟨ih1, ih2⟩ := capsLent_rep h hvs hk
  have hsame := (Moved.refl g w φ s).later (S := stab g) (S' := where_ g φ s w) stab_where
  have fin : ∀ {v' : AV}, AVRep w (imm g φ s.hp w.heap.size) (where_ g φ s w) φ s.hp v' u → v'.free = true →
    AVsRep w (imm g φ s.hp w.heap.size) (where_ g φ s w) φ s.hp (v' :: k) (u :: us) ∧ AV.freeAll (v' :: k) = true := by
   intro v' h1 h2
   exact ⟨by simp only [AVsRep]; exact ⟨u, us, rfl, h1, ih1⟩, by simp [AV.freeAll, h2, ih2]⟩
  split at hl
  ·rename_i id cut
   split at hl
   case h_2 => cases hl
   rename_i t xs hx
   obtain ⟨hb, hl⟩ := bif_some hl
   obtain ⟨_, hb2⟩ := Bool.and_eq_true_iff.1 hb
   cases hl
   have hne : Nat.beq id base = false := by simpa using hb2
   have hne2 : Nat.beq base id = false := by
    rw [← Bool.not_eq_true, Nat.beq_eq] at hne ⊢
    exact fun e => hne e.symm
   exact fin (by have := h.as_slice hv (as_own hx) (by simp [AV.deep, hx]) (by simp [AV.refs, memN, hne2]); simp only [AVRep]; exact this) rfl
  ·cases hf : v.free with
   | false => rw [hf] at hl; cases hl
   | true =>
    rw [hf] at hl
    simp only [cond_true, Option.some.injEq] at hl
    subst hl
    exact fin (AVRep.later hsame _ _ hv) hf
theorem passOne_rep (h : Sim g N s a w φ) {p : Par} {v v' : AV} {s' : St} {u : Value} (hv : AVRep w (imm g φ s.hp w.heap.size) (stab g) φ s.hp v u) (hp : passOne p v s = some (v', s')) :
  Sim g N s' a w φ ∧ Moved g w φ s s' ∧ AVRep w (imm g φ s'.hp w.heap.size) (where_ g φ s' w) φ s'.hp v' u ∧ (v'.free = true ∨ ∃ i o, v' = .ptr i o) := by
 have hsame := (Moved.refl g w φ s).later (S := stab g) (S' := where_ g φ s w) stab_where
 unfold passOne at hp
 split at hp
 ·cases hp
 ·rename_i t
  split at hp
  ·rename_i x s1 hg
   cases hp
   obtain ⟨h1, cs, hr, e⟩ := h.give hv hg
   exact ⟨h1, h.moved_give hg, by simp only [AVRep]; exact ⟨cs, hr, e⟩, .inl rfl⟩
  ·cases hp
 ·rename_i t
  obtain ⟨hb, hp⟩ := bif_some hp
  obtain ⟨_, hb2⟩ := Bool.and_eq_true_iff.1 hb
  obtain ⟨hb3, hb4⟩ := Bool.and_eq_true_iff.1 hb2
  split at hp
  ·rename_i xs hx
   cases hp
   exact ⟨h, Moved.refl .., by simp only [AVRep]; exact h.as_slice hv hx (by simpa using hb3) (by simpa using hb4), .inl rfl⟩
  ·cases hp
 ·split at hp
  ·rename_i id cut
   split at hp
   case h_2 => cases hp
   rename_i t xs hx
   split at hp
   ·rename_i x s1 hg
    cases hp
    obtain ⟨h1, cs, hr, e⟩ := h.give hv hg
    exact ⟨h1, h.moved_give hg, by simp only [AVRep]; exact ⟨cs, hr, e⟩, .inl rfl⟩
   ·cases hp
  ·rename_i f caps
   split at hp
   ·rename_i l hl
    cases hp
    simp only [AVRep] at hv
    obtain ⟨vs, rfl, hvs⟩ := hv
    obtain ⟨h1, h2⟩ := capsLent_rep h hvs hl
    exact ⟨h, Moved.refl .., by simp only [AVRep]; exact ⟨vs, rfl, h1⟩, .inl (by simpa only [AV.free] using h2)⟩
   ·cases hp
  ·cases hp
   exact ⟨h, Moved.refl .., AVRep.later hsame _ _ hv, .inr ⟨_, _, rfl⟩⟩
  ·cases hf : v.free with
   | false => rw [hf] at hp; cases hp
   | true =>
    rw [hf] at hp
    cases hp
    exact ⟨h, Moved.refl .., AVRep.later hsame _ _ hv, .inl hf⟩
theorem passAll_rep : ∀ {ps : List Par} {vs vs' : List AV} {us : List Value} {s s' : St}, Sim g N s a w φ → AVsRep w (imm g φ s.hp w.heap.size) (stab g) φ s.hp vs us → passAll ps vs s = some (vs', s') →
  Sim g N s' a w φ ∧ Moved g w φ s s' ∧ AVsRep w (imm g φ s'.hp w.heap.size) (where_ g φ s' w) φ s'.hp vs' us ∧ ∀ v ∈ vs', v.free = true ∨ ∃ i o, v = .ptr i o
 | [], [], vs', us, s, s', h, hv, hp => by
  simp only [passAll, Option.some.injEq, Prod.mk.injEq] at hp
  obtain ⟨rfl, rfl⟩ := hp
  exact ⟨h, Moved.refl .., by simpa only [AVsRep] using hv, by simp⟩
 | [], _ :: _, _, _, _, _, _, _, hp => by simp [passAll] at hp
 | _ :: _, [], _, _, _, _, _, _, hp => by simp [passAll] at hp
 | p :: ps, v :: vs, vs', us, s, s', h, hv, hp => by
  simp only [AVsRep] at hv
  obtain ⟨u, us', rfl, hv, hvs⟩ := hv
  unfold passAll at hp
  split at hp
  case h_2 => cases hp
  rename_i v1 s1 h1
  split at hp
  case h_2 => cases hp
  rename_i vs2 s2 h2
  cases hp
  obtain ⟨q1, q2, q3, q4⟩ := passOne_rep h hv h1
  obtain ⟨r1, r2, r3, r4⟩ := passAll_rep q1 (AVsRep.later (q2.later (S := stab g) (S' := stab g) (fun _ h => h)) _ _ hvs) h2
  refine ⟨r1, q2.trans r2, ?_, fun x hx => ?_⟩
  ·simp only [AVsRep]
   exact ⟨u, us', rfl, AVRep.later (r2.later (S := where_ g φ s1 w) (S' := where_ g φ s' w) r2.wh) _ _ q3, r3⟩
  ·rcases List.mem_cons.1 hx with rfl | hx
   ·exact q4
   ·exact r4 x hx
def idle : Act := { tmps := #[], defers := [] }
def calleeGl (g : Gl) (φ : Names) (s : St) (w : World) (c : Option Nat) : Gl :=
 { w0 := w, ok := imm g φ s.hp w.heap.size, io := fun b => c = some b, okLt := fun _ h => h.2.1, pin := c }
def Back (g : Gl) (K : AV → Hp → Prop) : Ending → World → Prop
 | .returned u, w' => ∃ r hp' φ', K r hp' ∧ Sim g 0 ⟨[], hp'⟩ idle w' φ' ∧ AVRep w' (imm g φ' hp' w'.heap.size) (stab g) φ' hp' r u
 | _, _ => False
def ConOk (P : Program) (f : FuncId) (con : Con) : Prop :=
 ∀ (g : Gl) (args : List AV) (hp : Hp) (K : AV → Hp → Prop) (φ : Names) (vals : List Value), con.run args hp K → Sim g 0 ⟨[], hp⟩ idle g.w0 φ →
  AVsRep g.w0 (imm g φ hp g.w0.heap.size) (stab g) φ hp args vals → Calls P f vals.toArray g.w0 (Back g K)
def InlOk (P : Program) (f : FuncId) (T : Inl) : Prop :=
 ∀ (g : Gl) (N : Nat) (s : St) (a : Act) (w : World) (φ : Names) (args : List AV) (vals : List Value) (K : AV → St → Prop), Sim g N s a w φ → AVsRep w (imm g φ s.hp w.heap.size) (stab g) φ s.hp args vals →
  T args s K → Calls P f vals.toArray w (fun
   | .returned u, w' => ∃ v s' φ', K v s' ∧ Sim g N s' a w' φ' ∧ AVRep w' (imm g φ' s'.hp w'.heap.size) (stab g) φ' s'.hp v u
   | _, _ => False)
def ConsOk (P : Program) (C : Ctx) : Prop := (∀ f con, lookup C.cons f = some con →
 (∀ args w, (callFunc f args).run P w = .ok (.enter f args) w) ∧ ConOk P f con) ∧
 ∀ f T, lookup C.inl f = some T → (∀ args w, (callFunc f args).run P w = .ok (.enter f args) w) ∧ InlOk P f T
theorem callee_imm (h : Sim g N s a w φ) {c : Option Nat} {φ' : Names} {hp' : Hp} (hc : ∀ id blk b, lookup hp' id = some blk → φ'.owns id b → c = some b)
  (hlive : ∀ b, c = some b → ∃ id blk, lookup s.hp id = some blk ∧ φ id = some b) :
  ∀ b, imm g φ s.hp w.heap.size b → imm (calleeGl g φ s w c) φ' hp' w.heap.size b := by
 intro b hb
 refine ⟨.inl hb, hb.2.1, fun id blk hl e => ?_⟩
 obtain ⟨i, bl, h1, h2⟩ := hlive b (hc id blk b hl e)
 exact hb.2.2 i bl h1 (.inl h2)
theorem callee_stab (h : Sim g N s a w φ) {c : Option Nat} (hbox : ∀ b, c = some b → ∃ id cs, lookup s.hp id = some (.box cs) ∧ φ id = some b) :
  ∀ b, where_ g φ s w b → stab (calleeGl g φ s w c) b := by
 intro b hb
 have key : ∀ id blk, lookup s.hp id = some blk → φ id = some b → (∀ cs, blk ≠ .box cs) → ¬ c = some b := by
  intro id blk h1 h2 h3 e
  obtain ⟨i, cs, q1, q2⟩ := hbox b e
  have := h.inj id i _ _ b h1 q1 (.inl h2) (.inl q2)
  subst this
  rw [h1] at q1
  cases q1
  exact h3 cs rfl
 rcases hb with hb | hb | ⟨id, d, t, xs, h1, h2, _⟩
 ·refine ⟨hb.2.1, fun e => ?_⟩
  obtain ⟨i, cs, q1, q2⟩ := hbox b e
  exact hb.2.2 i _ q1 (.inl q2)
 ·refine ⟨h.stab_lt hb, fun e => ?_⟩
  obtain ⟨i, cs, q1, q2⟩ := hbox b e
  exact h.stab_ne q1 q2 hb rfl
 ·exact ⟨(h.place id _ b h1 (.inl h2)).1, key id _ h1 h2 (fun cs e => by cases e)⟩
end
end Go.AE
