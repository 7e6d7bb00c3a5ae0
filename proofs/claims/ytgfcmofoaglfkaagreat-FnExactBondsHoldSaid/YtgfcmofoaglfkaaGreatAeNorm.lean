/- Forgetting what is not wanted; values as data. -/
import Derived.Test.YtgfcmofoaglfkaaGreatAeSim
namespace Go.AE
open Go Go.RowKit

section
variable {g : Gl} {N : Nat} {s : St} {a : Act} {w : World} {φ : Nat → Option Nat}

theorem lookup_keepEnv (e : Env) (l : List Nat) (j : Nat) (v : AV) (h : lookup (keepEnv e l) j = some v) : lookup e j = some v := by
  induction l with
  | nil => simp [keepEnv, lookup] at h
  | cons i l ih =>
    unfold keepEnv at h
    split at h
    · rename_i u hu
      rw [lookup_cons] at h
      split at h
      · rename_i hij
        cases h
        rw [← hij]
        exact hu
      · exact ih h
    · exact ih h

theorem lookup_pickHp (hp : Hp) (l : List Nat) (j : Nat) (b : Block) (h : lookup (pickHp hp l) j = some b) : lookup hp j = some b := by
  induction l with
  | nil => simp [pickHp, lookup] at h
  | cons i l ih =>
    unfold pickHp at h
    split at h
    · rename_i u hu
      rw [lookup_cons] at h
      split at h
      · rename_i hij
        cases h
        rw [← hij]
        exact hu
      · exact ih h
    · exact ih h

/-- Less is known. -/
theorem Sim.less (h : Sim g N s a w φ) {s' : St} (he : ∀ j v, lookup s'.env j = some v → lookup s.env j = some v) (hh : ∀ j b, lookup s'.hp j = some b → lookup s.hp j = some b) :
    Sim g N s' a w φ := by
  have L : Later w w (imm g φ s.hp w.heap.size) (imm g φ s'.hp w.heap.size) (stab g) (stab g) φ φ s.hp s'.hp :=
    ⟨fun b ⟨h1, h2, h3⟩ => ⟨h1, h2, fun j blk hj => h3 j blk (hh j blk hj)⟩, fun _ _ _ => rfl, fun _ h => h, fun _ _ _ => rfl,
      fun i blk' hi => ⟨blk', hh i blk' hi, rfl, fun t xs e => ⟨xs, e, rfl⟩, fun _ x _ cur e hg => ⟨cur, hg, rfl⟩⟩⟩
  exact ⟨h.defers, h.size, h.os, h.tape, h.output, h.hsize, h.frame, fun i j bi bj b hi hj => h.inj i j bi bj b (hh i bi hi) (hh j bj hj),
    fun i blk b hi => h.place i blk b (hh i blk hi), fun i blk hi => (h.blocks i blk (hh i blk hi)).later L (fun _ _ => rfl), fun j av hj => AVRep.later L av _ (h.env j av (he j av hj)), fun blk hb => h.pinned blk (hh base blk hb)⟩

theorem Sim.gc (h : Sim g N s a w φ) : Sim g N (gc s) a w φ :=
  h.less (s' := AE.gc s) (fun _ _ h => h) (fun j b hj => lookup_pickHp _ _ j b hj)

theorem lookup_slot {e : Env} {i : Nat} {v : AV} (h : slot e i = v) (hv : v ≠ .top) : lookup e i = some v := by
  unfold slot at h
  cases hb : Nat.blt i ghost0 with
  | false => rw [hb] at h; exact absurd h.symm hv
  | true =>
  rw [hb] at h
  simp only [cond_true] at h
  split at h
  · rename_i u hu; rw [hu, h]
  · exact absurd h.symm hv

theorem Sim.slot (h : Sim g N s a w φ) (i : Nat) : AVRep w (imm g φ s.hp w.heap.size) (stab g) φ s.hp (slot s.env i) (a.tmps.getD i undef) := by
  unfold AE.slot
  cases hb : Nat.blt i ghost0 with
  | false => simp [AVRep]
  | true =>
  simp only [cond_true]
  split
  · rename_i u hu
    have := h.env i u hu
    unfold valOf at this
    rw [hb] at this
    exact this
  · simp [AVRep]

/-! Values as data. -/
theorem fromCells_rep (w : World) (I : Nat → Prop) : ∀ {t : Ty} {l : List Value} {x : t.D} {r : List Value}, fromCells t l = some (x, r) → ∃ cs, l = cs ++ r ∧ Rep w I t x cs := by
  intro t
  induction t with
  | int k =>
    intro l x r h
    unfold fromCells at h
    split at h
    · rename_i k' n l'
      split at h
      · rename_i hk
        have hk := of_decide_eq_true hk
        subst hk
        cases h
        exact ⟨[_], rfl, rfl⟩
      · cases h
    · cases h
  | bool =>
    intro l x r h
    unfold fromCells at h
    split at h
    · cases h
      exact ⟨[_], rfl, rfl⟩
    · cases h
  | str =>
    intro l x r h
    unfold fromCells at h
    split at h
    · cases h
      exact ⟨[_], rfl, rfl⟩
    · cases h
  | unit =>
    intro l x r h
    unfold fromCells at h
    cases h
    exact ⟨[], rfl, rfl⟩
  | sl t _ =>
    intro l x r h
    unfold fromCells at h
    split at h
    · cases h
      exact ⟨[.slice none 0 0], rfl, none, 0, rfl, Nat.le_refl _, .inl rfl⟩
    · cases h
  | pair p q ihp ihq =>
    intro l x r h
    unfold fromCells at h
    split at h
    · rename_i y l' hy
      split at h
      · rename_i z l'' hz
        cases h
        obtain ⟨c1, rfl, h1⟩ := ihp hy
        obtain ⟨c2, rfl, h2⟩ := ihq hz
        exact ⟨c1 ++ c2, by simp, c1, c2, rfl, h1, h2⟩
      · cases h
    · cases h

theorem constD_rep (w : World) (I : Nat → Prop) {t : Ty} {v : Value} {x : t.D} (h : constD t v = some x) : ∃ cs, Rep w I t x cs ∧ v = mkv t cs := by
  unfold constD at h
  split at h
  · rename_i cs
    cases ha : t.agg with
    | false => simp [ha] at h
    | true =>
      simp only [ha, cond_true] at h
      split at h
      · rename_i y hy
        cases h
        obtain ⟨c, e, hr⟩ := fromCells_rep w I hy
        rw [List.append_nil] at e
        exact ⟨c, hr, by rw [← e]; simp [mkv, ha]⟩
      · cases h
  · rename_i v _
    cases ha : t.agg with
    | true => simp [ha] at h
    | false =>
      simp only [ha, cond_false] at h
      split at h
      · rename_i y hy
        cases h
        obtain ⟨c, e, hr⟩ := fromCells_rep w I hy
        rw [List.append_nil] at e
        exact ⟨c, hr, by rw [← e]; simp [mkv, ha]⟩
      · cases h

/-- A slice value, wherever its elements stand. -/
def SliceAt (w : World) (I : Nat → Prop) (T : Nat → Prop) (t : Ty) (xs : List t.D) (u : Value) : Prop :=
  ∃ A c, u = .slice A xs.length c ∧ xs.length ≤ c ∧ (xs = [] ∨ ∃ b o l, A = some ⟨b, o, none⟩ ∧ T b ∧ Cells w b o l ∧ RepL (Rep w I t) xs l)

theorem SliceAt.mono {w : World} {I T T' : Nat → Prop} {t : Ty} {xs : List t.D} {u : Value} (h : SliceAt w I T t xs u) (hT : ∀ b, T b → T' b) : SliceAt w I T' t xs u := by
  obtain ⟨A, c, h1, h2, h3⟩ := h
  refine ⟨A, c, h1, h2, ?_⟩
  rcases h3 with h3 | ⟨b, o, l, q1, q2, q3, q4⟩
  · exact .inl h3
  · exact .inr ⟨b, o, l, q1, hT b q2, q3, q4⟩

theorem SliceAt.data {w : World} {I : Nat → Prop} {t : Ty} {xs : List t.D} {u : Value} (h : SliceAt w I I t xs u) : ∃ cs, Rep w I (.sl t) xs cs ∧ u = mkv (.sl t) cs := by
  obtain ⟨A, c, rfl, h2, h3⟩ := h
  exact ⟨[.slice A xs.length c], ⟨A, c, rfl, h2, h3⟩, rfl⟩

theorem SliceAt.of_data {w : World} {I : Nat → Prop} {t : Ty} {xs : List t.D} {u : Value} (h : ∃ cs, Rep w I (.sl t) xs cs ∧ u = mkv (.sl t) cs) : SliceAt w I I t xs u := by
  obtain ⟨cs, ⟨A, c, rfl, h2, h3⟩, rfl⟩ := h
  exact ⟨A, c, rfl, h2, h3⟩

/-- Where the elements of a slice may stand: in fixed memory, in what was lent, or in an array of the call's own. -/
def where_ (g : Gl) (φ : Nat → Option Nat) (s : St) (w : World) (b : Nat) : Prop :=
  imm g φ s.hp w.heap.size b ∨ stab g b ∨ ∃ id t xs, lookup s.hp id = some (.arr t xs) ∧ φ id = some b

theorem eq?_eq {t u : Ty} {h : PLift (t = u)} (_ : Ty.eq? t u = some h) : t = u := h.down

/-- A slice that is read out. -/
theorem Sim.as_slice (h : Sim g N s a w φ) {v : AV} {u : Value} (hv : AVRep w (imm g φ s.hp w.heap.size) (stab g) φ s.hp v u) {t : Ty} {xs : List t.D} (hx : v.as s.hp (.sl t) = some xs) :
    SliceAt w (imm g φ s.hp w.heap.size) (where_ g φ s w) t xs u := by
  unfold AV.as at hx
  split at hx
  · rename_i t' ys
    split at hx
    · rename_i hh _
      cases hh
      cases hx
      simp only [AVRep] at hv
      exact SliceAt.mono hv (fun b hb => .inr (.inl hb))
    · cases hx
  · rename_i t' y
    split at hx
    · rename_i hh _
      cases hh
      cases hx
      simp only [AVRep] at hv
      exact (SliceAt.of_data hv).mono (fun b hb => .inl hb)
    · cases hx
  · rename_i c
    simp only [AVRep] at hv
    obtain ⟨cs, hr, e⟩ := constD_rep w (imm g φ s.hp w.heap.size) hx
    exact (SliceAt.of_data ⟨cs, hr, hv.trans e⟩).mono (fun b hb => .inl hb)
  · rename_i id cut
    split at hx
    · rename_i t' ys hl
      split at hx
      · rename_i hh _
        cases hh
        cases hx
        simp only [AVRep] at hv
        obtain ⟨t2, xs2, e, ho⟩ := hv _ hl
        cases e
        obtain ⟨v0, e0, l0, q1, q2, q3⟩ := h.blocks id _ hl
        obtain ⟨A, c, p1, p2, p3⟩ := own_open q1 q2 q3 ho
        refine ⟨A, c, p1, p2, ?_⟩
        rcases p3 with p3 | ⟨b, o, k, r1, r2, r3, r4⟩
        · exact .inl p3
        · exact .inr ⟨b, o, k, r1, .inr (.inr ⟨id, t, ys, hl, r2⟩), r3, r4⟩
      · cases hx
    · cases hx
  · cases hx

/-- A datum that is kept. -/
theorem Sim.give (h : Sim g N s a w φ) {v : AV} {u : Value} (hv : AVRep w (imm g φ s.hp w.heap.size) (stab g) φ s.hp v u) {t : Ty} {x : t.D} {s' : St} (hx : s.give t v = some (x, s')) :
    Sim g N s' a w φ ∧ ∃ cs, Rep w (imm g φ s'.hp w.heap.size) t x cs ∧ u = mkv t cs := by
  unfold St.give at hx
  split at hx
  case h_2 => cases hx
  case h_1 y hy =>
    split at hx
    · rename_i id cut
      cases hx
      have hf := h.freeze id
      refine ⟨hf, ?_⟩
      unfold AV.as at hy
      simp only at hy
      split at hy
      · rename_i t' ys hl
        split at hy
        · rename_i hh _
          cases hh
          cases hy
          simp only [AVRep] at hv
          obtain ⟨t2, xs2, e, ho⟩ := hv _ hl
          cases e
          obtain ⟨v0, e0, l0, q1, q2, q3⟩ := h.blocks id _ hl
          obtain ⟨A, c, p1, p2, p3⟩ := own_open q1 q2 q3 ho
          have hlk : ∀ j blk', lookup (s.freeze id).hp j = some blk' → j ≠ id ∧ ∃ blk, lookup s.hp j = some blk := by
            intro j blk' hj
            unfold St.freeze at hj
            rw [hl] at hj
            simp only [lookup_mapHp, lookup_erase] at hj
            by_cases hji : j = id
            · simp [hji] at hj
            · rw [if_neg hji] at hj
              cases hq : lookup s.hp j with
              | none => simp [hq] at hj
              | some blk => exact ⟨hji, blk, rfl⟩
          refine ⟨[.slice A (cutList ys cut).length c], ⟨A, c, rfl, p2, ?_⟩, p1⟩
          rcases p3 with p3 | ⟨b, o, k, r1, r2, r3, r4⟩
          · exact .inl p3
          · refine .inr ⟨b, o, k, r1, ?_, r3, r4.mono' ?_ (fun _ _ _ => rfl)⟩
            · obtain ⟨z1, z2⟩ := h.place id _ b hl r2
              refine ⟨.inr (z2.resolve_right (fun q => q.2.1 _ _ rfl)), z1, fun j blk' hj hjb => ?_⟩
              obtain ⟨hne, blk, hq⟩ := hlk j blk' hj
              exact hne (h.inj j id _ _ b hq hl hjb r2)
            · rintro b' ⟨i1, i2, i3⟩
              refine ⟨i1, i2, fun j blk' hj => ?_⟩
              obtain ⟨_, blk, hq⟩ := hlk j blk' hj
              exact i3 j blk hq
        · cases hy
      · cases hy
    · cases hx
    · rename_i h1 h2
      cases hx
      refine ⟨h, ?_⟩
      unfold AV.as at hy
      split at hy
      · exact absurd rfl (h2 _ _)
      · split at hy
        · rename_i hh _
          cases hh
          cases hy
          simp only [AVRep] at hv
          exact hv
        · cases hy
      · simp only [AVRep] at hv
        obtain ⟨cs, hr, e⟩ := constD_rep w (imm g φ s.hp w.heap.size) hy
        exact ⟨cs, hr, hv.trans e⟩
      · exact absurd rfl (h1 _ _)
      · cases hy

end
end Go.AE
