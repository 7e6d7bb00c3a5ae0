/- Plans turned, each once: what the code computes. -/
import Derived.Test.YtckamkecfekneaaGreatAeF
import Derived.Test.YtckamkecfekneaaGreatAeMU
import Derived.Test.YtckamkecfekneaaGreatAeEqH
import Derived.Test.YtckamkecfekneaaGreatAeEqP
namespace Go.AE
open Go Go.RowKit
set_option linter.unusedVariables false
set_option linter.unusedSimpArgs false
theorem each_tailL {α β ρ : Type} {f : α → List β → Option (Sum (List β) ρ)} (g : α → β) : ∀ (xs : List α) (s : List β), (∀ z ∈ xs, ∀ v : List β, v.length < s.length + xs.length → f z v = some (.inl (v ++ [g z]))) → eachD f xs s = some (.inl (s ++ xs.map g))
 | [], s, _ => by simp
 | x :: xs, s, h => by
  rw [eachD_cons, h x (by simp) s (by simp), thenD_inl, each_tailL g xs (s ++ [g x]) (fun z hz v hv => h z (by simp [hz]) v (by simp at hv ⊢; omega))]
  simp
theorem each_tailR {t : Ty} {β ρ : Type} {f : Int → List β → Option (Sum (List β) ρ)} (g : t.D → β) (xs : List t.D) (B : Nat) : ∀ (R A : List t.D) (s : List β), xs = A ++ R → s.length + R.length ≤ B →
  (∀ i v, 0 ≤ i → i < (xs.length : Int) → v.length < B → f i v = some (.inl (v ++ [g (nth (t := t) xs i)]))) → eachD f (rangeI (A.length : Int) (xs.length : Int)) s = some (.inl (s ++ R.map g))
 | [], A, s, e, _, _ => by
  rw [rangeI_nil (by rw [e]; simp)]
  simp
 | x :: R, A, s, e, hs, h => by
  have hl : xs.length = A.length + (R.length + 1) := by rw [e]; simp
  simp only [List.length_cons] at hs
  have hx : nth (t := t) xs (A.length : Int) = x := by
   rw [e]
   unfold nth
   rw [List.getD_eq_getElem?_getD]
   simp
  rw [rangeI_cons (by omega), eachD_cons, h _ s (by omega) (by omega) (by omega), thenD_inl, hx]
  have := each_tailR g xs B R (A ++ [x]) (s ++ [g x]) (by rw [e]; simp) (by simp; omega) h
  rw [show (((A ++ [x]).length : Nat) : Int) = (A.length : Int) + 1 by simp] at this
  rw [this]
  simp
theorem each_inplace {t : Ty} {ρ : Type} (g : t.D → t.D) (N : Nat) {f : Int → List t.D → Option (Sum (List t.D) ρ)} : ∀ (R A : List t.D), A.length + R.length = N →
  (∀ x ∈ R, ∀ A' R' : List t.D, A'.length + 1 + R'.length = N → f (A'.length : Int) (A' ++ x :: R') = some (.inl (A' ++ g x :: R'))) → eachD f (rangeI (A.length : Int) (N : Int)) (A ++ R) = some (.inl (A ++ R.map g))
 | [], A, hl, _ => by
  rw [rangeI_nil (by simp at hl; omega)]
  simp
 | x :: R, A, hl, h => by
  simp only [List.length_cons] at hl
  rw [rangeI_cons (by omega), eachD_cons, h x (by simp) A R (by omega), thenD_inl]
  have := each_inplace g N R (A ++ [g x]) (by simp; omega) (fun z hz => h z (by simp [hz]))
  rw [show (((A ++ [g x]).length : Nat) : Int) = (A.length : Int) + 1 by simp, show (A ++ [g x] ++ R : List t.D) = A ++ g x :: R by simp] at this
  rw [this]
  simp
theorem nth_mid {t : Ty} {A R : List t.D} {x : t.D} : nth (t := t) (A ++ x :: R) (A.length : Int) = x := by
 unfold nth
 rw [List.getD_eq_getElem?_getD]
 simp
theorem set_mid {α : Type} {A R : List α} {x y : α} : (A ++ x :: R).set ((A.length : Int)).toNat y = A ++ y :: R := by simp
namespace M
theorem kind_cols {c : List TColumn.D} {e : List TPart.D} (h : 0 ≤ exprKind c e) : colsIn e c.length := depth_cols _ _ (kind_safe h).2
theorem both_sm {a b : List TPart.D} (ha : Sm (.sl TPart) a) (hb : Sm (.sl TPart) b) (h1 : a.length ≤ 12) (h2 : b.length ≤ 12) : Sm (.sl TPart) (bothE a b) := by
 refine ⟨?_, fun p hp => ?_⟩
 ·show (a ++ b ++ [andP]).length ≤ 1048576
  simp
  omega
 ·rcases List.mem_append.1 (show p ∈ a ++ b ++ [andP] from hp) with hp | hp
  ·rcases List.mem_append.1 hp with hp | hp
   ·exact ha.2 p hp
   ·exact hb.2 p hp
  ·rw [List.mem_singleton.1 hp]
   exact ⟨trivial, trivial, ⟨trivial, trivial, Nat.zero_le _, trivial⟩, trivial⟩
theorem moved_sm {e : List TPart.D} {to : List Int} (h : Sm (.sl TPart) e) : Sm (.sl TPart) (moved e to) := by
 refine ⟨?_, fun p hp => ?_⟩
 ·show (e.map _).length ≤ 1048576
  rw [List.length_map]
  exact h.1
 ·obtain ⟨q, hq, rfl⟩ := List.mem_map.1 hp
  have := h.2 q hq
  unfold movedP
  cases decide (q.1 = (2 : Int))
  ·exact this
  ·exact ⟨trivial, trivial, this.2.2⟩
theorem mk_sm {k a b : Int} {e : List TPart.D} {l : List Int} (he : Sm (.sl TPart) e) (hl : l.length ≤ 1048576) : Sm TStep (mkS k a b e l) := ⟨trivial, trivial, trivial, trivial, he, ⟨hl, fun _ _ => trivial⟩, trivial⟩
theorem pick_all {α : Type} {P : α → Prop} {b : Bool} {xs ys : List α} (h1 : b = true → ∀ x ∈ xs, P x) (h2 : ∀ x ∈ ys, P x) : ∀ x ∈ cond b xs ys, P x := by
 cases b
 ·exact h2
 ·exact h1 rfl
theorem new_sm {s j : TStep.D} (at_ rule : Int) (hs : Sm TStep s) (hj : Sm TStep j) (h1 : s.1 = (2 : Int) → s.2.2.2.2.1.length ≤ 12) (h2 : j.1 = (2 : Int) ∨ j.1 = (4 : Int) → j.2.2.2.2.1.length ≤ 12) : Sm (.sl TStep) (newOf s j at_ rule) := by
 refine ⟨Nat.le_trans (new_len s j at_ rule) (by decide), ?_⟩
 have e0 : Sm (.sl TPart) ([] : List TPart.D) := ⟨Nat.zero_le _, fun _ h => by cases h⟩
 have z0 : ∀ x ∈ ([] : List TStep.D), Sm TStep x := fun _ h => by cases h
 obtain ⟨_, _, _, _, se, sl, _⟩ := hs
 obtain ⟨_, _, _, _, je, jl, _⟩ := hj
 have hl : ([] : List Int).length ≤ 1048576 := by decide
 have hb : ∀ a b : Bool, (a && b) = true → a = true ∧ b = true := fun a b h => Bool.and_eq_true_iff.1 h
 unfold newOf
 refine pick_all (fun _ => pick_all (fun c => ?_) z0) (pick_all (fun _ => pick_all (fun c => ?_) z0) (pick_all (fun _ => pick_all (fun c => ?_) z0) (pick_all (fun _ => pick_all (fun c => ?_) z0) (pick_all (fun _ => pick_all (fun c => ?_) z0) (pick_all (fun _ => pick_all (fun c => ?_) z0) (pick_all (fun _ => pick_all (fun c => ?_) z0) z0))))))
 ·obtain ⟨c1, c2⟩ := hb _ _ c
  intro x hx
  rw [List.mem_singleton.1 hx]
  exact mk_sm (both_sm je se (h2 (.inl (of_decide_eq_true c2))) (h1 (of_decide_eq_true c1))) hl
 ·obtain ⟨c1, c2⟩ := hb _ _ c
  intro x hx
  rw [List.mem_singleton.1 hx]
  exact mk_sm (both_sm je se (h2 (.inr (of_decide_eq_true c2))) (h1 (of_decide_eq_true c1))) hl
 ·intro x hx
  rcases List.mem_cons.1 hx with rfl | hx
  ·exact mk_sm (moved_sm se) hl
  ·rw [List.mem_singleton.1 hx]
   exact mk_sm e0 jl.1
 ·intro x hx
  rcases List.mem_cons.1 hx with rfl | hx
  ·exact mk_sm se hl
  ·rw [List.mem_singleton.1 hx]
   exact mk_sm e0 hl
 ·intro x hx
  rcases List.mem_cons.1 hx with rfl | hx
  ·exact mk_sm se hl
  rcases List.mem_cons.1 hx with rfl | hx
  ·exact mk_sm se hl
  ·rw [List.mem_singleton.1 hx]
   exact mk_sm e0 hl
 ·intro x hx
  rw [List.mem_singleton.1 hx]
  exact mk_sm e0 (by rw [List.length_map]; exact sl.1)
 ·intro x hx
  rw [List.mem_singleton.1 hx]
  exact mk_sm e0 hl
theorem turn_facts {tables : List TTable.D} {plan : List TStep.D} (hp : planOk tables plan = true) (hs : Sm (.sl TStep) plan) {at_ : Int} (h0 : 0 ≤ at_) (h1 : at_ < (plan.length : Int)) :
  turnSafe plan at_ ∧ turnCols (planAll tables plan).1 plan at_ ∧ (∀ x ∈ (planAll tables plan).1, x.length ≤ 4) ∧ (planAll tables plan).1.length = plan.length ∧ ∀ rule, Sm (.sl TStep) (newSteps plan at_ rule) := by
 have ht : tablesOk tables = true := by
  unfold planOk at hp
  exact (Bool.and_eq_true_iff.1 (Bool.and_eq_true_iff.1 hp).2).1
 obtain ⟨st, hr, hst⟩ : ∃ st, foldO (planStep tables) plan ([], []) = some st ∧ (planAll tables plan).1 = st.1 := by
  unfold planOk at hp
  have h := (Bool.and_eq_true_iff.1 hp).1
  unfold planAll at h ⊢
  cases hr : planRun tables plan with
  | none => rw [hr] at h; cases h
  | some st => exact ⟨st, hr, rfl⟩
 rw [hst]
 have h4 := foldO_four ht plan ([], []) st (fun _ h => by cases h) hr
 have hlen : st.1.length = plan.length := by
  have := (foldO_ext plan ([], []) st hr).1
  simpa using this
 have hat : ∀ i : Int, 0 ≤ i → i < (plan.length : Int) → ∃ a : List (List TColumn.D), stepCols tables a (nth (t := TStep) plan i) = some (nth (t := .sl TColumn) st.1 i) ∧ (a.length : Int) = i ∧ ∀ k : Int, 0 ≤ k → k < i → nth (t := .sl TColumn) a k = nth (t := .sl TColumn) st.1 k := by
  intro i i0 i1
  obtain ⟨a, a1, a2, a3⟩ := foldO_at plan ([], []) st hr i i0 i1
  rw [show ((([] : List (List TColumn.D)).length : Nat) : Int) + i = i by simp] at a1 a2
  exact ⟨a, a1, a2, fun k k0 k1 => a3 k k0 (by omega)⟩
 obtain ⟨a, a1, a2, a3⟩ := hat at_ h0 h1
 have hin := stepCols_in a1
 rw [a2] at hin
 unfold turnSafe turnCols newSteps
 have sS := sm_nth hs at_
 have sJ := sm_nth hs (nth (t := TStep) plan at_).2.1
 revert a1 hin sS sJ
 generalize nth (t := TStep) plan at_ = s
 intro a1 hin sS sJ
 by_cases k1 : s.1 = (1 : Int)
 ·refine ⟨⟨⟨h0, h1⟩, fun h => absurd k1 h, fun h => ?_, fun h => ?_⟩, fun h => ?_, h4, hlen, fun rule => ?_⟩
  ·rw [k1] at h; exact absurd h (by decide)
  ·rw [k1] at h; exact absurd h (by decide)
  ·rw [k1] at h; exact absurd h (by decide)
  ·have : newOf s (nth (t := TStep) plan s.2.1) at_ rule = [] := by
    unfold newOf
    rw [k1]
    cases decide (rule = (1 : Int)) <;> cases decide (rule = (2 : Int)) <;> cases decide (rule = (3 : Int)) <;> cases decide (rule = (4 : Int)) <;> cases decide (rule = (5 : Int)) <;> cases decide (rule = (6 : Int)) <;> cases decide (rule = (7 : Int)) <;> rfl
   rw [this]
   exact ⟨Nat.zero_le _, fun _ h => by cases h⟩
 obtain ⟨⟨q0, q1⟩, _⟩ := hin k1
 obtain ⟨b, b1, b2, b3⟩ := hat s.2.1 q0 (Int.lt_trans q1 h1)
 have hjin := stepCols_in b1
 rw [b2] at hjin
 have eA := a3 s.2.1 q0 q1
 revert b1 hjin sJ
 generalize nth (t := TStep) plan s.2.1 = j
 intro sJ b1 hjin
 have hw : s.1 = (2 : Int) → exprKind (nth (t := .sl TColumn) st.1 s.2.1) s.2.2.2.2.1 = 3 := fun h => by
  have := cols_where a1 h
  rw [eA] at this
  exact this
 refine ⟨⟨⟨h0, h1⟩, fun _ => ⟨q0, Int.lt_trans q1 h1⟩, fun h2 h3 => ?_, fun h2 h3 z hz => ?_⟩, fun h2 h3 => ⟨by rw [hlen]; exact Int.lt_trans q1 h1, ?_⟩, h4, hlen, fun rule => ?_⟩
 ·have := kind_cols (c := nth (t := .sl TColumn) st.1 s.2.1) (e := s.2.2.2.2.1) (by rw [hw h2]; decide)
  rw [(cols_take b1 h3).2] at this
  exact this
 ·have := (cols_take a1 h2).1 z hz
  rw [eA, (cols_take b1 h3).2] at this
  have l1 := inR_lo this
  have l2 := inR_hi' this
  exact ⟨l1, Int.lt_of_le_sub_one l2⟩
 ·have hk := hw h2
  obtain ⟨t1, t2⟩ := cols_take b1 h3
  unfold exprMoved
  rw [hk, t2]
  have hany : (j.2.2.2.2.2.1.any fun z => !(inR z 0 3)) = false := by
   rw [List.any_eq_false]
   intro z hz
   have l := t1 z hz
   have hj1 : ¬ j.1 = (1 : Int) := by rw [h3]; decide
   obtain ⟨⟨r0, r1⟩, _⟩ := hjin hj1
   rw [b3 j.2.1 r0 r1] at l
   have l4 := four_nth h4 j.2.1
   have l1 := inR_lo l
   have l2 := inR_hi' l
   unfold inR
   simp only [Bool.not_eq_true', Bool.and_eq_false_iff, decide_eq_false_iff_not]
   omega
  rw [hany]
  simp
 ·refine new_sm at_ rule sS sJ (fun h => kind_len (hw h)) (fun h => ?_)
  rcases h with h | h
  ·exact kind_len (cols_where b1 h)
  ·obtain ⟨q, hq⟩ := cols_join b1 h
   exact kind_len hq
theorem turned_sm {tables : List TTable.D} {plan : List TStep.D} (hp : planOk tables plan = true) (hs : Sm (.sl TStep) plan) {at_ : Int} (h0 : 0 ≤ at_) (h1 : at_ < (plan.length : Int)) (rule : Int) : Sm (.sl TStep) (turned tables plan at_ rule).1 := by
 have hn := (turn_facts hp hs h0 h1).2.2.2.2 rule
 unfold turned
 cases decide (((newSteps plan at_ rule).length : Int) = (0 : Int)) <;> cases planOk tables (putSteps plan at_ (newSteps plan at_ rule)) <;> first | exact hs | exact put_sm hs (plan_six hp) hn (new_len _ _ _ _)
end M
end Go.AE
