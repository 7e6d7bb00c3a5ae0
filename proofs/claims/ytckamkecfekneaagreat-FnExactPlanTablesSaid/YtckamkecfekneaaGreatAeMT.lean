/- Which tables a plan names: plain Lean. -/
import Derived.Test.YtckamkecfekneaaGreatAeMS
namespace Go.AE
open Go Go.RowKit
set_option linter.unusedVariables false
def M.askStep (plan : List TStep.D) (k : Int) (v : List Bool × List Bool) : List Bool × List Bool :=
 (needStep plan k v.1, cond (nth (t := .bool) v.1 k && decide ((nth (t := TStep) plan k).1 = (1 : Int))) (v.2.set (nth (t := TStep) plan k).2.2.2.1.toNat true) v.2)
def M.asked (n : Nat) (plan : List TStep.D) : List Bool := (downRun (askStep plan) plan.length ((List.replicate plan.length false).set (plan.length - 1) true, List.replicate n false)).2
def M.planTables (tables : List TTable.D) (plan : List TStep.D) : List Int := cond (planOk tables plan) ((rangeI 0 (tables.length : Int)).filter fun k => nth (t := .bool) (asked tables.length plan) k) []
def M.namedTables (plan : List TStep.D) : List Int := ((rangeI 0 (plan.length : Int)).filter fun k => nth (t := .bool) (needs plan) k && decide ((nth (t := TStep) plan k).1 = (1 : Int))).map fun k => (nth (t := TStep) plan k).2.2.2.1
namespace M
theorem fold_at {σ α : Type} (g : σ → α → Option σ) : ∀ (xs : List α) (s r : σ), foldO g xs s = some r → ∀ x ∈ xs, ∃ s1 s2, g s1 x = some s2
 | y :: xs, s, r, h, x, hx => by
  unfold foldO at h
  cases hg : g s y with
  | none => rw [hg] at h; cases h
  | some s' =>
   rw [hg] at h
   rcases List.mem_cons.1 hx with rfl | hx
   ·exact ⟨s, s', hg⟩
   ·exact fold_at g xs s' r h x hx
theorem planOk_tab {tables : List TTable.D} {plan : List TStep.D} (h : planOk tables plan = true) {s : TStep.D} (hs : s ∈ plan) (h1 : s.1 = (1 : Int)) : 0 ≤ s.2.2.2.1 ∧ s.2.2.2.1 < (tables.length : Int) := by
 unfold planOk at h
 obtain ⟨h2, _⟩ := Bool.and_eq_true_iff.1 h
 unfold planAll at h2
 cases hr : planRun tables plan with
 | none => rw [hr] at h2; cases h2
 | some st =>
  obtain ⟨s1, s2, hg⟩ := fold_at _ plan _ _ hr s hs
  obtain ⟨c, hc, _⟩ := planStep_some hg
  unfold stepCols at hc
  cases hf : fieldsOk s with
  | false => rw [hf] at hc; cases hc
  | true =>
   rw [hf, decide_eq_true h1, cond_true, cond_true] at hc
   cases hi : inR s.2.2.2.1 0 ((tables.length : Int) - 1) with
   | false => rw [hi] at hc; cases hc
   | true => exact inR_iff.1 hi
theorem nth_set_self {t : Ty} {a : List t.D} {i : Int} {z : t.D} (h0 : 0 ≤ i) (h1 : i < (a.length : Int)) : nth (t := t) (a.set i.toNat z) i = z := by
 unfold nth
 rw [List.getD_eq_getElem?_getD, List.getElem?_set_self (by omega)]
 rfl
theorem need_above {plan : List TStep.D} {k j : Int} {u : List Bool} (hin : stepIn k (nth (t := TStep) plan k)) (hk : k ≤ j) : nth (t := .bool) (needStep plan k u) j = nth (t := .bool) u j := by
 unfold needStep
 by_cases h1 : (nth (t := TStep) plan k).1 = (1 : Int)
 ·rw [decide_eq_true h1]
  simp
 ·obtain ⟨⟨a0, a1⟩, ⟨b0, b1⟩⟩ := hin h1
  have j0 : 0 ≤ j := Int.le_trans a0 (Int.le_trans (Int.le_of_lt a1) hk)
  have na := Int.ne_of_lt (Int.lt_of_lt_of_le a1 hk)
  have nb := Int.ne_of_lt (Int.lt_of_lt_of_le b1 hk)
  rw [decide_eq_false h1]
  cases nth (t := .bool) u k with
  | false => rfl
  | true =>
   simp only [Bool.not_false, Bool.and_true, cond_true]
   cases two (nth (t := TStep) plan k).1 with
   | false => rw [cond_false, nth_set_ne a0 j0 na]
   | true => rw [cond_true, nth_set_ne b0 j0 nb, nth_set_ne a0 j0 na]
theorem needs_above {plan : List TStep.D} (hr : refsOk plan) : ∀ (n : Nat) (u : List Bool) (j : Int), (n : Int) ≤ (plan.length : Int) → (n : Int) ≤ j → nth (t := .bool) (downRun (needStep plan) n u) j = nth (t := .bool) u j
 | 0, u, j, _, _ => rfl
 | n + 1, u, j, hn, hj => by
  rw [show downRun (needStep plan) (n + 1) u = downRun (needStep plan) n (needStep plan (n : Int) u) from rfl, needs_above hr n _ j (by omega) (by omega)]
  exact need_above (hr.2 n (by omega) (by omega)) (by omega)
theorem ask_run {plan : List TStep.D} (hr : refsOk plan) {T : Nat} (ht : ∀ k : Int, 0 ≤ k → k < (plan.length : Int) → (nth (t := TStep) plan k).1 = (1 : Int) → 0 ≤ (nth (t := TStep) plan k).2.2.2.1 ∧ (nth (t := TStep) plan k).2.2.2.1 < (T : Int)) :
  ∀ (n : Nat) (u a : List Bool), (n : Int) ≤ (plan.length : Int) → a.length = T → (downRun (askStep plan) n (u, a)).1 = downRun (needStep plan) n u ∧ (downRun (askStep plan) n (u, a)).2.length = T ∧
   ∀ j : Int, 0 ≤ j → j < (T : Int) → (nth (t := .bool) (downRun (askStep plan) n (u, a)).2 j = true ↔ nth (t := .bool) a j = true ∨ ∃ k : Int, 0 ≤ k ∧ k < (n : Int) ∧ nth (t := .bool) (downRun (needStep plan) n u) k = true ∧ (nth (t := TStep) plan k).1 = (1 : Int) ∧ (nth (t := TStep) plan k).2.2.2.1 = j)
 | 0, u, a, _, ha => ⟨rfl, ha, fun j _ _ => ⟨.inl, fun h => h.elim id fun ⟨k, h1, h2, _⟩ => absurd h2 (by omega)⟩⟩
 | n + 1, u, a, hn, ha => by
  have hl : (askStep plan (n : Int) (u, a)).2.length = T := by
   unfold askStep
   cases (nth (t := .bool) u n && decide ((nth (t := TStep) plan n).1 = (1 : Int))) with
   | false => exact ha
   | true => show (List.set _ _ _).length = T; rw [List.length_set]; exact ha
  obtain ⟨h1, h2, h3⟩ := ask_run hr ht n (askStep plan (n : Int) (u, a)).1 (askStep plan (n : Int) (u, a)).2 (by omega) hl
  refine ⟨h1, h2, fun j j0 j1 => ?_⟩
  have e1 : downRun (askStep plan) (n + 1) (u, a) = downRun (askStep plan) n ((askStep plan (n : Int) (u, a)).1, (askStep plan (n : Int) (u, a)).2) := rfl
  have e2 : downRun (needStep plan) (n + 1) u = downRun (needStep plan) n (askStep plan (n : Int) (u, a)).1 := rfl
  have hself : nth (t := .bool) (downRun (needStep plan) n (askStep plan (n : Int) (u, a)).1) (n : Int) = nth (t := .bool) u (n : Int) := by
   rw [needs_above hr n _ _ (by omega) (Int.le_refl _)]
   exact need_above (hr.2 n (by omega) (by omega)) (Int.le_refl _)
  rw [e1, e2, h3 j j0 j1]
  have hset : nth (t := .bool) (askStep plan (n : Int) (u, a)).2 j = true ↔ nth (t := .bool) a j = true ∨ (nth (t := .bool) u (n : Int) = true ∧ (nth (t := TStep) plan (n : Int)).1 = (1 : Int) ∧ (nth (t := TStep) plan (n : Int)).2.2.2.1 = j) := by
   unfold askStep
   by_cases hu : nth (t := .bool) u (n : Int) = true
   ·by_cases hk : (nth (t := TStep) plan (n : Int)).1 = (1 : Int)
    ·obtain ⟨t0, t1⟩ := ht n (by omega) (by omega) hk
     rw [show (nth (t := .bool) u (n : Int) && decide ((nth (t := TStep) plan (n : Int)).1 = (1 : Int))) = true by rw [hu, decide_eq_true hk]; rfl, cond_true]
     by_cases hj : (nth (t := TStep) plan (n : Int)).2.2.2.1 = j
     ·rw [hj, nth_set_self j0 (by rw [ha]; exact j1)]
      exact ⟨fun _ => .inr ⟨hu, hk, rfl⟩, fun _ => rfl⟩
     ·rw [nth_set_ne t0 j0 hj]
      exact ⟨.inl, fun h => h.elim id fun h => absurd h.2.2 hj⟩
    ·rw [show (nth (t := .bool) u (n : Int) && decide ((nth (t := TStep) plan (n : Int)).1 = (1 : Int))) = false by rw [decide_eq_false hk]; simp, cond_false]
     exact ⟨.inl, fun h => h.elim id fun h => absurd h.2.1 hk⟩
   ·rw [show (nth (t := .bool) u (n : Int) && decide ((nth (t := TStep) plan (n : Int)).1 = (1 : Int))) = false by rw [Bool.eq_false_iff.2 hu]; rfl, cond_false]
    exact ⟨.inl, fun h => h.elim id fun h => absurd h.1 hu⟩
  rw [hset]
  constructor
  ·rintro ((h | ⟨q1, q2, q3⟩) | ⟨k, k0, k1, k2, k3, k4⟩)
   ·exact .inl h
   ·exact .inr ⟨n, by omega, by omega, by rw [hself]; exact q1, q2, q3⟩
   ·exact .inr ⟨k, k0, by omega, k2, k3, k4⟩
  ·rintro (h | ⟨k, k0, k1, k2, k3, k4⟩)
   ·exact .inl (.inl h)
   ·by_cases hk : k = (n : Int)
    ·subst hk
     rw [hself] at k2
     exact .inl (.inr ⟨k2, k3, k4⟩)
    ·exact .inr ⟨k, k0, by omega, k2, k3, k4⟩
theorem named_is {tables : List TTable.D} {plan : List TStep.D} (h : planOk tables plan = true) : compact (isort (namedTables plan)) = planTables tables plan := by
 have hr := planOk_refs h
 have ht : ∀ k : Int, 0 ≤ k → k < (plan.length : Int) → (nth (t := TStep) plan k).1 = (1 : Int) → 0 ≤ (nth (t := TStep) plan k).2.2.2.1 ∧ (nth (t := TStep) plan k).2.2.2.1 < (tables.length : Int) := fun k k0 k1 hk => planOk_tab h (nth_mem' (t := TStep) k0 k1) hk
 obtain ⟨_, _, h3⟩ := ask_run hr ht plan.length ((List.replicate plan.length false).set (plan.length - 1) true) (List.replicate tables.length false) (Int.le_refl _) (by simp)
 unfold planTables
 rw [h, cond_true]
 refine sorted_is ((rangeI_strict _ _).sublist List.filter_sublist) fun z => ?_
 unfold namedTables
 rw [List.mem_map, List.mem_filter, mem_rangeI]
 have hz : ∀ j : Int, ¬ nth (t := .bool) (List.replicate tables.length false) j = true := by
  intro j hj
  unfold nth at hj
  rw [List.getD_eq_getElem?_getD, List.getElem?_replicate] at hj
  split at hj <;> cases hj
 constructor
 ·rintro ⟨k, hk, rfl⟩
  obtain ⟨hk1, hk2⟩ := List.mem_filter.1 hk
  obtain ⟨k0, k1⟩ := mem_rangeI.1 hk1
  obtain ⟨q1, q2⟩ := Bool.and_eq_true_iff.1 hk2
  have q2 := of_decide_eq_true q2
  obtain ⟨t0, t1⟩ := ht k k0 k1 q2
  exact ⟨⟨t0, t1⟩, (h3 _ t0 t1).2 (.inr ⟨k, k0, k1, q1, q2, rfl⟩)⟩
 ·rintro ⟨⟨t0, t1⟩, hn⟩
  rcases (h3 z t0 t1).1 hn with hn | ⟨k, k0, k1, k2, k3, k4⟩
  ·exact absurd hn (hz z)
  ·exact ⟨k, List.mem_filter.2 ⟨mem_rangeI.2 ⟨k0, k1⟩, Bool.and_eq_true_iff.2 ⟨k2, decide_eq_true k3⟩⟩, k4⟩
theorem planTables_sm {tables : List TTable.D} {plan : List TStep.D} (h : Sm (.sl TTable) tables) : Sm (.sl (.int .i64)) (planTables tables plan) := by
 unfold planTables
 refine sm_cond ⟨?_, fun _ _ => trivial⟩ (sm_nil _)
 refine Nat.le_trans (List.length_filter_le _ _) ?_
 have := h.1
 show (rangeI 0 (tables.length : Int)).length ≤ 1048576
 unfold rangeI
 rw [List.length_map, List.length_range]
 omega
theorem named_len (plan : List TStep.D) : (namedTables plan).length ≤ plan.length := by
 unfold namedTables
 rw [List.length_map]
 refine Nat.le_trans (List.length_filter_le _ _) ?_
 unfold rangeI
 rw [List.length_map, List.length_range]
 omega
theorem while_downO {σ τ : Type} {f : Int × σ → Option (Sum (Int × σ) τ)} (g : Int → σ → σ) (o : σ → τ) (I : σ → Prop) (N : Nat)
  (h : ∀ (k : Int) (u : σ), 0 ≤ k → k < (N : Int) → I u → f (k, u) = some (.inl (k - 1, g k u)) ∧ I (g k u)) (he : ∀ u, I u → f (-1, u) = some (.inr (o u))) :
  ∀ (n : Nat) (u : σ), n ≤ N → I u → whileD f ((n : Int) - 1, u) = some (o (downRun g n u)) ∧ I (downRun g n u)
 | 0, u, _, hI => by
  rw [whileD_step, show ((0 : Nat) : Int) - 1 = -1 from rfl, he u hI]
  exact ⟨rfl, hI⟩
 | n + 1, u, hn, hI => by
  obtain ⟨h1, h2⟩ := h (n : Int) u (by omega) (by omega) hI
  rw [whileD_step, show ((n + 1 : Nat) : Int) - 1 = (n : Int) by omega, h1, thenD_inl]
  exact while_downO g o I N h he n _ (by omega) h2
theorem each_ipick {ρ : Type} {f : Int → List Int → Option (Sum (List Int) ρ)} (p : Int → Bool) (g : Int → Int) (n : Int) (h : ∀ (i : Int) (s : List Int), 0 ≤ i → i < n → (s.length : Int) ≤ i → f i s = some (.inl (cond (p i) (s ++ [g i]) s))) :
  eachD f (rangeI 0 n) [] = some (.inl (((rangeI 0 n).filter p).map g)) := by
 have key : ∀ (m : Nat) (i : Int) (s : List Int), m = (n - i).toNat → 0 ≤ i → (s.length : Int) ≤ i → eachD f (rangeI i n) s = some (.inl (s ++ ((rangeI i n).filter p).map g)) := by
  intro m
  induction m with
  | zero => intro i s hn h0 hs; rw [rangeI_nil (by omega)]; simp [eachD]
  | succ m ih =>
   intro i s hn h0 hs
   have hlt : i < n := by omega
   rw [rangeI_cons hlt, eachD_cons, h i s h0 hlt hs, thenD_inl]
   cases hp : p i with
   | true => rw [cond_true, ih (i + 1) _ (by omega) (by omega) (by simp; omega)]; simp [hp]
   | false => rw [cond_false, ih (i + 1) _ (by omega) (by omega) (by omega)]; simp [hp]
 have := key n.toNat 0 [] (by omega) (by omega) (by simp)
 simpa using this
end M
end Go.AE
