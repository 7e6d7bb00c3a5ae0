/- Plans: plain Lean. -/
import Derived.Test.YtckamkecfekneaaGreatAeMN
namespace Go.AE
open Go Go.RowKit
set_option linter.unusedVariables false
@[reducible] def TMade : Ty := .pair (.sl TColumn) (.pair (.int .i64) .unit)
def M.two (k : Int) : Bool := decide (k = 4) || decide (k = 5)
def M.fieldsOk (s : TStep.D) : Bool := (!decide (s.1 = (1 : Int)) || decide (s.2.1 = (0 : Int))) && ((two s.1 || decide (s.2.2.1 = (0 : Int))) && ((decide (s.1 = (1 : Int)) || decide (s.2.2.2.1 = (0 : Int))) &&
 ((decide (s.1 = (2 : Int)) || decide (s.1 = (4 : Int)) || decide ((s.2.2.2.2.1.length : Int) = (0 : Int))) && (decide (s.1 = (3 : Int)) || decide ((s.2.2.2.2.2.1.length : Int) = (0 : Int))))))
def M.bothStep (b : List TColumn.D) (i : Int) (v : List TColumn.D) : Option (List TColumn.D) :=
 cond (decide ((nth (t := TColumn) v i).1 = (nth (t := TColumn) b i).1)) (some (v.set i.toNat ((nth (t := TColumn) v i).1, ((nth (t := TColumn) v i).2.1 || (nth (t := TColumn) b i).2.1), ()))) none
def M.bothRun (b : List TColumn.D) : Nat → Int → List TColumn.D → Option (List TColumn.D)
 | 0, _, v => some v
 | n + 1, i, v => match bothStep b i v with
  | some v' => bothRun b n (i + 1) v'
  | none => none
def M.both (a b : List TColumn.D) : Option (List TColumn.D) := cond (decide (a.length = b.length)) (bothRun b a.length 0 a) none
def M.stepCols (tables : List TTable.D) (ahead : List (List TColumn.D)) (s : TStep.D) : Option (List TColumn.D) :=
 cond (fieldsOk s) (cond (decide (s.1 = (1 : Int))) (cond (inR s.2.2.2.1 0 ((tables.length : Int) - 1)) (some (nth (t := TTable) tables s.2.2.2.1).1) none)
  (cond (inR s.2.1 0 ((ahead.length : Int) - 1) && inR s.2.2.1 0 ((ahead.length : Int) - 1))
   (cond (decide (s.1 = (2 : Int))) (cond (decide (exprKind (nth (t := .sl TColumn) ahead s.2.1) s.2.2.2.2.1 = 3)) (some (nth (t := .sl TColumn) ahead s.2.1)) none)
   (cond (decide (s.1 = (3 : Int))) (cond ((s.2.2.2.2.2.1.all fun n => inR n 0 (((nth (t := .sl TColumn) ahead s.2.1).length : Int) - 1)) && decide ((s.2.2.2.2.2.1.length : Int) ≤ 4)) (some (s.2.2.2.2.2.1.map fun n => nth (t := TColumn) (nth (t := .sl TColumn) ahead s.2.1) n)) none)
   (cond (decide (s.1 = (4 : Int))) (cond (decide (((nth (t := .sl TColumn) ahead s.2.1 ++ nth (t := .sl TColumn) ahead s.2.2.1 : List TColumn.D).length : Int) ≤ 4) && decide (exprKind (nth (t := .sl TColumn) ahead s.2.1 ++ nth (t := .sl TColumn) ahead s.2.2.1 : List TColumn.D) s.2.2.2.2.1 = 3))
    (some (nth (t := .sl TColumn) ahead s.2.1 ++ nth (t := .sl TColumn) ahead s.2.2.1 : List TColumn.D)) none)
   (cond (decide (s.1 = (5 : Int))) (both (nth (t := .sl TColumn) ahead s.2.1) (nth (t := .sl TColumn) ahead s.2.2.1))
   (cond (decide (s.1 = (6 : Int))) (some (nth (t := .sl TColumn) ahead s.2.1)) none))))) none)) none
def M.stepMost (ahead : List Int) (s : TStep.D) : Int := cond (decide (s.1 = (1 : Int))) 6 (cond (decide (s.1 = (4 : Int))) (wrap64 (nth (t := .int .i64) ahead s.2.1 * nth (t := .int .i64) ahead s.2.2.1))
 (cond (decide (s.1 = (5 : Int))) (wrap64 (nth (t := .int .i64) ahead s.2.1 + nth (t := .int .i64) ahead s.2.2.1)) (nth (t := .int .i64) ahead s.2.1)))
def M.foldO {σ α : Type} (g : σ → α → Option σ) : List α → σ → Option σ
 | [], s => some s
 | x :: xs, s => match g s x with
  | some s' => foldO g xs s'
  | none => none
@[reducible] def PlanSt : Type := List (List TColumn.D) × List Int
def M.planStep (tables : List TTable.D) (st : PlanSt) (s : TStep.D) : Option PlanSt := match stepCols tables st.1 s with
 | some c => cond (decide ((300 : Int) < stepMost st.2 s)) none (some (st.1 ++ [c], st.2 ++ [stepMost st.2 s]))
 | none => none
def M.planRun (tables : List TTable.D) (plan : List TStep.D) : Option PlanSt := foldO (planStep tables) plan ([], [])
def M.planAll (tables : List TTable.D) (plan : List TStep.D) : List (List TColumn.D) × Bool := match planRun tables plan with
 | some st => (st.1, true)
 | none => ([], false)
def M.planOk (tables : List TTable.D) (plan : List TStep.D) : Bool := (planAll tables plan).2 && (tablesOk tables && inR (plan.length : Int) 1 6)
def M.stepIn (k : Int) (s : TStep.D) : Prop := ¬ s.1 = (1 : Int) → (0 ≤ s.2.1 ∧ s.2.1 < k) ∧ (0 ≤ s.2.2.1 ∧ s.2.2.1 < k)
def M.refsOk (plan : List TStep.D) : Prop := 0 < plan.length ∧ ∀ i : Int, 0 ≤ i → i < (plan.length : Int) → stepIn i (nth (t := TStep) plan i)
def M.needStep (plan : List TStep.D) (k : Int) (u : List Bool) : List Bool :=
 cond (nth (t := .bool) u k && !decide ((nth (t := TStep) plan k).1 = (1 : Int))) (cond (two (nth (t := TStep) plan k).1) ((u.set (nth (t := TStep) plan k).2.1.toNat true).set (nth (t := TStep) plan k).2.2.1.toNat true) (u.set (nth (t := TStep) plan k).2.1.toNat true)) u
def M.downRun {σ : Type} (g : Int → σ → σ) : Nat → σ → σ
 | 0, u => u
 | n + 1, u => downRun g n (g (n : Int) u)
def M.needs (plan : List TStep.D) : List Bool := downRun (needStep plan) plan.length ((List.replicate plan.length false).set (plan.length - 1) true)
def M.ren (to : List Int) (s : TStep.D) : TStep.D := (s.1, cond (decide (s.1 = (1 : Int))) s.2.1 (nth (t := .int .i64) to s.2.1), cond (two s.1) (nth (t := .int .i64) to s.2.2.1) s.2.2.1, s.2.2.2)
def M.tidyStep (plan : List TStep.D) (need : List Bool) (st : List Int × List TStep.D) (k : Int) : List Int × List TStep.D :=
 cond (nth (t := .bool) need k) (st.1.set k.toNat (st.2.length : Int), st.2 ++ [ren st.1 (nth (t := TStep) plan k)]) st
def M.tidy (plan : List TStep.D) : List TStep.D := ((rangeI 0 (plan.length : Int)).foldl (tidyStep plan (needs plan)) (List.replicate plan.length (0 : Int), [])).2
def M.planTidy (tables : List TTable.D) (plan : List TStep.D) : List TStep.D := cond (planOk tables plan) (tidy plan) []
namespace M
theorem each_rel {α σ τ ρ : Type} {f : α → τ → Option (Sum τ ρ)} (g : σ → α → Option σ) (ab : τ → σ) (I : Nat → τ → Prop) :
  ∀ (xs : List α) (n : Nat) (t : τ), I n t → (∀ x ∈ xs, ∀ (m : Nat) t, n ≤ m → m < n + xs.length → I m t → ∃ o, f x t = some o ∧ match o with
   | .inl t' => g (ab t) x = some (ab t') ∧ I (m + 1) t'
   | .inr _ => g (ab t) x = none) → ∃ o, eachD f xs t = some o ∧ match o with
   | .inl t' => foldO g xs (ab t) = some (ab t') ∧ I (n + xs.length) t'
   | .inr _ => foldO g xs (ab t) = none
 | [], n, t, h0, _ => ⟨.inl t, rfl, rfl, h0⟩
 | x :: xs, n, t, h0, h => by
  obtain ⟨o, h1, h2⟩ := h x (by simp) n t (Nat.le_refl _) (by simp) h0
  match o with
  | .inr r =>
   refine ⟨.inr r, by rw [eachD_cons, h1, thenD_inr], ?_⟩
   simp only at h2 ⊢
   unfold foldO
   rw [h2]
  | .inl t' =>
   simp only at h2
   obtain ⟨o', h3, h4⟩ := each_rel g ab I xs (n + 1) t' h2.2 (fun y hy m t hm hm2 hI => h y (by simp [hy]) m t (by omega) (by simp; omega) hI)
   refine ⟨o', by rw [eachD_cons, h1, thenD_inl]; exact h3, ?_⟩
   have e : n + 1 + xs.length = n + (x :: xs).length := by simp; omega
   unfold foldO
   rw [h2.1]
   rw [e] at h4
   exact h4
theorem range_rel {t : Ty} {σ τ ρ : Type} {f : Int → τ → Option (Sum τ ρ)} (g : σ → t.D → Option σ) (ab : τ → σ) (I : Nat → τ → Prop) (all : List t.D) :
  ∀ (xs zs : List t.D) (s : τ), all = zs ++ xs → I zs.length s → (∀ (m : Nat) s, m < all.length → I m s → ∃ o, f (m : Int) s = some o ∧ match o with
   | .inl s' => g (ab s) (nth all (m : Int)) = some (ab s') ∧ I (m + 1) s'
   | .inr _ => g (ab s) (nth all (m : Int)) = none) → ∃ o, eachD f (rangeI (zs.length : Int) (all.length : Int)) s = some o ∧ match o with
   | .inl s' => foldO g xs (ab s) = some (ab s') ∧ I all.length s'
   | .inr _ => foldO g xs (ab s) = none
 | [], zs, s, e, h0, _ => ⟨.inl s, by rw [rangeI_nil (by rw [e]; simp)]; rfl, rfl, by rw [e]; simpa using h0⟩
 | x :: xs, zs, s, e, h0, h => by
  have hlt : zs.length < all.length := by rw [e]; simp
  have hn : nth (t := t) all (zs.length : Int) = x := by
   rw [e]
   unfold nth
   rw [List.getD_eq_getElem?_getD]
   simp
  obtain ⟨o, h1, h2⟩ := h zs.length s hlt h0
  rw [hn] at h2
  rw [rangeI_cons (by omega), eachD_cons, h1]
  match o with
  | .inr r =>
   refine ⟨.inr r, rfl, ?_⟩
   simp only at h2 ⊢
   unfold foldO
   rw [h2]
  | .inl s' =>
   simp only at h2
   have e2 : (zs.length : Int) + 1 = ((zs ++ [x]).length : Int) := by simp
   obtain ⟨o', h3, h4⟩ := range_rel g ab I all xs (zs ++ [x]) s' (by rw [e]; simp) (by simpa using h2.2) h
   refine ⟨o', by rw [thenD_inl, e2]; exact h3, ?_⟩
   unfold foldO
   rw [h2.1]
   exact h4
theorem each_idx {σ ρ : Type} {f : Int → σ → Option (Sum σ ρ)} (g : σ → Int → σ) (I : Int → σ → Prop) (N : Nat) {s : σ} (h0 : I 0 s)
  (h : ∀ (i : Int) (s : σ), 0 ≤ i → i < (N : Int) → I i s → f i s = some (.inl (g s i)) ∧ I (i + 1) (g s i)) :
  eachD f (rangeI 0 (N : Int)) s = some (.inl ((rangeI 0 (N : Int)).foldl g s)) ∧ I (N : Int) ((rangeI 0 (N : Int)).foldl g s) := by
 have key : ∀ (n : Nat) (i : Int) (s : σ), (N : Int) - i = n → 0 ≤ i → I i s → eachD f (rangeI i (N : Int)) s = some (.inl ((rangeI i (N : Int)).foldl g s)) ∧ I (N : Int) ((rangeI i (N : Int)).foldl g s) := by
  intro n
  induction n with
  | zero =>
   intro i s hn h0 hI
   rw [rangeI_nil (by omega)]
   have : i = (N : Int) := by omega
   subst this
   exact ⟨rfl, hI⟩
  | succ n ih =>
   intro i s hn h0 hI
   obtain ⟨h1, h2⟩ := h i s h0 (by omega) hI
   rw [rangeI_cons (by omega), eachD_cons, h1, thenD_inl]
   exact ih (i + 1) _ (by omega) (by omega) h2
 exact key N 0 s (by omega) (by omega) h0
theorem while_down {σ : Type} {f : Int × σ → Option (Sum (Int × σ) σ)} (g : Int → σ → σ) (I : σ → Prop) (N : Nat)
  (h : ∀ (k : Int) (u : σ), 0 ≤ k → k < (N : Int) → I u → f (k, u) = some (.inl (k - 1, g k u)) ∧ I (g k u)) (he : ∀ u, I u → f (-1, u) = some (.inr u)) :
  ∀ (n : Nat) (u : σ), n ≤ N → I u → whileD f ((n : Int) - 1, u) = some (downRun g n u) ∧ I (downRun g n u)
 | 0, u, _, hI => by
  rw [whileD_step, show ((0 : Nat) : Int) - 1 = -1 from rfl, he u hI]
  exact ⟨rfl, hI⟩
 | n + 1, u, hn, hI => by
  obtain ⟨h1, h2⟩ := h (n : Int) u (by omega) (by omega) hI
  rw [whileD_step, show ((n + 1 : Nat) : Int) - 1 = (n : Int) by omega, h1, thenD_inl]
  exact while_down g I N h he n _ (by omega) h2
theorem foldl_swap {α β γ : Type} (g : α × β → γ → α × β) (g' : β × α → γ → β × α) (h : ∀ a b x, g' (b, a) x = ((g (a, b) x).2, (g (a, b) x).1)) :
  ∀ (xs : List γ) (a : α) (b : β), xs.foldl g' (b, a) = ((xs.foldl g (a, b)).2, (xs.foldl g (a, b)).1)
 | [], _, _ => rfl
 | x :: xs, a, b => by
  rw [List.foldl_cons, List.foldl_cons, h]
  exact foldl_swap g g' h xs _ _
theorem set_same {t : Ty} {u : List t.D} {i : Int} (h0 : 0 ≤ i) (h1 : i < (u.length : Int)) : u.set i.toNat (nth (t := t) u i) = u := by
 rw [nth_eq h0 h1]
 exact List.set_getElem_self ..
theorem col_sm {x : List TColumn.D} (h : x.length ≤ 1048576) : Sm (.sl TColumn) x := ⟨h, fun y _ => sm_bare rfl y⟩
theorem bothStep_len {b : List TColumn.D} {i : Int} {v r : List TColumn.D} (h : bothStep b i v = some r) : r.length = v.length := by
 unfold bothStep at h
 cases hc : decide ((nth (t := TColumn) v i).1 = (nth (t := TColumn) b i).1) with
 | true => rw [hc] at h; simp only [cond_true, Option.some.injEq] at h; rw [← h]; simp
 | false => rw [hc] at h; cases h
theorem bothRun_len {b : List TColumn.D} : ∀ {n : Nat} {i : Int} {v r : List TColumn.D}, bothRun b n i v = some r → r.length = v.length
 | 0, i, v, r, h => by cases h; rfl
 | n + 1, i, v, r, h => by
  unfold bothRun at h
  cases hs : bothStep b i v with
  | none => rw [hs] at h; cases h
  | some v' =>
   rw [hs] at h
   rw [bothRun_len h, bothStep_len hs]
theorem cond_some_eq {α : Type} {b : Bool} {x : Option α} {y : α} (h : cond b x none = some y) : b = true ∧ x = some y := by
 cases b with
 | true => exact ⟨rfl, h⟩
 | false => cases h
theorem stepCols_sm {tables : List TTable.D} {ahead : List (List TColumn.D)} {s : TStep.D} {c : List TColumn.D} (ht : Sm (.sl TTable) tables) (ha : ∀ x ∈ ahead, x.length ≤ 1048576) (h : stepCols tables ahead s = some c) : c.length ≤ 1048576 := by
 have hn : ∀ i : Int, (nth (t := .sl TColumn) ahead i : List TColumn.D).length ≤ 1048576 := by
  intro i
  unfold nth
  rw [List.getD_eq_getElem?_getD]
  cases he : ahead[i.toNat]? with
  | none => exact Nat.zero_le _
  | some x => exact ha x (List.mem_of_getElem? he)
 unfold stepCols at h
 obtain ⟨_, h⟩ := cond_some_eq h
 cases h1 : decide (s.1 = (1 : Int)) with
 | true =>
  rw [h1, cond_true] at h
  obtain ⟨_, h⟩ := cond_some_eq h
  cases h
  exact (sm_nth ht s.2.2.2.1).1.1
 | false =>
  rw [h1, cond_false] at h
  obtain ⟨_, h⟩ := cond_some_eq h
  cases h2 : decide (s.1 = (2 : Int)) with
  | true =>
   rw [h2, cond_true] at h
   obtain ⟨_, h⟩ := cond_some_eq h
   cases h
   exact hn _
  | false =>
   rw [h2, cond_false] at h
   cases h3 : decide (s.1 = (3 : Int)) with
   | true =>
    rw [h3, cond_true] at h
    obtain ⟨hb, h⟩ := cond_some_eq h
    cases h
    have := of_decide_eq_true (Bool.and_eq_true_iff.1 hb).2
    rw [List.length_map]
    omega
   | false =>
    rw [h3, cond_false] at h
    cases h4 : decide (s.1 = (4 : Int)) with
    | true =>
     rw [h4, cond_true] at h
     obtain ⟨hb, h⟩ := cond_some_eq h
     cases h
     have := of_decide_eq_true (Bool.and_eq_true_iff.1 hb).1
     omega
    | false =>
     rw [h4, cond_false] at h
     cases h5 : decide (s.1 = (5 : Int)) with
     | true =>
      rw [h5, cond_true] at h
      unfold both at h
      obtain ⟨_, h⟩ := cond_some_eq h
      rw [bothRun_len h]
      exact hn _
     | false =>
      rw [h5, cond_false] at h
      obtain ⟨_, h⟩ := cond_some_eq h
      cases h
      exact hn _
theorem stepCols_in {tables : List TTable.D} {ahead : List (List TColumn.D)} {s : TStep.D} {c : List TColumn.D} (h : stepCols tables ahead s = some c) : stepIn (ahead.length : Int) s := by
 intro h1
 unfold stepCols at h
 obtain ⟨_, h⟩ := cond_some_eq h
 rw [decide_eq_false h1, cond_false] at h
 obtain ⟨hb, _⟩ := cond_some_eq h
 obtain ⟨ha, hb⟩ := Bool.and_eq_true_iff.1 hb
 exact ⟨⟨inR_lo ha, Int.lt_of_le_sub_one (inR_hi' ha)⟩, ⟨inR_lo hb, Int.lt_of_le_sub_one (inR_hi' hb)⟩⟩
theorem planStep_in {tables : List TTable.D} {st st' : PlanSt} {s : TStep.D} (h : planStep tables st s = some st') : stepIn (st.1.length : Int) s ∧ st'.1.length = st.1.length + 1 := by
 unfold planStep at h
 cases hc : stepCols tables st.1 s with
 | none => rw [hc] at h; cases h
 | some c =>
  rw [hc] at h
  simp only at h
  cases hd : decide ((300 : Int) < stepMost st.2 s) with
  | true => rw [hd] at h; cases h
  | false =>
   rw [hd] at h
   cases h
   exact ⟨stepCols_in hc, by simp⟩
theorem fold_refs {tables : List TTable.D} : ∀ (xs : List TStep.D) (st st' : PlanSt), foldO (planStep tables) xs st = some st' → ∀ i : Int, 0 ≤ i → i < (xs.length : Int) → stepIn ((st.1.length : Int) + i) (nth (t := TStep) xs i)
 | [], st, st', h, i, h0, h1 => by simp at h1; omega
 | x :: xs, st, st', h, i, h0, h1 => by
  unfold foldO at h
  cases hp : planStep tables st x with
  | none => rw [hp] at h; cases h
  | some st1 =>
   rw [hp] at h
   obtain ⟨q1, q2⟩ := planStep_in hp
   by_cases hi : i = 0
   ·subst hi
    rw [nth_zero, Int.add_zero]
    exact q1
   ·have := fold_refs xs st1 st' h (i - 1) (by omega) (by simp at h1; omega)
    rw [q2] at this
    have e : i = (i - 1) + 1 := by omega
    rw [e, nth_succ _ _ (by omega)]
    have e2 : ((st.1.length + 1 : Nat) : Int) + (i - 1) = (st.1.length : Int) + (i - 1 + 1) := by omega
    rw [← e2]
    exact this
theorem planOk_refs {tables : List TTable.D} {plan : List TStep.D} (h : planOk tables plan = true) : refsOk plan := by
 unfold planOk at h
 obtain ⟨h1, h2⟩ := Bool.and_eq_true_iff.1 h
 obtain ⟨_, h2⟩ := Bool.and_eq_true_iff.1 h2
 have hl : (1 : Int) ≤ (plan.length : Int) := by unfold inR at h2; simp at h2; omega
 refine ⟨by omega, fun i i0 i1 => ?_⟩
 unfold planAll at h1
 cases hr : planRun tables plan with
 | none => rw [hr] at h1; cases h1
 | some st =>
  have := fold_refs plan ([], []) st hr i i0 i1
  simpa using this
theorem needStep_len (plan : List TStep.D) (k : Int) (u : List Bool) : (needStep plan k u).length = u.length := by
 unfold needStep
 cases (nth (t := .bool) u k && !decide ((nth (t := TStep) plan k).1 = (1 : Int)))
 ·rfl
 ·cases two (nth (t := TStep) plan k).1 <;> simp
theorem downRun_inv {σ : Type} {g : Int → σ → σ} {I : σ → Prop} (h : ∀ k u, I u → I (g k u)) : ∀ (n : Nat) (u : σ), I u → I (downRun g n u)
 | 0, _, hu => hu
 | n + 1, u, hu => downRun_inv h n _ (h _ _ hu)
theorem needs_len (plan : List TStep.D) : (needs plan).length = plan.length := by
 unfold needs
 exact downRun_inv (I := fun u : List Bool => u.length = plan.length) (fun k u hu => by rw [needStep_len, hu]) _ _ (by simp)
theorem ren_sm {to : List Int} {s : TStep.D} (h : Sm TStep s) : Sm TStep (ren to s) := ⟨trivial, trivial, trivial, h.2.2.2⟩
theorem tidy_inv {plan : List TStep.D} {need : List Bool} (hs : Sm (.sl TStep) plan) {st : List Int × List TStep.D} {k : Int} (k0 : 0 ≤ k)
  (h : st.1.length = plan.length ∧ (st.2.length : Int) ≤ k ∧ ∀ s ∈ st.2, Sm TStep s) : (tidyStep plan need st k).1.length = plan.length ∧ ((tidyStep plan need st k).2.length : Int) ≤ k + 1 ∧ ∀ s ∈ (tidyStep plan need st k).2, Sm TStep s := by
 obtain ⟨h1, h2, h3⟩ := h
 unfold tidyStep
 cases nth (t := .bool) need k with
 | false => exact ⟨h1, by show (st.2.length : Int) ≤ k + 1; omega, h3⟩
 | true =>
  refine ⟨by simp [h1], by simp; omega, fun s hm => ?_⟩
  rcases List.mem_append.1 hm with hm | hm
  ·exact h3 s hm
  ·cases List.mem_singleton.1 hm
   exact ren_sm (sm_nth hs k)
theorem tidy_all {plan : List TStep.D} (hs : Sm (.sl TStep) plan) (need : List Bool) : ∀ (n : Nat) (i : Int) (st : List Int × List TStep.D), (plan.length : Int) - i = n → 0 ≤ i → (st.1.length = plan.length ∧ (st.2.length : Int) ≤ i ∧ ∀ s ∈ st.2, Sm TStep s) →
  Sm (.sl TStep) ((rangeI i (plan.length : Int)).foldl (tidyStep plan need) st).2
 | 0, i, st, hn, h0, h => by
  rw [rangeI_nil (by omega)]
  have := hs.1
  refine ⟨?_, h.2.2⟩
  have h2 := h.2.1
  show st.2.length ≤ 1048576
  omega
 | n + 1, i, st, hn, h0, h => by
  rw [rangeI_cons (by omega), List.foldl_cons]
  exact tidy_all hs need n (i + 1) _ (by omega) (by omega) (tidy_inv hs h0 h)
theorem tidy_sm {plan : List TStep.D} (hs : Sm (.sl TStep) plan) : Sm (.sl TStep) (tidy plan) :=
 tidy_all hs _ plan.length 0 _ (by omega) (by omega) ⟨by simp, by simp, fun s h => by cases h⟩
theorem concat_len {t : Ty} : ∀ {xss : List (List t.D)} {n : Nat}, (∀ x ∈ xss, x.length ≤ n) → (xss.flatten).length ≤ xss.length * n
 | [], n, _ => by simp
 | x :: xss, n, h => by
  have := concat_len (xss := xss) (fun y hy => h y (by simp [hy]))
  have h1 := h x (by simp)
  rw [List.flatten_cons, List.length_append, List.length_cons, Nat.succ_mul]
  omega
end M
end Go.AE
