/- A plan that is ok stays ok when it is made tidy: plain Lean. -/
import Derived.Test.YtckamkecfekneaaGreatAeMQ
namespace Go.AE
open Go Go.RowKit
set_option linter.unusedVariables false
namespace M
theorem nth_set_t {u : List Bool} {i j : Int} (h0 : 0 ≤ i) (hj : 0 ≤ j) (h : nth (t := .bool) u j = true ∨ (i = j ∧ j < (u.length : Int))) : nth (t := .bool) (u.set i.toNat true) j = true := by
 by_cases e : i = j
 ·subst e
  have hl : i < (u.length : Int) := by
   rcases h with h | h
   ·unfold nth at h
    rw [List.getD_eq_getElem?_getD] at h
    by_cases hl : i.toNat < u.length
    ·omega
    ·rw [List.getElem?_eq_none (by omega)] at h
     cases h
   ·exact h.2
  unfold nth
  rw [List.getD_eq_getElem?_getD, List.getElem?_set]
  simp
  rw [if_pos (by omega)]
  rfl
 ·rw [nth_set_ne (t := .bool) h0 hj e]
  rcases h with h | h
  ·exact h
  ·exact absurd h.1 e
theorem need_mono {plan : List TStep.D} {k : Int} {u : List Bool} (hin : stepIn k (nth (t := TStep) plan k)) {j : Int} (hj : 0 ≤ j) (h : nth (t := .bool) u j = true) : nth (t := .bool) (needStep plan k u) j = true := by
 unfold needStep
 by_cases h1 : (nth (t := TStep) plan k).1 = (1 : Int)
 ·rw [decide_eq_true h1, Bool.not_true, Bool.and_false]
  exact h
 obtain ⟨⟨a0, _⟩, b0, _⟩ := hin h1
 cases nth (t := .bool) u k && !decide ((nth (t := TStep) plan k).1 = (1 : Int))
 ·exact h
 cases two (nth (t := TStep) plan k).1
 ·exact nth_set_t a0 hj (.inl h)
 ·exact nth_set_t b0 hj (.inl (nth_set_t a0 hj (.inl h)))
theorem need_same {plan : List TStep.D} {k : Int} {u : List Bool} (hin : stepIn k (nth (t := TStep) plan k)) {j : Int} (hj : 0 ≤ j) (hk : k ≤ j) : nth (t := .bool) (needStep plan k u) j = nth (t := .bool) u j := by
 unfold needStep
 by_cases h1 : (nth (t := TStep) plan k).1 = (1 : Int)
 ·rw [decide_eq_true h1, Bool.not_true, Bool.and_false]
  rfl
 obtain ⟨⟨a0, a1⟩, b0, b1⟩ := hin h1
 have na : ¬ (nth (t := TStep) plan k).2.1 = j := Int.ne_of_lt (Int.lt_of_lt_of_le a1 hk)
 have nb : ¬ (nth (t := TStep) plan k).2.2.1 = j := Int.ne_of_lt (Int.lt_of_lt_of_le b1 hk)
 cases nth (t := .bool) u k && !decide ((nth (t := TStep) plan k).1 = (1 : Int))
 ·rfl
 cases two (nth (t := TStep) plan k).1
 ·exact nth_set_ne (t := .bool) a0 hj na
 ·exact (nth_set_ne (t := .bool) b0 hj nb).trans (nth_set_ne (t := .bool) a0 hj na)
theorem need_sets {plan : List TStep.D} {k : Int} {u : List Bool} (hin : stepIn k (nth (t := TStep) plan k)) (hk : k ≤ (u.length : Int)) (h : nth (t := .bool) u k = true) (h1 : ¬ (nth (t := TStep) plan k).1 = (1 : Int)) :
  nth (t := .bool) (needStep plan k u) (nth (t := TStep) plan k).2.1 = true ∧ (two (nth (t := TStep) plan k).1 = true → nth (t := .bool) (needStep plan k u) (nth (t := TStep) plan k).2.2.1 = true) := by
 unfold needStep
 rw [h, decide_eq_false h1]
 obtain ⟨⟨a0, a1⟩, b0, b1⟩ := hin h1
 have a2 := Int.lt_of_lt_of_le a1 hk
 have b2 := Int.lt_of_lt_of_le b1 hk
 have hA := nth_set_t (u := u) a0 a0 (.inr ⟨rfl, a2⟩)
 cases two (nth (t := TStep) plan k).1
 ·exact ⟨hA, fun q => by cases q⟩
 ·exact ⟨nth_set_t b0 a0 (.inl hA), fun _ => nth_set_t b0 b0 (.inr ⟨rfl, by rw [List.length_set]; exact b2⟩)⟩
theorem down_mono {plan : List TStep.D} (hr : ∀ i : Int, 0 ≤ i → i < (plan.length : Int) → stepIn i (nth (t := TStep) plan i)) {j : Int} (hj : 0 ≤ j) : ∀ (n : Nat) (u : List Bool), n ≤ plan.length → nth (t := .bool) u j = true → nth (t := .bool) (downRun (needStep plan) n u) j = true
 | 0, _, _, h => h
 | n + 1, u, hn, h => down_mono hr hj n _ (by omega) (need_mono (hr (n : Int) (by omega) (by omega)) hj h)
theorem down_same {plan : List TStep.D} (hr : ∀ i : Int, 0 ≤ i → i < (plan.length : Int) → stepIn i (nth (t := TStep) plan i)) {j : Int} (hj : 0 ≤ j) : ∀ (n : Nat) (u : List Bool), n ≤ plan.length → (n : Int) ≤ j → nth (t := .bool) (downRun (needStep plan) n u) j = nth (t := .bool) u j
 | 0, _, _, _ => rfl
 | n + 1, u, hn, h => (down_same hr hj n _ (by omega) (by omega)).trans (need_same (hr (n : Int) (by omega) (by omega)) hj (by omega))
theorem down_closed {plan : List TStep.D} (hr : ∀ i : Int, 0 ≤ i → i < (plan.length : Int) → stepIn i (nth (t := TStep) plan i)) : ∀ (n : Nat) (u : List Bool), n ≤ plan.length → u.length = plan.length → ∀ k : Int, 0 ≤ k → k < (n : Int) →
  nth (t := .bool) (downRun (needStep plan) n u) k = true → ¬ (nth (t := TStep) plan k).1 = (1 : Int) →
  nth (t := .bool) (downRun (needStep plan) n u) (nth (t := TStep) plan k).2.1 = true ∧ (two (nth (t := TStep) plan k).1 = true → nth (t := .bool) (downRun (needStep plan) n u) (nth (t := TStep) plan k).2.2.1 = true)
 | 0, _, _, _, k, k0, k1, _, _ => by omega
 | n + 1, u, hn, hu, k, k0, k1, h, h1 => by
  unfold downRun at h ⊢
  by_cases e : k = (n : Int)
  ·subst e
   rw [down_same hr (by omega) n _ (by omega) (Int.le_refl _), need_same (hr (n : Int) (by omega) (by omega)) (by omega) (Int.le_refl _)] at h
   have hin := hr (n : Int) (by omega) (by omega)
   obtain ⟨q1, q2⟩ := need_sets (u := u) hin (by omega) h h1
   obtain ⟨⟨a0, _⟩, b0, _⟩ := hin h1
   exact ⟨down_mono hr a0 n _ (by omega) q1, fun ht => down_mono hr b0 n _ (by omega) (q2 ht)⟩
  ·exact down_closed hr n _ (by omega) (by rw [needStep_len, hu]) k k0 (by omega) h h1
def Some1 (st st' : PlanSt) (to : List Int) (j : Int) : Prop := (0 ≤ nth (t := .int .i64) to j ∧ nth (t := .int .i64) to j < (st'.1.length : Int)) ∧ nth (t := .sl TColumn) st'.1 (nth (t := .int .i64) to j) = nth (t := .sl TColumn) st.1 j ∧ nth (t := .int .i64) st'.2 (nth (t := .int .i64) to j) = nth (t := .int .i64) st.2 j
theorem ren_cols1 {tables : List TTable.D} {st st' : PlanSt} {to : List Int} {s : TStep.D} {c : List TColumn.D} (hA : ¬ s.1 = (1 : Int) → Some1 st st' to s.2.1) (hB : two s.1 = true → Some1 st st' to s.2.2.1) (h : stepCols tables st.1 s = some c) :
  stepCols tables st'.1 (ren to s) = some c ∧ stepMost st'.2 (ren to s) = stepMost st.2 s := by
 have hin := stepCols_in h
 have hf : fieldsOk s = true := by
  unfold stepCols at h
  exact (cond_some_eq h).1
 by_cases h1 : s.1 = (1 : Int)
 ·have e : ren to s = s := by
   unfold ren two
   rw [h1]
   exact Prod.ext h1.symm rfl
  rw [e]
  unfold stepCols at h ⊢
  unfold stepMost
  rw [decide_eq_true h1] at h ⊢
  exact ⟨h, rfl⟩
 ·obtain ⟨⟨a0, a1⟩, ⟨b0, b1⟩⟩ := hin h1
  obtain ⟨⟨ra0, ra1⟩, ra2, ra3⟩ := hA h1
  have eA : (ren to s).2.1 = nth (t := .int .i64) to s.2.1 := by
   unfold ren
   rw [decide_eq_false h1]
   rfl
  have eK : (ren to s).1 = s.1 := rfl
  have eN : (ren to s).2.2.2 = s.2.2.2 := rfl
  cases ht : two s.1 with
  | true =>
   obtain ⟨⟨rb0, rb1⟩, rb2, rb3⟩ := hB ht
   have eB : (ren to s).2.2.1 = nth (t := .int .i64) to s.2.2.1 := by
    unfold ren
    rw [ht]
    rfl
   unfold stepCols at h ⊢
   unfold stepMost
   rw [ren_fields, eK, eN, eA, eB, ra2, rb2, ra3, rb3, decide_eq_false h1, inR_iff.2 ⟨ra0, ra1⟩, inR_iff.2 ⟨rb0, rb1⟩]
   rw [decide_eq_false h1, inR_iff.2 ⟨a0, a1⟩, inR_iff.2 ⟨b0, b1⟩] at h
   exact ⟨h, rfl⟩
  | false =>
   have eB : (ren to s).2.2.1 = s.2.2.1 := by
    unfold ren
    rw [ht]
    rfl
   have hb := fields_b hf ht
   have k4 : decide (s.1 = (4 : Int)) = false := by
    unfold two at ht
    exact (Bool.or_eq_false_iff.1 ht).1
   have k5 : decide (s.1 = (5 : Int)) = false := by
    unfold two at ht
    exact (Bool.or_eq_false_iff.1 ht).2
   have hz : inR s.2.2.1 0 ((st'.1.length : Int) - 1) = true := by
    rw [hb]
    exact inR_iff.2 ⟨Int.le_refl _, Int.lt_of_le_of_lt ra0 ra1⟩
   unfold stepCols at h ⊢
   unfold stepMost
   rw [ren_fields, eK, eN, eA, eB, ra2, ra3, decide_eq_false h1, inR_iff.2 ⟨ra0, ra1⟩, hz, k4, k5]
   rw [decide_eq_false h1, inR_iff.2 ⟨a0, a1⟩, inR_iff.2 ⟨b0, b1⟩, k4, k5] at h
   exact ⟨h, rfl⟩
theorem tidy_run {tables : List TTable.D} {plan : List TStep.D} {r : PlanSt} (hr : planRun tables plan = some r) (hrf : ∀ i : Int, 0 ≤ i → i < (plan.length : Int) → stepIn i (nth (t := TStep) plan i)) (need : List Bool)
  (hn : ∀ k : Int, 0 ≤ k → k < (plan.length : Int) → nth (t := .bool) need k = true → ¬ (nth (t := TStep) plan k).1 = (1 : Int) → nth (t := .bool) need (nth (t := TStep) plan k).2.1 = true ∧ (two (nth (t := TStep) plan k).1 = true → nth (t := .bool) need (nth (t := TStep) plan k).2.2.1 = true)) :
  ∀ (n : Nat), n ≤ plan.length → ∃ st st' v, (rangeI 0 (n : Int)).foldl (tidyStep plan need) (List.replicate plan.length (0 : Int), []) = v ∧ v.1.length = plan.length ∧ foldO (planStep tables) (plan.take n) ([], []) = some st ∧
   foldO (planStep tables) v.2 ([], []) = some st' ∧ ((st.1.length : Int) = n ∧ (st.2.length : Int) = n ∧ st'.1.length = st'.2.length ∧ ∀ j : Int, 0 ≤ j → j < (n : Int) → nth (t := .bool) need j = true → Some1 st st' v.1 j) ∧
   st'.1.length = v.2.length ∧ v.2.length ≤ n ∧ (∀ j : Int, 0 ≤ j → j < (n : Int) → nth (t := .bool) need j = true → 0 < v.2.length)
 | 0, _ => ⟨([], []), ([], []), _, rfl, by rw [rangeI_nil (by omega)]; simp, rfl, by rw [rangeI_nil (by omega)]; rfl, ⟨rfl, rfl, rfl, fun j j0 j1 => by omega⟩, by rw [rangeI_nil (by omega)]; rfl, by rw [rangeI_nil (by omega)]; exact Nat.le_refl _, fun j j0 j1 => by omega⟩
 | n + 1, hl => by
  obtain ⟨st, st', v, e, hvl, h1, h2, ⟨l1, l2, l3, hS⟩, h4, h5, h6⟩ := tidy_run hr hrf need hn n (by omega)
  obtain ⟨st2, h7⟩ := foldO_take (planStep tables) plan (n + 1) ([], []) r hr
  have h8 : planStep tables st (nth (t := TStep) plan (n : Int)) = some st2 := by
   rw [take_snoc (t := TStep) (by omega), foldO_snoc, h1] at h7
   exact h7
  obtain ⟨c, hc, hd, rfl⟩ := planStep_some h8
  have hsn : rangeI 0 ((n + 1 : Nat) : Int) = rangeI 0 (n : Int) ++ [(n : Int)] := by
   unfold rangeI
   have e1 : (((n + 1 : Nat) : Int) - 0).toNat = n + 1 := by omega
   have e2 : ((n : Int) - 0).toNat = n := by omega
   rw [e1, e2, List.range_succ, List.map_append]
   simp
  have hfold : (rangeI 0 ((n + 1 : Nat) : Int)).foldl (tidyStep plan need) (List.replicate plan.length (0 : Int), []) = tidyStep plan need v (n : Int) := by
   rw [hsn, List.foldl_append, e]
   rfl
  have L1 : (((st.1 ++ [c]).length : Nat) : Int) = ((n + 1 : Nat) : Int) := by simp; omega
  have L2 : (((st.2 ++ [stepMost st.2 (nth (t := TStep) plan (n : Int))]).length : Nat) : Int) = ((n + 1 : Nat) : Int) := by simp; omega
  cases hq : nth (t := .bool) need (n : Int) with
  | false =>
   have ev : tidyStep plan need v (n : Int) = v := by unfold tidyStep; rw [hq]; rfl
   rw [ev] at hfold
   refine ⟨_, st', v, hfold, hvl, h7, h2, ⟨L1, L2, l3, fun j j0 j1 hj => ?_⟩, h4, by omega, fun j j0 j1 hj => ?_⟩
   ·have hne : ¬ j = (n : Int) := fun q => by rw [q, hq] at hj; cases hj
    obtain ⟨q1, q2, q3⟩ := hS j j0 (by omega) hj
    exact ⟨q1, q2.trans (nth_left (t := .sl TColumn) j0 (by omega)).symm, q3.trans (nth_left (t := .int .i64) j0 (by omega)).symm⟩
   ·have hne : ¬ j = (n : Int) := fun q => by rw [q, hq] at hj; cases hj
    exact h6 j j0 (by omega) hj
  | true =>
   have ev : tidyStep plan need v (n : Int) = (v.1.set n (v.2.length : Int), v.2 ++ [ren v.1 (nth (t := TStep) plan (n : Int))]) := by unfold tidyStep; rw [hq]; rfl
   have hin := hrf (n : Int) (by omega) (by omega)
   have hcl := hn (n : Int) (by omega) (by omega) hq
   obtain ⟨hc', hm'⟩ := ren_cols1 (st' := st') (to := v.1) (fun q => hS _ (hin q).1.1 (hin q).1.2 (hcl q).1) (fun q => by
    have q1 : ¬ (nth (t := TStep) plan (n : Int)).1 = (1 : Int) := fun z => by rw [z] at q; cases q
    exact hS _ (hin q1).2.1 (hin q1).2.2 ((hcl q1).2 q)) hc
   have hp := planStep_put hc' hm' hd
   rw [ev] at hfold
   have e3 : foldO (planStep tables) (v.2 ++ [ren v.1 (nth (t := TStep) plan (n : Int))]) ([], []) = some (st'.1 ++ [c], st'.2 ++ [stepMost st.2 (nth (t := TStep) plan (n : Int))]) := by
    rw [foldO_snoc, h2]
    exact hp
   refine ⟨_, _, _, hfold, by simp [hvl], h7, e3, ⟨L1, L2, by simp [l3], fun j j0 j1 hj => ?_⟩, by simp [h4], by simp; omega, fun j j0 j1 hj => by simp⟩
   by_cases hjn : j = (n : Int)
   ·subst hjn
    have et : nth (t := .int .i64) (v.1.set n (v.2.length : Int)) (n : Int) = (v.2.length : Int) := by
     unfold nth
     rw [List.getD_eq_getElem?_getD, List.getElem?_set]
     simp
     rw [if_pos (by omega)]
     rfl
    unfold Some1
    simp only
    rw [et]
    have z0 : (0 : Int) ≤ (v.2.length : Int) := by omega
    have z1 : (v.2.length : Int) < (((st'.1 ++ [c]).length : Nat) : Int) := by simp; omega
    refine ⟨⟨z0, z1⟩, ?_, ?_⟩
    ·rw [nth_last (t := .sl TColumn) (by omega), nth_last (t := .sl TColumn) (by omega)]
    ·rw [nth_last (t := .int .i64) (by omega), nth_last (t := .int .i64) (by omega)]
   ·have et : nth (t := .int .i64) (v.1.set n (v.2.length : Int)) j = nth (t := .int .i64) v.1 j := by
     have := nth_set_ne (t := .int .i64) (a := v.1) (i := (n : Int)) (j := j) (z := (v.2.length : Int)) (by omega) j0 (fun q => hjn q.symm)
     simpa using this
    obtain ⟨⟨q0, q1⟩, q2, q3⟩ := hS j j0 (by omega) hj
    unfold Some1
    simp only
    rw [et]
    refine ⟨⟨q0, by simp; exact Int.lt_trans q1 (Int.lt_succ _)⟩, ?_, ?_⟩
    ·rw [nth_left (t := .sl TColumn) q0 q1, nth_left (t := .sl TColumn) j0 (by omega)]
     exact q2
    ·rw [nth_left (t := .int .i64) q0 (by rw [← l3]; exact q1), nth_left (t := .int .i64) j0 (by omega)]
     exact q3
theorem tidy_ok {tables : List TTable.D} {plan : List TStep.D} (hp : planOk tables plan = true) : planOk tables (tidy plan) = true := by
 have hp' := hp
 obtain ⟨hpos, hrf⟩ := planOk_refs hp'
 have h6 := plan_six hp'
 unfold planOk at hp
 obtain ⟨h1, h2⟩ := Bool.and_eq_true_iff.1 hp
 obtain ⟨ht, h2⟩ := Bool.and_eq_true_iff.1 h2
 unfold planAll at h1
 cases hr : planRun tables plan with
 | none => rw [hr] at h1; cases h1
 | some r =>
  have hlast : nth (t := .bool) (needs plan) ((plan.length : Int) - 1) = true := by
   unfold needs
   refine down_mono hrf (by omega) plan.length _ (Nat.le_refl _) ?_
   have := nth_set_t (u := List.replicate plan.length false) (i := (plan.length : Int) - 1) (j := (plan.length : Int) - 1) (by omega) (by omega) (.inr ⟨rfl, by simp; omega⟩)
   rw [show ((plan.length : Int) - 1).toNat = plan.length - 1 by omega] at this
   exact this
  have hcl := down_closed hrf plan.length ((List.replicate plan.length false).set (plan.length - 1) true) (Nat.le_refl _) (by simp)
  obtain ⟨st, st', v, e, hl, _, q2, q3, q4, q5, q6⟩ := tidy_run hr hrf (needs plan) hcl plan.length (Nat.le_refl _)
  have hv : tidy plan = v.2 := congrArg Prod.snd e
  have hpl := q6 _ (by omega) (by omega) hlast
  rw [hv]
  unfold planOk planAll planRun
  rw [q2, ht]
  simp only [Bool.true_and]
  unfold inR
  rw [decide_eq_true (show (1 : Int) ≤ (v.2.length : Int) by omega), Bool.true_and]
  exact decide_eq_true (by omega)
end M
end Go.AE
