/- Guards, copies and plans: plain Lean. -/
import Derived.Test.YtnhbbkkbpenlbaaGreatAeMark
namespace Go.AE
open Go Go.RowKit
set_option linter.unusedVariables false
def M.holds (row : List TValue.D) (e : List TPart.D) : Bool := Ty.beq TValue (M.exprValue row e) (M.valueOf 1)
def M.guardAt (tables : List TTable.D) (guards : List TGuard.D) (i : Int) : Bool :=
 M.inR (nth (t := TGuard) guards i).1 0 ((tables.length : Int) - 1) && (decide (M.exprKind (nth (t := TTable) tables (nth (t := TGuard) guards i).1).1 (nth (t := TGuard) guards i).2.1 = 3) &&
  (!decide (0 < i) || !decide ((nth (t := TGuard) guards i).1 ≤ (nth (t := TGuard) guards (i - 1)).1)))
def M.guardsOk (tables : List TTable.D) (guards : List TGuard.D) : Bool := M.tablesOk tables && (rangeI 0 (guards.length : Int)).all (M.guardAt tables guards)
def M.seenStep (v : List TTable.D) (g : TGuard.D) : List TTable.D :=
 v.set g.1.toNat ((nth (t := TTable) v g.1).1, List.filter (fun r => M.holds r g.2.1) (nth (t := TTable) v g.1).2.1, ())
def M.tablesSeen (tables : List TTable.D) (guards : List TGuard.D) : List TTable.D := cond (M.guardsOk tables guards) (guards.foldl M.seenStep tables) []
namespace M
theorem cut_all {α : Type} (xs : List α) : cutList xs (some ((0 : Int), (xs.length : Int))) = xs := by
 unfold cutList
 simp
theorem take_all {α : Type} (xs : List α) : xs.take ((xs.length : Int)).toNat = xs := by simp
theorem cut_mark (t : Ty) (xs : List t.D) (k : Int) : cutList (mark (.sl t) xs k : List t.D) (some ((0 : Int), (xs.length : Int))) = mark (.sl t) xs k := by
 have := cut_all (mark (.sl t) xs k : List t.D)
 rw [mark_len] at this
 exact this
theorem sm_ln {t : Ty} {x : t.D} (h : Sm t x) : Ln t x := sm_more (by decide) h
theorem each_filter {α ρ : Type} {f : α → List α → Option (Sum (List α) ρ)} (p : α → Bool) {xs : List α} (h : ∀ x ∈ xs, ∀ s : List α, s.length < xs.length → f x s = some (.inl (cond (p x) (s ++ [x]) s))) :
  eachD f xs [] = some (.inl (xs.filter p)) := by
 have key : ∀ (ys zs : List α) (s : List α), xs = zs ++ ys → s.length ≤ zs.length → eachD f ys s = some (.inl (s ++ ys.filter p)) := by
  intro ys
  induction ys with
  | nil => intro zs s _ _; simp [eachD]
  | cons y ys ih =>
   intro zs s e hs
   rw [eachD_cons, h y (by rw [e]; simp) s (by rw [e]; simp; omega), thenD_inl]
   cases hp : p y with
   | true =>
    have := ih (zs ++ [y]) (s ++ [y]) (by rw [e]; simp) (by simp; omega)
    rw [cond_true, this]
    simp [hp]
   | false =>
    have := ih (zs ++ [y]) s (by rw [e]; simp) (by simp; omega)
    rw [cond_false, this]
    simp [hp]
 simpa using key xs [] [] (by simp) (by simp)
theorem while_filter {t : Ty} {f : Int × List t.D → Option (Sum (Int × List t.D) (List t.D))} (p : t.D → Bool) (xs : List t.D)
  (h : ∀ (i : Int) (s : List t.D), 0 ≤ i → i < (xs.length : Int) → (s.length : Int) ≤ i → f (i, s) = some (.inl (i + 1, cond (p (nth xs i)) (s ++ [nth xs i]) s)))
  (he : ∀ (i : Int) (s : List t.D), 0 ≤ i → (xs.length : Int) ≤ i → f (i, s) = some (.inr s)) :
  whileD f ((0 : Int), []) = some (xs.filter p) := by
 have key : ∀ (n : Nat) (i : Int) (s : List t.D), n = ((xs.length : Int) - i).toNat → 0 ≤ i → (s.length : Int) ≤ i → whileD f (i, s) = some (s ++ (xs.drop i.toNat).filter p) := by
  intro n
  induction n with
  | zero =>
   intro i s hn h0 hs
   rw [whileD_step, he i s h0 (by omega), List.drop_eq_nil_of_le (by omega)]
   simp [thenD]
  | succ n ih =>
   intro i s hn h0 hs
   have hlt : i < (xs.length : Int) := by omega
   have hd := nth_drop' (t := t) (xs := xs) (i := i) h0 hlt
   have e1 : (i + 1).toNat = i.toNat + 1 := by omega
   rw [whileD_step, h i s h0 hlt hs, thenD_inl, hd]
   cases hp : p (nth xs i) with
   | true =>
    rw [cond_true, ih (i + 1) _ (by omega) (by omega) (by simp; omega), e1]
    simp [hp]
   | false =>
    rw [cond_false, ih (i + 1) _ (by omega) (by omega) (by omega), e1]
    simp [hp]
 have := key (xs.length) 0 [] (by omega) (by omega) (by simp)
 simpa using this
theorem each_range_fold {t : Ty} {σ ρ : Type} {f : Int → σ → Option (Sum σ ρ)} (g : σ → t.D → σ) (I : σ → Prop) (xs : List t.D) {s : σ} (h0 : I s)
  (h : ∀ (i : Int) (s : σ), 0 ≤ i → i < (xs.length : Int) → I s → f i s = some (.inl (g s (nth xs i))) ∧ I (g s (nth xs i))) :
  eachD f (rangeI (0 : Int) (xs.length : Int)) s = some (.inl (xs.foldl g s)) ∧ I (xs.foldl g s) := by
 have key : ∀ (ys zs : List t.D) (s : σ), xs = zs ++ ys → I s → eachD f (rangeI (zs.length : Int) (xs.length : Int)) s = some (.inl (ys.foldl g s)) ∧ I (ys.foldl g s) := by
  intro ys
  induction ys with
  | nil =>
   intro zs s e hs
   rw [rangeI_nil (by rw [e]; simp)]
   exact ⟨rfl, hs⟩
  | cons y ys ih =>
   intro zs s e hs
   have hlt : (zs.length : Int) < (xs.length : Int) := by rw [e]; simp; omega
   have hn : nth (t := t) xs (zs.length : Int) = y := by
    rw [e]
    unfold nth
    rw [List.getD_eq_getElem?_getD]
    simp
   obtain ⟨h1, h2⟩ := h (zs.length : Int) s (by omega) hlt hs
   rw [hn] at h1 h2
   rw [rangeI_cons hlt, eachD_cons, h1, thenD_inl]
   have e2 : (zs.length : Int) + 1 = ((zs ++ [y]).length : Int) := by simp
   rw [e2]
   exact ih (zs ++ [y]) _ (by rw [e]; simp) h2
 exact key xs [] s (by simp) h0
theorem each_fold {α σ ρ : Type} {f : α → σ → Option (Sum σ ρ)} (g : σ → α → σ) (I : σ → Prop) {xs : List α} {s : σ} (h0 : I s)
  (h : ∀ x ∈ xs, ∀ s, I s → f x s = some (.inl (g s x)) ∧ I (g s x)) : eachD f xs s = some (.inl (xs.foldl g s)) ∧ I (xs.foldl g s) := by
 induction xs generalizing s with
 | nil => exact ⟨rfl, h0⟩
 | cons x xs ih =>
  obtain ⟨h1, h2⟩ := h x (by simp) s h0
  rw [eachD_cons, h1, thenD_inl]
  exact ih h2 (fun y hy => h y (by simp [hy]))
theorem each_range_copy {t : Ty} {ρ : Type} {f : Int → List t.D → Option (Sum (List t.D) ρ)} (xs : List t.D)
  (h : ∀ (i : Int) (s : List t.D), 0 ≤ i → i < (xs.length : Int) → (s.length : Int) ≤ i → f i s = some (.inl (s ++ [nth xs i]))) :
  eachD f (rangeI (0 : Int) (xs.length : Int)) [] = some (.inl xs) := by
 have key : ∀ (ys zs : List t.D), xs = zs ++ ys → eachD f (rangeI (zs.length : Int) (xs.length : Int)) zs = some (.inl xs) := by
  intro ys
  induction ys with
  | nil =>
   intro zs e
   rw [rangeI_nil (by rw [e]; simp), e]
   simp [eachD]
  | cons y ys ih =>
   intro zs e
   have hlt : (zs.length : Int) < (xs.length : Int) := by rw [e]; simp; omega
   have hn : nth (t := t) xs (zs.length : Int) = y := by
    rw [e]
    unfold nth
    rw [List.getD_eq_getElem?_getD]
    simp
   have h1 := h (zs.length : Int) zs (by omega) hlt (Int.le_refl _)
   rw [hn] at h1
   rw [rangeI_cons hlt, eachD_cons, h1, thenD_inl]
   have e2 : (zs.length : Int) + 1 = ((zs ++ [y]).length : Int) := by simp
   rw [e2]
   exact ih (zs ++ [y]) (by rw [e]; simp)
 exact key xs [] (by simp)
theorem while_copy {t : Ty} {f : Int × List t.D → Option (Sum (Int × List t.D) (List t.D))} (xs : List t.D)
  (h : ∀ (i : Int) (s : List t.D), 0 ≤ i → i < (xs.length : Int) → (s.length : Int) ≤ i → f (i, s) = some (.inl (i + 1, s ++ [nth xs i])))
  (he : ∀ (i : Int) (s : List t.D), 0 ≤ i → (xs.length : Int) ≤ i → f (i, s) = some (.inr s)) : whileD f ((0 : Int), []) = some xs := by
 have := while_filter (fun _ => true) xs (fun i s i0 i1 hs => by rw [h i s i0 i1 hs]; rfl) he
 rw [List.filter_eq_self.2 (fun _ _ => rfl)] at this
 exact this
theorem clone2_eq {t : Ty} {xs : List t.D} : cond (decide ((xs.length : Int) = (0 : Int))) (some ([] : List t.D)) (some (xs.take (xs.length : Int).toNat)) = some xs := by
 rw [take_all]
 cases xs with
 | nil => rfl
 | cons x xs => rw [decide_eq_false (by simp; omega)]; rfl
theorem sm_filter {B : Nat} {t : Ty} {xs : List t.D} (p : t.D → Bool) (h : SmB B (.sl t) xs) : SmB B (.sl t) (xs.filter p) := ⟨Nat.le_trans (List.length_filter_le _ _) h.1, fun x hx => h.2 x (List.mem_filter.1 hx).1⟩
theorem map_self {α : Type} (xs : List α) : xs.map (fun x => x) = xs := by simp
def Fewer (tables v : List TTable.D) : Prop := v.length = tables.length ∧ ∀ i : Int, 0 ≤ i → i < (tables.length : Int) → (nth (t := TTable) v i).1 = (nth (t := TTable) tables i).1 ∧
 (nth (t := TTable) v i).2.1.length ≤ (nth (t := TTable) tables i).2.1.length ∧ ∀ r ∈ (nth (t := TTable) v i).2.1, r ∈ (nth (t := TTable) tables i).2.1
theorem Fewer.refl (tables : List TTable.D) : Fewer tables tables := ⟨rfl, fun _ _ _ => ⟨rfl, Nat.le_refl _, fun _ h => h⟩⟩
theorem nth_set_ne {t : Ty} {a : List t.D} {i j : Int} {z : t.D} (h0 : 0 ≤ i) (h1 : 0 ≤ j) (hne : i ≠ j) : nth (t := t) (a.set i.toNat z) j = nth a j := by
 have : i.toNat ≠ j.toNat := by omega
 unfold nth
 rw [List.getD_eq_getElem?_getD, List.getD_eq_getElem?_getD, List.getElem?_set_ne this]
theorem Fewer.step {tables v : List TTable.D} (h : Fewer tables v) {g : TGuard.D} (h0 : 0 ≤ g.1) (h1 : g.1 < (tables.length : Int)) : Fewer tables (seenStep v g) := by
 refine ⟨by unfold seenStep; simp [h.1], fun i i0 i1 => ?_⟩
 have hl : g.1 < (v.length : Int) := by rw [h.1]; exact h1
 by_cases e : g.1 = i
 ·subst e
  obtain ⟨q1, q2, q3⟩ := h.2 _ i0 i1
  unfold seenStep
  rw [nth_set i0 hl]
  exact ⟨q1, Nat.le_trans (List.length_filter_le _ _) q2, fun r hr => q3 r (List.mem_filter.1 hr).1⟩
 ·unfold seenStep
  rw [nth_set_ne h0 i0 e]
  exact h.2 i i0 i1
theorem Fewer.sm {tables v : List TTable.D} (h : Fewer tables v) (hs : Sm (.sl TTable) tables) : Sm (.sl TTable) v := by
 refine ⟨by rw [h.1]; exact hs.1, fun t ht => ?_⟩
 obtain ⟨k, hk, e⟩ := List.getElem_of_mem ht
 have hi : (k : Int) < (tables.length : Int) := by rw [← h.1]; omega
 have hn : nth (t := TTable) v (k : Int) = t := by
  unfold nth
  rw [List.getD_eq_getElem?_getD]
  simp [hk, e]
 obtain ⟨q1, q2, q3⟩ := h.2 (k : Int) (by omega) hi
 rw [hn] at q1 q2 q3
 have hm := sm_nth hs (k : Int)
 refine ⟨by rw [q1]; exact hm.1, ⟨Nat.le_trans q2 hm.2.1.1, fun r hr => hm.2.1.2 r (q3 r hr)⟩, trivial⟩
theorem guardsOk_at {tables : List TTable.D} {guards : List TGuard.D} (h : guardsOk tables guards = true) {g : TGuard.D} (hg : g ∈ guards) :
  (0 ≤ g.1 ∧ g.1 < (tables.length : Int)) ∧ exprKind (nth (t := TTable) tables g.1).1 g.2.1 = 3 ∧ tablesOk tables = true := by
 unfold guardsOk at h
 obtain ⟨h1, h2⟩ := Bool.and_eq_true_iff.1 h
 obtain ⟨k, hk, e⟩ := List.getElem_of_mem hg
 have := List.all_eq_true.1 h2 (k : Int) (mem_rangeI.2 ⟨by omega, by omega⟩)
 have hn : nth (t := TGuard) guards (k : Int) = g := by
  unfold nth
  rw [List.getD_eq_getElem?_getD]
  simp [hk, e]
 unfold guardAt at this
 rw [hn] at this
 obtain ⟨q1, q2⟩ := Bool.and_eq_true_iff.1 this
 obtain ⟨q2, _⟩ := Bool.and_eq_true_iff.1 q2
 have a0 := inR_lo q1
 have a1 := inR_hi' q1
 exact ⟨⟨a0, Int.lt_of_le_sub_one a1⟩, of_decide_eq_true q2, h1⟩
theorem row_len {tables : List TTable.D} (h : tablesOk tables = true) {i : Int} (h0 : 0 ≤ i) (h1 : i < (tables.length : Int)) {r : List TValue.D} (hr : r ∈ (nth (t := TTable) tables i).2.1) : r.length = (nth (t := TTable) tables i).1.length := by
 have hm := nth_mem' (t := TTable) h0 h1
 unfold tablesOk at h
 obtain ⟨_, h2⟩ := Bool.and_eq_true_iff.1 h
 have h3 := List.all_eq_true.1 h2 _ hm
 unfold tableOk at h3
 obtain ⟨_, h4⟩ := Bool.and_eq_true_iff.1 h3
 unfold rowsOk at h4
 obtain ⟨_, h5⟩ := Bool.and_eq_true_iff.1 h4
 have h6 := List.all_eq_true.1 h5 r hr
 unfold rowFits at h6
 simp only [Bool.and_eq_true, decide_eq_true_eq] at h6
 omega
theorem seen_sm {tables : List TTable.D} {guards : List TGuard.D} (hs : Sm (.sl TTable) tables) : Sm (.sl TTable) (tablesSeen tables guards) := by
 unfold tablesSeen
 cases h : guardsOk tables guards with
 | false => exact sm_nil _
 | true =>
  have key : ∀ (l : List TGuard.D) (v : List TTable.D), (∀ g ∈ l, g ∈ guards) → Fewer tables v → Fewer tables (l.foldl seenStep v) := by
   intro l
   induction l with
   | nil => intro v _ hv; exact hv
   | cons g l ih =>
    intro v hl hv
    have := (guardsOk_at h (hl g (by simp))).1
    exact ih _ (fun x hx => hl x (by simp [hx])) (hv.step this.1 this.2)
  exact (key guards tables (fun _ h => h) (Fewer.refl tables)).sm hs
end M
end Go.AE
