/- Laws of loops over lists. -/
import Derived.Test.YtiplhefglgpdoaaGreatAeMM
namespace Go.AE
open Go Go.RowKit
@[simp] theorem letD_eq {α β : Type} (x : α) (f : α → β) : letD x f = f x := rfl
@[simp] theorem brk1D_inl {σ ε : Type} (s : σ) (g : σ → ε) : brk1D (some (.inl s)) g = some (g s) := rfl
@[simp] theorem brk1D_inr {σ ε : Type} (e : ε) (g : σ → ε) : brk1D (some (.inr e)) g = some e := rfl
@[simp] theorem brk2D_inl {σ ε ρ : Type} (s : σ) (g : σ → ε) : brk2D (ρ := ρ) (some (.inl s)) g = some (.inl (g s)) := rfl
@[simp] theorem brk2D_inr {σ ε ρ : Type} (r : Sum ε ρ) (g : σ → ε) : brk2D (some (.inr r)) g = some r := rfl
@[simp] theorem eachD_nil {α σ ρ : Type} (f : α → σ → Option (Sum σ ρ)) (s : σ) : eachD f [] s = some (.inl s) := rfl
theorem eachD_cons {α σ ρ : Type} (f : α → σ → Option (Sum σ ρ)) (x : α) (xs : List α) (s : σ) : eachD f (x :: xs) s = thenD (f x s) (fun s' => eachD f xs s') (fun r => some (.inr r)) := rfl
theorem mem_rangeI {a n i : Int} : i ∈ rangeI a n ↔ a ≤ i ∧ i < n := by
 unfold rangeI
 simp only [List.mem_map, List.mem_range]
 constructor
 ·rintro ⟨k, hk, rfl⟩
  omega
 ·rintro ⟨h1, h2⟩
  exact ⟨(i - a).toNat, by omega, by omega⟩
theorem each_any {α ρ : Type} {f : α → Unit → Option (Sum Unit ρ)} (p : α → Bool) (r : ρ) : ∀ {xs : List α} (_ : ∀ x ∈ xs, f x () = some (cond (p x) (.inr r) (.inl ()))),
  eachD f xs () = some (cond (xs.any p) (.inr r) (.inl ()))
 | [], _ => rfl
 | x :: xs, h => by
  rw [eachD_cons, h x (List.mem_cons_self ..), List.any_cons]
  cases hp : p x with
  | true => rfl
  | false => exact each_any p r (fun y hy => h y (List.mem_cons_of_mem _ hy))
theorem each_all {α ρ : Type} {f : α → Unit → Option (Sum Unit ρ)} (p : α → Bool) (r : ρ) {xs : List α} (h : ∀ x ∈ xs, f x () = some (cond (p x) (.inl ()) (.inr r))) :
  eachD f xs () = some (cond (xs.all p) (.inl ()) (.inr r)) := by
 rw [each_any (fun x => !p x) r (fun x hx => by rw [h x hx]; cases p x <;> rfl)]
 rw [List.all_eq_not_any_not]
 cases xs.any fun x => !p x <;> rfl
theorem each_fold {α σ ρ : Type} {f : α → σ → Option (Sum σ ρ)} (g : σ → α → σ) (I : σ → Prop) : ∀ {xs : List α} {s : σ} (_ : I s) (_ : ∀ x ∈ xs, ∀ s, I s → f x s = some (.inl (g s x)) ∧ I (g s x)),
  eachD f xs s = some (.inl (xs.foldl g s)) ∧ I (xs.foldl g s)
 | [], s, h0, _ => ⟨rfl, h0⟩
 | x :: xs, s, h0, h => by
  obtain ⟨h1, h2⟩ := h x (List.mem_cons_self ..) s h0
  rw [eachD_cons, h1]
  exact each_fold g I h2 (fun y hy => h y (List.mem_cons_of_mem _ hy))
theorem foldl_append {α β : Type} (g : α → β) : ∀ (xs : List α) (s : List β), xs.foldl (fun s x => s ++ [g x]) s = s ++ xs.map g
 | [], s => by simp
 | x :: xs, s => by rw [List.foldl_cons, foldl_append g xs]; simp
theorem nth_eq {t : Ty} {xs : List t.D} {i : Int} (h0 : 0 ≤ i) (h1 : i < (xs.length : Int)) : nth xs i = xs[i.toNat]'(by omega) := by
 unfold nth
 rw [List.getD_eq_getElem?_getD, List.getElem?_eq_getElem (by omega)]
 rfl
theorem nth_zero {t : Ty} (x : t.D) (xs : List t.D) : nth (t := t) (x :: xs) 0 = x := rfl
theorem nth_succ {t : Ty} (x : t.D) (xs : List t.D) {i : Int} (h : 0 ≤ i) : nth (t := t) (x :: xs) (i + 1) = nth (t := t) xs i := by
 have e : (i + 1).toNat = i.toNat + 1 := by omega
 unfold nth
 rw [e, List.getD_cons_succ]
theorem rangeI_succ (n : Nat) : rangeI 0 ((n : Int) + 1) = 0 :: (rangeI 0 n).map (fun i => i + 1) := by
 rw [rangeI_cons (by omega)]
 congr 1
 unfold rangeI
 have e1 : ((n : Int) + 1 - (0 + 1)).toNat = n := by omega
 have e2 : ((n : Int) - 0).toNat = n := by omega
 rw [e1, e2, List.map_map]
 apply List.map_congr_left
 intro k _
 simp
 omega
theorem nth_map_range {t : Ty} : ∀ (xs : List t.D), (rangeI 0 (xs.length : Int)).map (fun i => nth xs i) = xs
 | [] => by rw [rangeI_nil (by simp)]; rfl
 | x :: xs => by
  have e : ((x :: xs).length : Int) = (xs.length : Int) + 1 := by simp
  rw [e, rangeI_succ, List.map_cons, List.map_map, nth_zero]
  congr 1
  refine (List.map_congr_left (g := fun i => nth xs i) ?_).trans (nth_map_range xs)
  intro i hi
  exact nth_succ x xs (mem_rangeI.1 hi).1
theorem idx_nonneg {t : Ty} {p : t.D → Bool} {xs : List t.D} : decide ((0 : Int) ≤ M.idx (t := t) p xs) = xs.any p := by
 unfold M.idx
 split
 ·rename_i k h
  obtain ⟨h1, h2, _⟩ := List.findIdx?_eq_some_iff_getElem.1 h
  rw [decide_eq_true (by omega)]
  exact (List.any_eq_true.2 ⟨_, List.getElem_mem h1, h2⟩).symm
 ·rename_i h
  rw [decide_eq_false (by omega)]
  rw [List.findIdx?_eq_none_iff] at h
  symm
  rw [List.any_eq_false]
  intro x hx
  simp [h x hx]
theorem each_idx {t : Ty} (p : t.D → Bool) : ∀ (xs : List t.D) (a : Int) (f : Int → Unit → Option (Sum Unit Int)) (_ : ∀ i, 0 ≤ i → i < (xs.length : Int) → f (a + i) () = some (cond (p (nth xs i)) (.inr (a + i)) (.inl ()))),
  eachD f (rangeI a (a + (xs.length : Int))) () = some (match xs.findIdx? p with | some k => .inr (a + (k : Int)) | none => .inl ())
 | [], a, f, _ => by rw [rangeI_nil (by simp)]; rfl
 | x :: xs, a, f, h => by
  have e : ((x :: xs).length : Int) = (xs.length : Int) + 1 := by simp
  have h0 := h 0 (Int.le_refl _) (by rw [e]; omega)
  rw [Int.add_zero, nth_zero] at h0
  rw [rangeI_cons (by rw [e]; omega), eachD_cons, h0, List.findIdx?_cons]
  cases hp : p x with
  | true => simp
  | false =>
   simp only [cond_false, thenD_inl]
   have ih := each_idx p xs (a + 1) f (fun i i0 i1 => by
    have := h (i + 1) (by omega) (by rw [e]; omega)
    rw [nth_succ x xs i0] at this
    rw [show a + 1 + i = a + (i + 1) by omega]
    exact this)
   rw [show a + ((x :: xs).length : Int) = a + 1 + (xs.length : Int) by rw [e]; omega, ih]
   cases List.findIdx? p xs with
   | none => rfl
   | some k => simp; omega
theorem indexFunc_eq {t : Ty} {p : t.D → Bool} {xs : List t.D} {f : Int → Unit → Option (Sum Unit Int)} (h : ∀ i, 0 ≤ i → i < (xs.length : Int) → f i () = some (cond (p (nth xs i)) (.inr i) (.inl ()))) :
  thenD (eachD f (rangeI 0 (xs.length : Int)) ()) (fun _ : Unit => some (-1 : Int)) (fun q : Int => some q) = some (M.idx p xs) := by
 have := each_idx p xs 0 f (fun i h0 h1 => by rw [Int.zero_add]; exact h i h0 h1)
 rw [Int.zero_add] at this
 rw [this]
 unfold M.idx
 cases List.findIdx? p xs with
 | none => rfl
 | some k => simp
theorem containsFunc_eq {t : Ty} {p : t.D → Bool} {xs : List t.D} : some (decide ((0 : Int) ≤ M.idx (t := t) p xs)) = some (xs.any p) := by rw [idx_nonneg]
theorem cond_some {α : Type} {b : Bool} {x y : α} : cond b (some x) (some y) = some (cond b x y) := by cases b <;> rfl
theorem cond_notb {α : Type} {b : Bool} {x y : α} : cond (!b) x y = cond b y x := by cases b <;> rfl
theorem beq_iff : ∀ {t : Ty} (_ : t.flat = true) (x y : t.D), Ty.beq t x y = true ↔ x = y
 | .int _, _, x, y => by simp only [Ty.beq, decide_eq_true_eq]
 | .bool, _, x, y => by simp only [Ty.beq, beq_iff_eq]
 | .str, _, x, y => by simp only [Ty.beq, decide_eq_true_eq]
 | .unit, _, x, y => by simp only [Ty.beq]
 | .sl _, h, _, _ => by cases h
 | .pair a b, h, x, y => by
  simp only [Ty.flat, Bool.and_eq_true] at h
  simp only [Ty.beq, Bool.and_eq_true, beq_iff h.1, beq_iff h.2]
  constructor
  ·rintro ⟨h1, h2⟩
   exact Prod.ext h1 h2
  ·rintro rfl
   exact ⟨rfl, rfl⟩
theorem wrap_pred (n : Nat) (h : n ≤ 1048576) : wrap64 ((n : Int) - 1) = (n : Int) - 1 := wrap64_id' (by omega) (by omega)
theorem then_all {α ρ τ : Type} {f : α → Unit → Option (Sum Unit ρ)} (p : α → Bool) (r : ρ) {xs : List α} (h : ∀ x ∈ xs, f x () = some (cond (p x) (.inl ()) (.inr r))) {A : Unit → Option τ} {B : ρ → Option τ} :
  thenD (eachD f xs ()) A B = cond (xs.all p) (A ()) (B r) := by
 rw [each_all p r h]
 cases xs.all p <;> rfl
theorem cond_andb {a b : Bool} : cond (a == true) (some b) (some false) = some (a && b) := by cases a <;> rfl
theorem get_byteInts {s : ByteArray} {i : Int} (h0 : 0 ≤ i) (h1 : i < (s.size : Int)) : ((s.get! i.toNat).toNat : Int) = nth (t := .int .u8) (byteInts s) i := by
 have hl := byteInts_length s
 have hlt : i.toNat < (byteInts s).length := by omega
 have hd : i.toNat < s.data.size := by
  have : i.toNat < s.size := by omega
  exact this
 unfold nth
 rw [List.getD_eq_getElem?_getD, List.getElem?_eq_getElem hlt]
 simp only [byteInts, List.getElem_map, Option.getD_some]
 have : s.get! i.toNat = s.data[i.toNat] := by
  cases s with
  | mk d => exact getElem!_pos d i.toNat hd
 rw [this]
 simp
theorem all_range {t : Ty} (xs : List t.D) (p : t.D → Bool) : (rangeI 0 (xs.length : Int)).all (fun i => p (nth xs i)) = xs.all p := by
 conv => rhs; rw [← nth_map_range xs]
 rw [List.all_map]
 rfl
theorem byte_mem {s : ByteArray} {n : Int} (h : n ∈ byteInts s) : 0 ≤ n ∧ n ≤ 255 := by
 simp only [byteInts, List.mem_map] at h
 obtain ⟨b, _, rfl⟩ := h
 have := b.toNat_lt
 omega
namespace M
theorem eq_eq {α : Type} {x : List α} {f : Int → Unit → Option (Sum Unit Unit)} (hf : ∀ i, 0 ≤ i → i < (x.length : Int) → f i () = some (.inl ())) :
  cond (!decide ((x.length : Int) = (x.length : Int))) (some false) (thenD (eachD f (rangeI (0 : Int) (x.length : Int)) ()) (fun _ : Unit => some true) (fun _ : Unit => some false)) = some true := by
 rw [decide_eq_true rfl, then_all (fun _ => true) () (fun i hi => by
  obtain ⟨h0, h1⟩ := mem_rangeI.1 hi
  exact hf i h0 h1)]
 have : (rangeI (0 : Int) (x.length : Int)).all (fun _ => true) = true := by simp
 rw [this]
 rfl
theorem guardD_true {α : Type} {x : Option α} : guardD True x = x := guardD_pos trivial
end M
end Go.AE
