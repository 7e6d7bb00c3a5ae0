/- Laws of loops over lists. -/
import Derived.Test.YtckamkecfekneaaGreatAeMM
namespace Go.AE
open Go Go.RowKit
@[simp] theorem letD_eq {α β : Type} (x : α) (f : α → β) : letD x f = f x := rfl
@[simp] theorem brk1D_inl {σ ε : Type} (s : σ) (g : σ → ε) : brk1D (some (.inl s)) g = some (g s) := rfl
@[simp] theorem brk1D_inr {σ ε : Type} (e : ε) (g : σ → ε) : brk1D (some (.inr e)) g = some e := rfl
@[simp] theorem brk2D_inl {σ ε ρ : Type} (s : σ) (g : σ → ε) : brk2D (ρ := ρ) (some (.inl s)) g = some (.inl (g s)) := rfl
@[simp] theorem brk2D_inr {σ ε ρ : Type} (r : Sum ε ρ) (g : σ → ε) : brk2D (some (.inr r)) g = some r := rfl
@[simp] theorem eachD_nil {α σ ρ : Type} (f : α → σ → Option (Sum σ ρ)) (s : σ) : eachD f [] s = some (.inl s) := rfl
theorem eachD_cons {α σ ρ : Type} (f : α → σ → Option (Sum σ ρ)) (x : α) (xs : List α) (s : σ) : eachD f (x :: xs) s = thenD (f x s) (fun s' => eachD f xs s') (fun r => some (.inr r)) := rfl
theorem mem_rangeI {a n i : Int} : i ∈ rangeI a n ↔ a ≤ i ∧ i < n := by
 unfold rangeI
 simp only [List.mem_map, List.mem_range]
 constructor
 ·rintro ⟨k, hk, rfl⟩
  omega
 ·rintro ⟨h1, h2⟩
  exact ⟨(i - a).toNat, by omega, by omega⟩
def firstO {α β : Type} (p : α → Option β) : List α → Option β
 | [] => none
 | x :: xs => match p x with
  | some y => some y
  | none => firstO p xs
theorem each_first {α ρ : Type} {f : α → Unit → Option (Sum Unit ρ)} (p : α → Option ρ) : ∀ {xs : List α} (_ : ∀ x ∈ xs, f x () = some (match p x with | some r => .inr r | none => .inl ())),
  eachD f xs () = some (match firstO p xs with | some r => .inr r | none => .inl ())
 | [], _ => rfl
 | x :: xs, h => by
  rw [eachD_cons, h x (List.mem_cons_self ..), firstO]
  cases hp : p x with
  | some r => rfl
  | none => exact each_first p (fun y hy => h y (List.mem_cons_of_mem _ hy))
theorem each_any {α ρ : Type} {f : α → Unit → Option (Sum Unit ρ)} (p : α → Bool) (r : ρ) : ∀ {xs : List α} (_ : ∀ x ∈ xs, f x () = some (cond (p x) (.inr r) (.inl ()))),
  eachD f xs () = some (cond (xs.any p) (.inr r) (.inl ()))
 | [], _ => rfl
 | x :: xs, h => by
  rw [eachD_cons, h x (List.mem_cons_self ..), List.any_cons]
  cases hp : p x with
  | true => rfl
  | false => exact each_any p r (fun y hy => h y (List.mem_cons_of_mem _ hy))
theorem each_all {α ρ : Type} {f : α → Unit → Option (Sum Unit ρ)} (p : α → Bool) (r : ρ) {xs : List α} (h : ∀ x ∈ xs, f x () = some (cond (p x) (.inl ()) (.inr r))) :
  eachD f xs () = some (cond (xs.all p) (.inl ()) (.inr r)) := by
 rw [each_any (fun x => !p x) r (fun x hx => by rw [h x hx]; cases p x <;> rfl)]
 rw [List.all_eq_not_any_not]
 cases xs.any fun x => !p x <;> rfl
theorem each_fold {α σ ρ : Type} {f : α → σ → Option (Sum σ ρ)} (g : σ → α → σ) (I : σ → Prop) : ∀ {xs : List α} {s : σ} (_ : I s) (_ : ∀ x ∈ xs, ∀ s, I s → f x s = some (.inl (g s x)) ∧ I (g s x)),
  eachD f xs s = some (.inl (xs.foldl g s)) ∧ I (xs.foldl g s)
 | [], s, h0, _ => ⟨rfl, h0⟩
 | x :: xs, s, h0, h => by
  obtain ⟨h1, h2⟩ := h x (List.mem_cons_self ..) s h0
  rw [eachD_cons, h1]
  exact each_fold g I h2 (fun y hy => h y (List.mem_cons_of_mem _ hy))
theorem foldl_append {α β : Type} (g : α → β) : ∀ (xs : List α) (s : List β), xs.foldl (fun s x => s ++ [g x]) s = s ++ xs.map g
 | [], s => by simp
 | x :: xs, s => by rw [List.foldl_cons, foldl_append g xs]; simp
theorem each_map {α β ρ : Type} {f : α → List β → Option (Sum (List β) ρ)} (g : α → β) {xs : List α} (h : ∀ x ∈ xs, ∀ s : List β, s.length < xs.length → f x s = some (.inl (s ++ [g x]))) :
  eachD f xs [] = some (.inl (xs.map g)) := by
 have key : ∀ (ys zs : List α) (s : List β), xs = zs ++ ys → s.length = zs.length → eachD f ys s = some (.inl (s ++ ys.map g)) := by
  intro ys
  induction ys with
  | nil => intro zs s _ _; simp
  | cons y ys ih =>
   intro zs s e hs
   rw [eachD_cons, h y (by rw [e]; simp) s (by rw [e, hs]; simp)]
   rw [thenD_inl, ih (zs ++ [y]) (s ++ [g y]) (by rw [e]; simp) (by simp [hs])]
   simp
 have := key xs [] [] rfl rfl
 simpa using this
theorem nth_eq {t : Ty} {xs : List t.D} {i : Int} (h0 : 0 ≤ i) (h1 : i < (xs.length : Int)) : nth xs i = xs[i.toNat]'(by omega) := by
 unfold nth
 rw [List.getD_eq_getElem?_getD, List.getElem?_eq_getElem (by omega)]
 rfl
theorem nth_zero {t : Ty} (x : t.D) (xs : List t.D) : nth (t := t) (x :: xs) 0 = x := rfl
theorem nth_succ {t : Ty} (x : t.D) (xs : List t.D) {i : Int} (h : 0 ≤ i) : nth (t := t) (x :: xs) (i + 1) = nth (t := t) xs i := by
 have e : (i + 1).toNat = i.toNat + 1 := by omega
 unfold nth
 rw [e, List.getD_cons_succ]
theorem rangeI_succ (n : Nat) : rangeI 0 ((n : Int) + 1) = 0 :: (rangeI 0 n).map (fun i => i + 1) := by
 rw [rangeI_cons (by omega)]
 congr 1
 unfold rangeI
 have e1 : ((n : Int) + 1 - (0 + 1)).toNat = n := by omega
 have e2 : ((n : Int) - 0).toNat = n := by omega
 rw [e1, e2, List.map_map]
 apply List.map_congr_left
 intro k _
 simp
 omega
theorem nth_map_range {t : Ty} : ∀ (xs : List t.D), (rangeI 0 (xs.length : Int)).map (fun i => nth xs i) = xs
 | [] => by rw [rangeI_nil (by simp)]; rfl
 | x :: xs => by
  have e : ((x :: xs).length : Int) = (xs.length : Int) + 1 := by simp
  rw [e, rangeI_succ, List.map_cons, List.map_map, nth_zero]
  congr 1
  refine (List.map_congr_left (g := fun i => nth xs i) ?_).trans (nth_map_range xs)
  intro i hi
  exact nth_succ x xs (mem_rangeI.1 hi).1
theorem idx_nonneg {t : Ty} {p : t.D → Bool} {xs : List t.D} : decide ((0 : Int) ≤ M.idx (t := t) p xs) = xs.any p := by
 unfold M.idx
 split
 ·rename_i k h
  obtain ⟨h1, h2, _⟩ := List.findIdx?_eq_some_iff_getElem.1 h
  rw [decide_eq_true (by omega)]
  exact (List.any_eq_true.2 ⟨_, List.getElem_mem h1, h2⟩).symm
 ·rename_i h
  rw [decide_eq_false (by omega)]
  rw [List.findIdx?_eq_none_iff] at h
  symm
  rw [List.any_eq_false]
  intro x hx
  simp [h x hx]
theorem each_idx {t : Ty} (p : t.D → Bool) : ∀ (xs : List t.D) (a : Int) (f : Int → Unit → Option (Sum Unit Int)) (_ : ∀ i, 0 ≤ i → i < (xs.length : Int) → f (a + i) () = some (cond (p (nth xs i)) (.inr (a + i)) (.inl ()))),
  eachD f (rangeI a (a + (xs.length : Int))) () = some (match xs.findIdx? p with | some k => .inr (a + (k : Int)) | none => .inl ())
 | [], a, f, _ => by rw [rangeI_nil (by simp)]; rfl
 | x :: xs, a, f, h => by
  have e : ((x :: xs).length : Int) = (xs.length : Int) + 1 := by simp
  have h0 := h 0 (Int.le_refl _) (by rw [e]; omega)
  rw [Int.add_zero, nth_zero] at h0
  rw [rangeI_cons (by rw [e]; omega), eachD_cons, h0, List.findIdx?_cons]
  cases hp : p x with
  | true => simp
  | false =>
   simp only [cond_false, thenD_inl]
   have ih := each_idx p xs (a + 1) f (fun i i0 i1 => by
    have := h (i + 1) (by omega) (by rw [e]; omega)
    rw [nth_succ x xs i0] at this
    rw [show a + 1 + i = a + (i + 1) by omega]
    exact this)
   rw [show a + ((x :: xs).length : Int) = a + 1 + (xs.length : Int) by rw [e]; omega, ih]
   cases List.findIdx? p xs with
   | none => rfl
   | some k => simp; omega
theorem indexFunc_eq {t : Ty} {p : t.D → Bool} {xs : List t.D} {f : Int → Unit → Option (Sum Unit Int)} (h : ∀ i, 0 ≤ i → i < (xs.length : Int) → f i () = some (cond (p (nth xs i)) (.inr i) (.inl ()))) :
  thenD (eachD f (rangeI 0 (xs.length : Int)) ()) (fun _ : Unit => some (-1 : Int)) (fun q : Int => some q) = some (M.idx p xs) := by
 have := each_idx p xs 0 f (fun i h0 h1 => by rw [Int.zero_add]; exact h i h0 h1)
 rw [Int.zero_add] at this
 rw [this]
 unfold M.idx
 cases List.findIdx? p xs with
 | none => rfl
 | some k => simp
theorem containsFunc_eq {t : Ty} {p : t.D → Bool} {xs : List t.D} : some (decide ((0 : Int) ≤ M.idx (t := t) p xs)) = some (xs.any p) := by rw [idx_nonneg]
theorem cond_some {α : Type} {b : Bool} {x y : α} : cond b (some x) (some y) = some (cond b x y) := by cases b <;> rfl
theorem cond_notb {α : Type} {b : Bool} {x y : α} : cond (!b) x y = cond b y x := by cases b <;> rfl
theorem wrap_pred (n : Nat) (h : n ≤ 1048576) : wrap64 ((n : Int) - 1) = (n : Int) - 1 := wrap64_id' (by omega) (by omega)
theorem then_any {α ρ τ : Type} {f : α → Unit → Option (Sum Unit ρ)} (p : α → Bool) (r : ρ) {xs : List α} (h : ∀ x ∈ xs, f x () = some (cond (p x) (.inr r) (.inl ()))) {A : Unit → Option τ} {B : ρ → Option τ} :
  thenD (eachD f xs ()) A B = cond (xs.any p) (B r) (A ()) := by
 rw [each_any p r h]
 cases xs.any p <;> rfl
theorem then_all {α ρ τ : Type} {f : α → Unit → Option (Sum Unit ρ)} (p : α → Bool) (r : ρ) {xs : List α} (h : ∀ x ∈ xs, f x () = some (cond (p x) (.inl ()) (.inr r))) {A : Unit → Option τ} {B : ρ → Option τ} :
  thenD (eachD f xs ()) A B = cond (xs.all p) (A ()) (B r) := by
 rw [each_all p r h]
 cases xs.all p <;> rfl
theorem then_first {α ρ τ : Type} {f : α → Unit → Option (Sum Unit ρ)} (p : α → Option ρ) {xs : List α} (h : ∀ x ∈ xs, f x () = some (match p x with | some r => .inr r | none => .inl ())) {A : Unit → Option τ} {B : ρ → Option τ} :
  thenD (eachD f xs ()) A B = match firstO p xs with | some r => B r | none => A () := by
 rw [each_first p h]
 cases firstO p xs <;> rfl
theorem cond_andb {a b : Bool} : cond (a == true) (some b) (some false) = some (a && b) := by cases a <;> rfl
theorem get_byteInts {s : ByteArray} {i : Int} (h0 : 0 ≤ i) (h1 : i < (s.size : Int)) : ((s.get! i.toNat).toNat : Int) = nth (t := .int .u8) (byteInts s) i := by
 have hl := byteInts_length s
 have hlt : i.toNat < (byteInts s).length := by omega
 have hd : i.toNat < s.data.size := by
  have : i.toNat < s.size := by omega
  exact this
 unfold nth
 rw [List.getD_eq_getElem?_getD, List.getElem?_eq_getElem hlt]
 simp only [byteInts, List.getElem_map, Option.getD_some]
 have : s.get! i.toNat = s.data[i.toNat] := by
  cases s with
  | mk d => exact getElem!_pos d i.toNat hd
 rw [this]
 simp
theorem all_range {t : Ty} (xs : List t.D) (p : t.D → Bool) : (rangeI 0 (xs.length : Int)).all (fun i => p (nth xs i)) = xs.all p := by
 conv => rhs; rw [← nth_map_range xs]
 rw [List.all_map]
 rfl
theorem byte_mem {s : ByteArray} {n : Int} (h : n ∈ byteInts s) : 0 ≤ n ∧ n ≤ 255 := by
 simp only [byteInts, List.mem_map] at h
 obtain ⟨b, _, rfl⟩ := h
 have := b.toNat_lt
 omega
def v_size_ok (x : TValue.D) : Prop := x.2.2.1.size ≤ 9223372036854775807
namespace M
def Le {α : Type} (f : α → Int → Int) : Prop := ∀ x l, 0 ≤ l → f x l ≤ l
theorem szLen_le (n : Nat) (l : Int) (h : 0 ≤ l) : szLen n l ≤ l := by
 unfold szLen
 split <;> omega
theorem szValue_le : Le szValue := fun x l h => szLen_le _ l h
theorem szList_le {α : Type} {f : α → Int → Int} (hf : Le f) : ∀ (xs : List α) (l : Int), 0 ≤ l → szList f xs l ≤ l
 | [], l, _ => Int.le_refl _
 | x :: xs, l, h => by
  unfold szList
  split
  ·omega
  ·rename_i h1
   have := hf x l h
   have := szList_le hf xs (f x l) (by omega)
   omega
theorem szS_le {α : Type} {f : α → Int → Int} (hf : Le f) : Le (szS f) := by
 intro x l h
 unfold szS
 split
 ·omega
 ·have := szList_le hf x (l - x.length) (by omega)
  omega
theorem szThen_le {r l : Int} {k : Int → Int} (h : r ≤ l) (hl : 0 ≤ l) (hk : 0 ≤ r → k r ≤ r) : szThen r k ≤ l := by
 unfold szThen
 split
 ·omega
 ·have := hk (by omega)
  omega
theorem szTable_le : Le szTable := fun x l h => szThen_le (szLen_le _ _ h) h fun h => szThen_le (szS_le (szS_le szValue_le) _ _ h) h fun _ => Int.le_refl _
theorem szPart_le : Le szPart := fun x l h => szThen_le (szValue_le _ _ h) h fun _ => Int.le_refl _
theorem szStep_le : Le szStep := fun x l h => szThen_le (szS_le szPart_le _ _ h) h fun h => szThen_le (szLen_le _ _ h) h fun _ => Int.le_refl _
theorem szList_eq {α : Type} {f : α → Int → Int} {b : α → Int → Option (Sum Int Unit)} (hf : Le f) (hb : ∀ z l, 0 ≤ l → l ≤ 1048576 → b z l = some (cond (decide (f z l < 0)) (.inr ()) (.inl (f z l)))) :
  ∀ (xs : List α) (l : Int), 0 ≤ l → l ≤ 1048576 → thenD (eachD b xs l) (fun v : Int => some v) (fun _ : Unit => some (-1 : Int)) = some (szList f xs l)
 | [], l, _, _ => rfl
 | x :: xs, l, h0, h1 => by
  rw [eachD_cons, hb x l h0 h1]
  unfold szList
  by_cases h : f x l < 0
  ·rw [decide_eq_true h, if_pos h]
   rfl
  ·rw [decide_eq_false h, if_neg h]
   have := hf x l h0
   exact szList_eq hf hb xs (f x l) (by omega) (by omega)
theorem szS_eq {α : Type} {f : α → Int → Int} {b : α → Int → Option (Sum Int Unit)} {x : List α} {left : Int} (hf : Le f) (hx : x.length ≤ 9223372036854775807) (h0 : 0 ≤ left) (h1 : left ≤ 1048576)
  (hb : ∀ z l, 0 ≤ l → l ≤ 1048576 → b z l = some (cond (decide (f z l < 0)) (.inr ()) (.inl (f z l)))) :
  cond (decide (wrap64 (left - (x.length : Int)) < (0 : Int))) (some (-1 : Int)) (thenD (eachD b x (wrap64 (left - (x.length : Int)))) (fun v : Int => some v) (fun _ : Unit => some (-1 : Int))) = some (szS f x left) := by
 rw [wrap64_id' (n := left - (x.length : Int)) (by omega) (by omega)]
 unfold szS
 by_cases h : left - (x.length : Int) < 0
 ·rw [decide_eq_true h, if_pos h]
  rfl
 ·rw [decide_eq_false h, if_neg h]
  exact szList_eq hf hb x _ (by omega) (by omega)
theorem take_set {α : Type} {xs ys : List α} {n : Nat} (h : n < xs.length) (hl : ys.length = xs.length) (ht : List.take n ys = List.take n xs) : List.take (n + 1) (ys.set n xs[n]) = List.take (n + 1) xs := by
 have h2 : n < ys.length := by omega
 rw [List.take_add_one, List.take_add_one]
 rw [List.take_set_of_le (Nat.le_refl n), ht, List.getElem?_set_self h2, List.getElem?_eq_getElem h]
theorem to_run {t : Ty} {x : List t.D} {f : Int → List t.D → Option (Sum (List t.D) Unit)} (hf : ∀ i v, 0 ≤ i → i < (x.length : Int) → i < (v.length : Int) → f i v = some (.inl (v.set i.toNat (nth x i)))) :
  ∀ (n : Nat) (i : Int) (v : List t.D), n = ((x.length : Int) - i).toNat → 0 ≤ i → i ≤ (x.length : Int) → v.length = x.length → v.take i.toNat = x.take i.toNat → eachD f (rangeI i (x.length : Int)) v = some (.inl x) := by
 intro n
 induction n with
 | zero =>
  intro i v hn h0 h1 hl ht
  rw [rangeI_nil (by omega)]
  rw [List.take_of_length_le (by omega), List.take_of_length_le (by omega)] at ht
  rw [ht]
  rfl
 | succ n ih =>
  intro i v hn h0 h1 hl ht
  have hlt : i < (x.length : Int) := by omega
  rw [rangeI_cons hlt, eachD_cons, hf i v h0 hlt (by omega), thenD_inl]
  refine ih (i + 1) _ (by omega) (by omega) (by omega) (by simp [hl]) ?_
  have e : (i + 1).toNat = i.toNat + 1 := by omega
  rw [e, nth_eq h0 hlt]
  exact take_set (by omega) hl ht
theorem to_eq {t : Ty} {x : List t.D} {z : t.D} {f : Int → List t.D → Option (Sum (List t.D) Unit)} (hf : ∀ i v, 0 ≤ i → i < (x.length : Int) → i < (v.length : Int) → f i v = some (.inl (v.set i.toNat (nth x i)))) :
  thenD (eachD f (rangeI (0 : Int) (x.length : Int)) (List.replicate (x.length : Int).toNat z)) (fun v : List t.D => some v) (fun _ : Unit => none) = some x := by
 rw [to_run hf (x.length : Int).toNat 0 _ (by omega) (by omega) (by omega) (by simp) (by simp)]
 rfl
theorem eq_eq {α : Type} {x : List α} {f : Int → Unit → Option (Sum Unit Unit)} (hf : ∀ i, 0 ≤ i → i < (x.length : Int) → f i () = some (.inl ())) :
  cond (!decide ((x.length : Int) = (x.length : Int))) (some false) (thenD (eachD f (rangeI (0 : Int) (x.length : Int)) ()) (fun _ : Unit => some true) (fun _ : Unit => some false)) = some true := by
 rw [decide_eq_true rfl, then_all (fun _ => true) () (fun i hi => by
  obtain ⟨h0, h1⟩ := mem_rangeI.1 hi
  exact hf i h0 h1)]
 have : (rangeI (0 : Int) (x.length : Int)).all (fun _ => true) = true := by simp
 rw [this]
 rfl
theorem guardD_true {α : Type} {x : Option α} : guardD True x = x := guardD_pos trivial
theorem refl_guard {α β : Type} {x : α} {y : Option β} : guardD (x = x) y = y := guardD_pos rfl
def Tells (t : Ty) (f : t.D → Int → Int) : Prop := ∀ x l, 0 ≤ l → l ≤ 1048576 → 0 ≤ f x l → Sm t x
theorem szLen_tells {n : Nat} {l : Int} (h1 : l ≤ 1048576) (h : 0 ≤ szLen n l) : n ≤ 1048576 := by
 unfold szLen at h
 split at h <;> omega
theorem szValue_tells : Tells TValue szValue := fun x l _ h1 h => ⟨trivial, trivial, szLen_tells h1 h, trivial⟩
theorem szPlain_tells {t : Ty} (ht : t.bare = true) : Tells (.sl t) (fun x => szLen (List.length x)) := fun x l _ h1 h => ⟨szLen_tells h1 h, fun y _ => sm_bare ht y⟩
theorem szList_tells {t : Ty} {f : t.D → Int → Int} (hf : Le f) (ht : Tells t f) : ∀ (xs : List t.D) (l : Int), 0 ≤ l → l ≤ 1048576 → 0 ≤ szList f xs l → ∀ x ∈ xs, Sm t x
 | [], _, _, _, _ => fun _ h => by cases h
 | x :: xs, l, h0, h1, h => by
  unfold szList at h
  by_cases hx : f x l < 0
  ·rw [if_pos hx] at h; omega
  ·rw [if_neg hx] at h
   have := hf x l h0
   intro y hy
   rcases List.mem_cons.1 hy with rfl | hy
   ·exact ht y l h0 h1 (by omega)
   ·exact szList_tells hf ht xs (f x l) (by omega) (by omega) h y hy
theorem szS_tells {t : Ty} {f : t.D → Int → Int} (hf : Le f) (ht : Tells t f) : Tells (.sl t) (szS f) := by
 intro xs l h0 h1 h
 unfold szS at h
 by_cases hx : l - (xs.length : Int) < 0
 ·rw [if_pos hx] at h; omega
 ·rw [if_neg hx] at h
  exact ⟨by omega, szList_tells hf ht xs _ (by omega) (by omega) h⟩
theorem szThen_tells {r : Int} {k : Int → Int} (h : 0 ≤ szThen r k) : 0 ≤ r ∧ 0 ≤ k r := by
 unfold szThen at h
 by_cases hr : r < 0
 ·rw [if_pos hr] at h; omega
 ·rw [if_neg hr] at h; exact ⟨by omega, h⟩
theorem szTable_tells : Tells TTable szTable := by
 intro x l h0 h1 h
 obtain ⟨a, h⟩ := szThen_tells h
 obtain ⟨b, _⟩ := szThen_tells h
 have la := szLen_le x.1.length l h0
 exact ⟨szPlain_tells rfl x.1 l h0 h1 a, szS_tells (szS_le szValue_le) (szS_tells szValue_le szValue_tells) x.2.1 _ a (by omega) b, trivial⟩
theorem szPart_tells : Tells TPart szPart := by
 intro x l h0 h1 h
 obtain ⟨a, _⟩ := szThen_tells h
 exact ⟨trivial, trivial, szValue_tells x.2.2.1 l h0 h1 a, trivial⟩
theorem szStep_tells : Tells TStep szStep := by
 intro x l h0 h1 h
 obtain ⟨a, h⟩ := szThen_tells h
 obtain ⟨b, _⟩ := szThen_tells h
 have la := szS_le szPart_le x.2.2.2.2.1 l h0
 exact ⟨trivial, trivial, trivial, trivial, szS_tells szPart_le szPart_tells x.2.2.2.2.1 l h0 h1 a, szPlain_tells rfl x.2.2.2.2.2.1 _ a (by omega) b, trivial⟩
end M
end Go.AE
