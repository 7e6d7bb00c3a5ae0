/- What a law writes into slices, to see whose they are: plain Lean. -/
import Derived.Test.YtckamkecfekneaaGreatAeLem
namespace Go.AE
open Go Go.RowKit
set_option linter.unusedVariables false
def M.big : Int := 4611686018427387904
def M.digitsF : Nat → Int → ByteArray → ByteArray
 | 0, _, acc => acc
 | f + 1, k, acc => if 0 < k then M.digitsF f (k.tdiv 10) (strOf [(48 + k.tmod 10) % 256] ++ acc) else acc
def M.markText (k : Int) : ByteArray := if k ≤ 0 then ⟨#[109, 48]⟩ else ⟨#[109]⟩ ++ M.digitsF 64 k ⟨#[]⟩
def M.countL {α : Type} (f : α → Nat) : List α → Nat
 | [] => 0
 | x :: xs => f x + M.countL f xs
def M.count : (t : Ty) → t.D → Nat
 | .int _, _ => 1
 | .bool, _ => 1
 | .str, _ => 1
 | .unit, _ => 0
 | .pair a b, x => M.count a x.1 + M.count b x.2
 | .sl t, xs => M.countL (M.count t) xs
def M.markL {α : Type} (f : α → Int → α) (c : α → Nat) : List α → Int → List α
 | [], _ => []
 | x :: xs, k => f x k :: M.markL f c xs (k + (c x : Int))
def M.mark : (t : Ty) → t.D → Int → t.D
 | .int _, _, k => k
 | .bool, _, k => decide (k.tmod (3 : Int) = (0 : Int))
 | .str, _, k => M.markText k
 | .unit, _, _ => ()
 | .pair a b, x, k => (M.mark a x.1 k, M.mark b x.2 (k + (M.count a x.1 : Int)))
 | .sl t, xs, k => M.markL (M.mark t) (M.count t) xs k
namespace M
theorem markL_len {α : Type} (f : α → Int → α) (c : α → Nat) : ∀ (xs : List α) (k : Int), (markL f c xs k).length = xs.length
 | [], _ => rfl
 | x :: xs, k => by simp [markL, markL_len f c xs]
theorem mark_len (t : Ty) (xs : List t.D) (k : Int) : (mark (.sl t) xs k : List t.D).length = xs.length := markL_len _ _ xs k
theorem count_mark : ∀ (t : Ty) (x : t.D) (k : Int), count t (mark t x k) = count t x := by
 intro t
 induction t with
 | int k => intro x k; rfl
 | bool => intro x k; rfl
 | str => intro x k; rfl
 | unit => intro x k; rfl
 | pair a b iha ihb =>
  intro x k
  show count a (mark a x.1 k) + count b (mark b x.2 _) = _
  rw [iha, ihb]
  rfl
 | sl t ih =>
  intro xs k
  show countL (count t) (markL (mark t) (count t) xs k) = countL (count t) xs
  induction xs generalizing k with
  | nil => rfl
  | cons x xs ihx =>
   show count t (mark t x k) + countL (count t) (markL (mark t) (count t) xs _) = _
   rw [ih, ihx]
   rfl
theorem mark_idem : ∀ (t : Ty) (x : t.D) (k : Int), mark t (mark t x k) k = mark t x k := by
 intro t
 induction t with
 | int k => intro x k; rfl
 | bool => intro x k; rfl
 | str => intro x k; rfl
 | unit => intro x k; rfl
 | pair a b iha ihb =>
  intro x k
  show (mark a (mark a x.1 k) k, mark b (mark b x.2 _) (k + (count a (mark a x.1 k) : Int))) = (mark a x.1 k, mark b x.2 _)
  rw [iha, count_mark, ihb]
 | sl t ih =>
  intro xs k
  show markL (mark t) (count t) (markL (mark t) (count t) xs k) k = markL (mark t) (count t) xs k
  induction xs generalizing k with
  | nil => rfl
  | cons x xs ihx =>
   show mark t (mark t x k) k :: markL (mark t) (count t) (markL (mark t) (count t) xs _) (k + (count t (mark t x k) : Int)) = _
   rw [ih, count_mark, ihx]
   rfl
def maxCount : Ty → Nat
 | .int _ => 1
 | .bool => 1
 | .str => 1
 | .unit => 0
 | .pair a b => maxCount a + maxCount b
 | .sl t => 1048576 * maxCount t
theorem count_le : ∀ {t : Ty} {x : t.D}, Sm t x → count t x ≤ maxCount t := by
 intro t
 induction t with
 | int k => intro x _; exact Nat.le_refl _
 | bool => intro x _; exact Nat.le_refl _
 | str => intro x _; exact Nat.le_refl _
 | unit => intro x _; exact Nat.le_refl _
 | pair a b iha ihb => intro x h; exact Nat.add_le_add (iha h.1) (ihb h.2)
 | sl t ih =>
  intro xs h
  have key : ∀ (l : List t.D), (∀ x ∈ l, Sm t x) → countL (count t) l ≤ l.length * maxCount t := by
   intro l
   induction l with
   | nil => intro _; exact Nat.zero_le _
   | cons x l ihl =>
    intro hl
    have h1 := ih (hl x (by simp))
    have h2 := ihl (fun y hy => hl y (by simp [hy]))
    show count t x + countL (count t) l ≤ (l.length + 1) * maxCount t
    rw [Nat.succ_mul]
    omega
  exact Nat.le_trans (key xs h.2) (Nat.mul_le_mul_right _ h.1)
theorem markText_size (k : Int) : (markText k).size ≤ 66 := by
 have strs : ∀ n, (strOf [n]).size = 1 := fun n => rfl
 have key : ∀ (f : Nat) (k : Int) (acc : ByteArray), (digitsF f k acc).size ≤ acc.size + f := by
  intro f
  induction f with
  | zero => intro k acc; exact Nat.le_refl _
  | succ f ih =>
   intro k acc
   unfold digitsF
   split
   ·have := ih (k.tdiv 10) (strOf [(48 + k.tmod 10) % 256] ++ acc)
    rw [ByteArray.size_append, strs] at this
    omega
   ·omega
 unfold markText
 split
 ·show (2 : Nat) ≤ 66
  omega
 ·rw [ByteArray.size_append]
  have := key 64 k ⟨#[]⟩
  have e1 : (⟨#[109]⟩ : ByteArray).size = 1 := rfl
  have e2 : (⟨#[]⟩ : ByteArray).size = 0 := rfl
  omega
theorem mark_sm {B : Nat} (hB : 66 ≤ B) : ∀ {t : Ty} {x : t.D} (k : Int), SmB B t x → SmB B t (mark t x k) := by
 intro t
 induction t with
 | int k => intro x k _; trivial
 | bool => intro x k _; trivial
 | str => intro x k _; exact Nat.le_trans (markText_size k) hB
 | unit => intro x k _; trivial
 | pair a b iha ihb => intro x k h; exact ⟨iha _ h.1, ihb _ h.2⟩
 | sl t ih =>
  intro xs k h
  refine ⟨?_, ?_⟩
  ·rw [mark_len]; exact h.1
  ·have key : ∀ (l : List t.D) (k : Int), (∀ x ∈ l, SmB B t x) → ∀ y ∈ markL (mark t) (count t) l k, SmB B t y := by
    intro l
    induction l with
    | nil => intro k _ y hy; cases hy
    | cons x l ihl =>
     intro k hl y hy
     rcases List.mem_cons.1 hy with rfl | hy
     ·exact ih k (hl x (by simp))
     ·exact ihl _ (fun z hz => hl z (by simp [hz])) y hy
   exact key xs k h.2
theorem digits_run {f : Int × ByteArray → Option (Sum (Int × ByteArray) ByteArray)} (hf : ∀ v : Int × ByteArray, v.1 ≤ 9223372036854775807 → v.2.size ≤ 1000 → f v = some (if 0 < v.1 then .inl (v.1.tdiv 10, strOf [(48 + v.1.tmod 10) % 256] ++ v.2) else .inr v.2)) :
  ∀ (n : Nat) (k : Int) (acc : ByteArray), k < 10 ^ n → k ≤ 9223372036854775807 → acc.size + n ≤ 1000 → whileD f (k, acc) = some (digitsF n k acc) := by
 intro n
 induction n with
 | zero =>
  intro k acc hk h63 ha
  have hk : ¬ 0 < k := by simp at hk; omega
  rw [whileD_step, hf _ h63 (by simpa using ha), if_neg hk]
  rfl
 | succ n ih =>
  intro k acc hk h63 ha
  rw [whileD_step, hf _ h63 (by show acc.size ≤ 1000; omega)]
  show thenD (some (if 0 < k then _ else _)) _ _ = _
  unfold digitsF
  by_cases h : 0 < k
  ·rw [if_pos h, if_pos h]
   have e : k.tdiv 10 = k / 10 := Int.tdiv_eq_ediv_of_nonneg (by omega)
   refine ih _ _ ?_ ?_ ?_
   ·rw [e]
    have hp : (10 : Int) ^ (n + 1) = 10 ^ n * 10 := Int.pow_succ ..
    rw [hp] at hk
    generalize (10 : Int) ^ n = m at hk
    omega
   ·rw [e]; omega
   ·rw [ByteArray.size_append, show (strOf [(48 + k.tmod 10) % 256]).size = 1 from rfl]
    show 1 + acc.size + n ≤ 1000
    omega
  ·rw [if_neg h, if_neg h]
   rfl
theorem nth_set {t : Ty} {a : List t.D} {i : Int} {z : t.D} (h0 : 0 ≤ i) (h1 : i < (a.length : Int)) : nth (t := t) (a.set i.toNat z) i = z := by
 have : i.toNat < a.length := by omega
 unfold nth
 rw [List.getD_eq_getElem?_getD, List.getElem?_set_self this]
 rfl
theorem mark_run {e : Ty} {f : Int → Int × List e.D → Option (Sum (Int × List e.D) Unit)} {N : Nat}
  (hf : ∀ i (v : Int × List e.D), 0 ≤ i → i < (N : Int) → i < (v.2.length : Int) → 0 ≤ v.1 → v.1 + (count e (nth v.2 i) : Int) ≤ big → Ln e (nth v.2 i) → f i v = some (.inl (v.1 + (count e (nth v.2 i) : Int), v.2.set i.toNat (mark e (nth v.2 i) v.1)))) :
  ∀ (l pre : List e.D) (k : Int), pre.length + l.length = N → 0 ≤ k → k + (countL (count e) l : Int) ≤ big → (∀ x ∈ l, Ln e x) →
   eachD f (rangeI (pre.length : Int) (N : Int)) (k, pre ++ l) = some (.inl (k + (countL (count e) l : Int), pre ++ markL (mark e) (count e) l k)) := by
 intro l
 induction l with
 | nil =>
  intro pre k hN h0 hb _
  rw [rangeI_nil (by simp at hN; omega)]
  show some (Sum.inl (k, pre ++ [])) = some (Sum.inl (k + 0, pre ++ []))
  rw [Int.add_zero]
 | cons x l ih =>
  intro pre k hN h0 hb hl
  simp only [List.length_cons] at hN
  have hn : nth (t := e) (pre ++ x :: l) (pre.length : Int) = x := by
   unfold nth
   rw [List.getD_eq_getElem?_getD]
   simp
  have hc : countL (count e) (x :: l) = count e x + countL (count e) l := rfl
  rw [hc] at hb
  rw [rangeI_cons (by omega), eachD_cons, hf _ _ (by omega) (by omega) (by simp; omega) h0 (by rw [hn]; show k + _ ≤ big; omega) (by rw [hn]; exact hl x (by simp)), hn, thenD_inl]
  have e1 : (pre ++ x :: l).set ((pre.length : Int)).toNat (mark e x k) = (pre ++ [mark e x k]) ++ l := by
   simp
  rw [e1]
  have e2 : (pre.length : Int) + 1 = ((pre ++ [mark e x k]).length : Int) := by simp
  rw [e2, ih _ _ (by simp; omega) (by show 0 ≤ k + _; omega) (by show k + _ + _ ≤ big; omega) (fun y hy => hl y (by simp [hy]))]
  show some (Sum.inl (k + (count e x : Int) + _, _)) = _
  rw [hc]
  congr 3
  ·omega
  ·simp [markL]
theorem mark_eq {e : Ty} {x : List e.D} {k : Int} {f : Int → Int × List e.D → Option (Sum (Int × List e.D) Unit)} (hl : Ln (.sl e) x) (h0 : 0 ≤ k) (hb : k + (count (.sl e) x : Int) ≤ big)
  (hf : ∀ i (v : Int × List e.D), 0 ≤ i → i < (x.length : Int) → i < (v.2.length : Int) → 0 ≤ v.1 → v.1 + (count e (nth v.2 i) : Int) ≤ big → Ln e (nth v.2 i) → f i v = some (.inl (v.1 + (count e (nth v.2 i) : Int), v.2.set i.toNat (mark e (nth v.2 i) v.1)))) :
  thenD (eachD f (rangeI (0 : Int) (x.length : Int)) (k, x)) (fun v : Int × List e.D => some (v.2, v.1)) (fun _ : Unit => none) = some ((mark (.sl e) x k : List e.D), k + (count (.sl e) x : Int)) := by
 have := mark_run hf x [] k (by simp) h0 hb hl.2
 simp only [List.nil_append, List.length_nil] at this
 rw [show ((0 : Nat) : Int) = 0 from rfl] at this
 rw [this]
 rfl
theorem held_run {e : Ty} {f : e.D → Int → Option (Sum Int Unit)} (hf : ∀ z v, 0 ≤ v → v + (count e z : Int) ≤ big → mark e z v = z → f z v = some (.inl (v + (count e z : Int)))) :
  ∀ (l : List e.D) (k : Int), 0 ≤ k → k + (countL (count e) l : Int) ≤ big → markL (mark e) (count e) l k = l → eachD f l k = some (.inl (k + (countL (count e) l : Int))) := by
 intro l
 induction l with
 | nil =>
  intro k _ _ _
  show some (Sum.inl k) = some (Sum.inl (k + 0))
  rw [Int.add_zero]
 | cons x l ih =>
  intro k h0 hb hm
  have hc : countL (count e) (x :: l) = count e x + countL (count e) l := rfl
  rw [hc] at hb
  have hm : mark e x k :: markL (mark e) (count e) l (k + (count e x : Int)) = x :: l := hm
  obtain ⟨h1, h2⟩ := List.cons.inj hm
  rw [eachD_cons, hf x k h0 (by omega) h1, thenD_inl, ih _ (by omega) (by omega) h2, hc]
  congr 2
  omega
theorem held_eq {e : Ty} {x : List e.D} {k : Int} {f : e.D → Int → Option (Sum Int Unit)} (h0 : 0 ≤ k) (hb : k + (count (.sl e) x : Int) ≤ big) (hm : (mark (.sl e) x k : List e.D) = x)
  (hf : ∀ z v, 0 ≤ v → v + (count e z : Int) ≤ big → mark e z v = z → f z v = some (.inl (v + (count e z : Int)))) :
  thenD (eachD f x k) (fun v : Int => some v) (fun _ : Unit => some (-1 : Int)) = some (k + (count (.sl e) x : Int)) := by
 rw [held_run hf x k h0 hb hm]
 rfl
end M
end Go.AE
