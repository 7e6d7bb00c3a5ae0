/- How it is shown that a function's value is there, and what holds of it: plain Lean. -/
import Derived.Test.YtiplhefglgpdoaaGreatAeMQ
namespace Go.AE
open Go Go.RowKit
set_option linter.unusedVariables false
def M.bytesOk (b : List Int) : Prop := ∀ x ∈ b, 0 ≤ x ∧ x ≤ 255
theorem xor_nonneg {a b : Int} (ha : 0 ≤ a) (ha' : a < 9223372036854775808) (hb : 0 ≤ b) (hb' : b < 9223372036854775808) : 0 ≤ bitsK .xor .i64 a b := by
 have h1 : (BitVec.ofInt 64 a).toNat < 2 ^ 63 := by rw [BitVec.toNat_ofInt]; omega
 have h2 : (BitVec.ofInt 64 b).toNat < 2 ^ 63 := by rw [BitVec.toNat_ofInt]; omega
 have h3 : (BitVec.ofInt 64 a ^^^ BitVec.ofInt 64 b).toNat < 2 ^ 63 := by
  rw [BitVec.toNat_xor]
  exact Nat.xor_lt_two_pow h1 h2
 show 0 ≤ IntKind.i64.wrap (((BitVec.ofInt 64 a ^^^ BitVec.ofInt 64 b).toNat : Nat) : Int)
 generalize (BitVec.ofInt 64 a ^^^ BitVec.ofInt 64 b).toNat = m at h3
 have e : ((m : Int) % 2 ^ 64) = (m : Int) := by omega
 unfold IntKind.wrap
 simp only [show IntKind.i64.bits = 64 from rfl, e]
 split
 ·rename_i h
  simp only [Bool.and_eq_true, decide_eq_true_eq] at h
  omega
 ·omega
theorem size_strOf (xs : List Int) : (strOf xs).size = xs.length := by
 unfold strOf
 show (List.toArray _).size = _
 simp
theorem size_app (a b : ByteArray) : (a ++ b).size = a.size + b.size := ByteArray.size_append
def M.eB (deep : Int) : Nat := if deep ≤ 0 then 3 else if deep ≤ 1 then 9 else if deep ≤ 2 then 27 else 81
section
variable {α : Type} {P : α → Prop} {a b : List α} {x : α}
theorem all_nil : ∀ v ∈ ([] : List α), P v := fun _ h => by cases h
theorem all_cons (h : P x) (hb : ∀ v ∈ b, P v) : ∀ v ∈ x :: b, P v := fun v hv => by
 rcases List.mem_cons.1 hv with rfl | hv
 ·exact h
 ·exact hb v hv
theorem all_app (ha : ∀ v ∈ a, P v) (hb : ∀ v ∈ b, P v) : ∀ v ∈ a ++ b, P v := fun v hv => (List.mem_append.1 hv).elim (ha v) (hb v)
theorem all_set {n : Nat} (ha : ∀ v ∈ a, P v) (h : P x) : ∀ v ∈ a.set n x, P v := fun v hv => by
 rcases List.mem_or_eq_of_mem_set hv with hv | rfl
 ·exact ha v hv
 ·exact h
theorem all_take {n : Nat} (ha : ∀ v ∈ a, P v) : ∀ v ∈ a.take n, P v := fun v hv => ha v (List.mem_of_mem_take hv)
theorem lit_size (l : Array UInt8) : (⟨l⟩ : ByteArray).size = l.size := rfl
end
namespace M
theorem eB_of {d : Int} : 3 ≤ eB d ∧ eB d ≤ 81 := by
 unfold eB
 repeat' split
 all_goals omega
theorem eB_rec {d : Int} (h1 : 1 ≤ d) (h3 : d ≤ 3) : 3 * eB (d - 1) = eB d ∧ eB (d - 2) ≤ eB (d - 1) := by
 have : d = 1 ∨ d = 2 ∨ d = 3 := by omega
 rcases this with rfl | rfl | rfl <;> decide
theorem eB_w1 {d : Int} (h3 : d ≤ 3) : 1 ≤ d → 3 * eB (wrap64 (d - (1 : Int))) ≤ eB d := fun h1 => by
 rw [wrap64_id' (by omega) (by omega), (eB_rec h1 h3).1]
 exact Nat.le_refl _
theorem eB_w2 {d : Int} (h3 : d ≤ 3) : 1 ≤ d → 3 * eB (wrap64 (d - (2 : Int))) ≤ eB d := fun h1 => by
 rw [wrap64_id' (by omega) (by omega), ← (eB_rec h1 h3).1]
 exact Nat.mul_le_mul_left 3 (eB_rec h1 h3).2
theorem bytes_of_fine {x : List Int} (h : Fine (.sl (.int .u8)) x) : bytesOk x := fun n hn => by
 have := h.2 n hn
 unfold Fine Lit.wf at this
 simp only [Bool.and_eq_true, decide_eq_true_eq] at this
 exact this
theorem bytes_nth {b : List Int} (h : bytesOk b) (i : Int) : 0 ≤ nth (t := .int .u8) b i ∧ nth (t := .int .u8) b i ≤ 255 := by
 unfold nth
 rw [List.getD_eq_getElem?_getD]
 cases he : b[i.toNat]? with
 | none => exact ⟨Int.le_refl _, by decide⟩
 | some x => exact h x (List.mem_of_getElem? he)
theorem sm_flat {t : Ty} (ht : t.bare = true) {xs : List t.D} {n : Nat} (h : xs.length ≤ n) (hn : n ≤ 1048576) : Sm (.sl t) xs := ⟨Nat.le_trans h hn, fun x _ => sm_bare ht x⟩
theorem sm_vals {vs : List TValue.D} {n : Nat} (h : vs.length ≤ n) (hv : ∀ v ∈ vs, v.2.2.1.size ≤ 20) (hn : n ≤ 1048576) : Sm (.sl TValue) vs := ⟨Nat.le_trans h hn, fun v hm => ⟨trivial, trivial, Nat.le_trans (hv v hm) (by decide), trivial⟩⟩
theorem sm_parts {vs : List TPart.D} {n : Nat} (h : vs.length ≤ n) (hv : ∀ v ∈ vs, v.2.2.1.2.2.1.size ≤ 20) (hn : n ≤ 1048576) : Sm (.sl TPart) vs := ⟨Nat.le_trans h hn, fun v hm => ⟨trivial, trivial, ⟨trivial, trivial, Nat.le_trans (hv v hm) (by decide), trivial⟩, trivial⟩⟩
theorem tmod_lt {a n : Int} (ha : 0 ≤ a) (hn : 1 ≤ n) : 0 ≤ a.tmod n ∧ a.tmod n < n := by
 rw [Int.tmod_eq_emod_of_nonneg ha]
 exact ⟨Int.emod_nonneg _ (by omega), Int.emod_lt_of_pos _ (by omega)⟩
theorem tdiv_bd {a n : Int} (ha : 0 ≤ a) (hn : 1 ≤ n) : 0 ≤ a.tdiv n ∧ a.tdiv n ≤ a := by
 rw [Int.tdiv_eq_ediv_of_nonneg ha]
 exact ⟨Int.ediv_nonneg ha (by omega), Int.ediv_le_self _ ha⟩
theorem pick_near {u n : Int} (hu : 0 ≤ u ∧ u ≤ 255) (hn : 1 ≤ n) : 0 ≤ (wrap64 u).tmod n ∧ (wrap64 u).tmod n < n := by
 rw [wrap64_id' (n := u) (by omega) (by omega)]
 exact tmod_lt hu.1 hn
theorem pick_far {u v p q n : Int} (hu : 0 ≤ u ∧ u ≤ 255) (hv : 0 ≤ v ∧ v ≤ 255) (p0 : 0 ≤ p) (p1 : p ≤ 1000000000000000) (hq : 0 ≤ q ∧ q ≤ p) (hn : 1 ≤ n) :
  0 ≤ (bitsK .xor .i64 (wrap64 (wrap64 (wrap64 (wrap64 ((wrap64 u) * (131 : Int)) + wrap64 ((wrap64 v) * (1117 : Int))) + wrap64 (p * (29 : Int))) + wrap64 ((wrap64 q) * (53 : Int)))) (wrap64 ((wrap64 (wrap64 (wrap64 (wrap64 ((wrap64 u) * (131 : Int)) + wrap64 ((wrap64 v) * (1117 : Int))) + wrap64 (p * (29 : Int))) + wrap64 ((wrap64 q) * (53 : Int)))).tdiv (64 : Int)))).tmod n ∧
  (bitsK .xor .i64 (wrap64 (wrap64 (wrap64 (wrap64 ((wrap64 u) * (131 : Int)) + wrap64 ((wrap64 v) * (1117 : Int))) + wrap64 (p * (29 : Int))) + wrap64 ((wrap64 q) * (53 : Int)))) (wrap64 ((wrap64 (wrap64 (wrap64 (wrap64 ((wrap64 u) * (131 : Int)) + wrap64 ((wrap64 v) * (1117 : Int))) + wrap64 (p * (29 : Int))) + wrap64 ((wrap64 q) * (53 : Int)))).tdiv (64 : Int)))).tmod n < n := by
 have e : wrap64 (wrap64 (wrap64 (wrap64 ((wrap64 u) * (131 : Int)) + wrap64 ((wrap64 v) * (1117 : Int))) + wrap64 (p * (29 : Int))) + wrap64 ((wrap64 q) * (53 : Int))) = u * 131 + v * 1117 + p * 29 + q * 53 := by
  rw [wrap64_id' (n := u) (by omega) (by omega), wrap64_id' (n := v) (by omega) (by omega), wrap64_id' (n := q) (by omega) (by omega), wrap64_id' (n := u * 131) (by omega) (by omega), wrap64_id' (n := v * 1117) (by omega) (by omega), wrap64_id' (n := p * 29) (by omega) (by omega), wrap64_id' (n := q * 53) (by omega) (by omega), wrap64_id' (n := u * 131 + v * 1117) (by omega) (by omega), wrap64_id' (n := u * 131 + v * 1117 + p * 29) (by omega) (by omega), wrap64_id' (by omega) (by omega)]
 rw [e]
 generalize hA : u * 131 + v * 1117 + p * 29 + q * 53 = A
 have a0 : 0 ≤ A := by omega
 have a1 : A < 9223372036854775808 := by omega
 obtain ⟨d0, d1⟩ := tdiv_bd (n := 64) a0 (by decide)
 rw [wrap64_id' (n := A.tdiv 64) (by omega) (by omega)]
 exact tmod_lt (xor_nonneg a0 a1 d0 (by omega)) hn
theorem text_nth {xs : List ByteArray} {k : Nat} (h : xs.all (fun s => decide (s.size ≤ k)) = true) (i : Int) : (nth (t := Ty.str) xs i : ByteArray).size ≤ k := by
 unfold nth
 rw [List.getD_eq_getElem?_getD]
 cases he : xs[i.toNat]? with
 | none => exact Nat.zero_le _
 | some x => exact of_decide_eq_true (List.all_eq_true.1 h x (List.mem_of_getElem? he))
theorem bytes_cut {b : List Int} (h : bytesOk b) (c : Option (Int × Int)) : bytesOk (cutList b c) := by
 intro x hx
 cases c with
 | none => exact h x hx
 | some p => exact h x (List.mem_of_mem_drop (List.mem_of_mem_take hx))
end M
theorem au {p : Prop} (h : p := by first | assumption | omega | decide | trivial | (dsimp only; first | assumption | omega | decide) | (simp only [size_app, lit_size, size_strOf, List.size_toArray, List.length_cons, List.length_nil, List.length_append, List.length_take, List.length_set, List.length_replicate]; omega) | (simp only [size_app, lit_size, size_strOf, List.size_toArray, List.length_cons, List.length_nil, List.length_append, List.length_take, List.length_set, List.length_replicate, lim]; omega) | (simp only [size_app, lit_size, size_strOf, List.size_toArray, List.length_cons, List.length_nil, List.length_append, List.length_take, List.length_set, List.length_replicate, lim, wrap64]; omega) | exact M.sm_flat rfl (by assumption) (by decide) | exact M.sm_vals (by assumption) (by assumption) (by decide) | exact M.bytes_cut (by assumption) _ | exact sm_cut (by assumption) _ | exact sm_nil _ | exact Nat.le_trans (M.text_nth (k := 2) rfl _) (by decide) | ((try dsimp only); (repeat' (first | assumption | exact all_nil | refine all_cons ?_ ?_ | refine all_app ?_ ?_ | refine all_set ?_ ?_ | refine all_take ?_ | decide | (dsimp only; first | assumption | omega | decide))); done)) : p := h
section
variable {α β σ ρ τ ε : Type} {K : α → Prop}
theorem okG {p : Prop} {x : Option α} (k : ok x K) (h : p := by exact au) : ok (guardD p x) K := by rw [guardD_pos h]; exact k
theorem okL {γ : Type} {x : γ} {f : γ → Option α} (k : ∀ r, r = x → ok (f r) K) : ok (letD x f) K := k x rfl
theorem okC {b : Bool} {x y : Option α} (h1 : b = true → ok x K) (h2 : b = false → ok y K) : ok (cond b x y) K := by
 cases b
 ·exact h2 rfl
 ·exact h1 rfl
theorem okD {p : Prop} [Decidable p] {x y : Option α} (h1 : p → ok x K) (h2 : ¬ p → ok y K) : ok (cond (decide p) x y) K := okC (fun h => h1 (of_decide_eq_true h)) (fun h => h2 (of_decide_eq_false h))
theorem okDe {p : Prop} [Decidable p] {x y : Option α} (h1 : p → ok x K) (h2 : ¬ p → ok y K) : ok (cond (decide p == true) x y) K := okC (fun h => h1 (by simpa using h)) (fun h => h2 (by simpa using h))
theorem okDg {p : Prop} [Decidable p] {x y : Option α} (h1 : ¬ p → ok x K) (h2 : p → ok y K) : ok (cond (decide p == false) x y) K := okC (fun h => h1 (by simpa using h)) (fun h => h2 (by simpa using h))
theorem okS {x : α} (h : K x) : ok (some x) K := h
theorem okS2 {x : α} {P Q : α → Prop} (h0 : P x := by exact au) (h1 : Q x := by exact au) : ok (some x) (fun r => P r ∧ Q r) := ⟨h0, h1⟩
theorem okS3 {x : α} {P Q R : α → Prop} (h0 : P x := by exact au) (h1 : Q x := by exact au) (h2 : R x := by exact au) : ok (some x) (fun r => P r ∧ Q r ∧ R r) := ⟨h0, h1, h2⟩
theorem okS4 {x : α} {P Q R S : α → Prop} (h0 : P x := by exact au) (h1 : Q x := by exact au) (h2 : R x := by exact au) (h3 : S x := by exact au) : ok (some x) (fun r => P r ∧ Q r ∧ R r ∧ S r) := ⟨h0, h1, h2, h3⟩
theorem okS5 {x : α} {P Q R S T : α → Prop} (h0 : P x := by exact au) (h1 : Q x := by exact au) (h2 : R x := by exact au) (h3 : S x := by exact au) (h4 : T x := by exact au) : ok (some x) (fun r => P r ∧ Q r ∧ R r ∧ S r ∧ T r) := ⟨h0, h1, h2, h3, h4⟩
theorem okS7 {x : α} {P Q R S T U V : α → Prop} (h0 : P x := by exact au) (h1 : Q x := by exact au) (h2 : R x := by exact au) (h3 : S x := by exact au) (h4 : T x := by exact au) (h5 : U x := by exact au) (h6 : V x := by exact au) : ok (some x) (fun r => P r ∧ Q r ∧ R r ∧ S r ∧ T r ∧ U r ∧ V r) := ⟨h0, h1, h2, h3, h4, h5, h6⟩
theorem okNext {f : σ → Prop} {g : ρ → Prop} {s : σ} (h : f s) : ok (some (.inl s : Sum σ ρ)) (outD f g) := h
theorem okOut {f : σ → Prop} {g : ρ → Prop} {r : ρ} (h : g r) : ok (some (.inr r : Sum σ ρ)) (outD f g) := h
theorem okOutL {f : σ → Prop} {A : ε → Prop} {B : ρ → Prop} {r : ε} (h : A r) : ok (some (.inr (.inl r) : Sum σ (Sum ε ρ))) (outD f (outD A B)) := h
theorem okOutR {f : σ → Prop} {A : ε → Prop} {B : ρ → Prop} {r : ρ} (h : B r) : ok (some (.inr (.inr r) : Sum σ (Sum ε ρ))) (outD f (outD A B)) := h
theorem okT {o : Option (Sum σ ρ)} {f : σ → Option α} {g : ρ → Option α} {A : σ → Prop} {B : ρ → Prop} (h : ok o (outD A B)) (ha : ∀ s, A s → ok (f s) K) (hb : ∀ r, B r → ok (g r) K) : ok (thenD o f g) K := by
 cases o with
 | none => exact h.elim
 | some z =>
  cases z with
  | inl s => exact ha s h
  | inr r => exact hb r h
theorem okB {γ : Type} {o : Option γ} {f : γ → Option α} {A : γ → Prop} (h : ok o A) (ha : ∀ x, A x → ok (f x) K) : ok (Option.bind o f) K := by
 cases o with
 | none => exact h.elim
 | some z => exact ha z h
theorem okW {f : σ → Option (Sum σ ρ)} {R : ρ → Prop} (I : Nat → σ → Prop) (h : ∀ n s, I n s → ok (f s) (outD (fun s' => ∃ m, m < n ∧ I m s') R)) : ∀ (n : Nat) (s : σ), I n s → ok (whileD f s) R := by
 intro n
 induction n using Nat.strongRecOn with
 | ind n ih =>
  intro s hs
  rw [whileD_step]
  refine okT (h n s hs) (fun s' ⟨m, hm, hi⟩ => ih m hm s' hi) (fun r hr => okS hr)
theorem okE {f : α → σ → Option (Sum σ ρ)} {R : ρ → Prop} (I : Nat → σ → Prop) : ∀ (xs : List α) (n : Nat) (s : σ), I n s → (∀ x ∈ xs, ∀ (k : Nat) (s : σ), n ≤ k → k < n + xs.length → I k s → ok (f x s) (outD (I (k + 1)) R)) → ok (eachD f xs s) (outD (I (n + xs.length)) R)
 | [], n, s, hs, _ => hs
 | x :: xs, n, s, hs, h => by
  show ok (thenD (f x s) _ _) _
  refine okT (h x List.mem_cons_self n s (Nat.le_refl _) (by simp) hs) (fun s' hs' => ?_) (fun r hr => okS hr)
  have := okE I xs (n + 1) s' hs' (fun y hy k s hk hl hi => h y (List.mem_cons_of_mem _ hy) k s (by omega) (by simp; omega) hi)
  rw [List.length_cons, show n + (xs.length + 1) = n + 1 + xs.length by omega]
  exact this
theorem ok_getD {o : Option α} {d : α} (h : ok o K) : o = some (o.getD d) := by
 cases o with
 | none => exact h.elim
 | some x => rfl
theorem ok_post {o : Option α} {d : α} (h : ok o K) : K (o.getD d) := by
 cases o with
 | none => exact h.elim
 | some x => exact h
theorem okE0 {f : α → σ → Option (Sum σ ρ)} {R : ρ → Prop} (I : Nat → σ → Prop) {xs : List α} {s : σ} (h0 : I 0 s) (h : ∀ x ∈ xs, ∀ (k : Nat) (s : σ), k < xs.length → I k s → ok (f x s) (outD (I (k + 1)) R)) : ok (eachD f xs s) (outD (I xs.length) R) := by
 have := okE (R := R) I xs 0 s h0 (fun x hx k s _ hk hi => h x hx k s (by omega) hi)
 rw [Nat.zero_add] at this
 exact this
end
end Go.AE
