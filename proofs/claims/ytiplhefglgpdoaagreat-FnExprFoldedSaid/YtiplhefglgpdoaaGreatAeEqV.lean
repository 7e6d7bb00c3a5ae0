/- Values of expressions. -/
import Derived.Test.YtiplhefglgpdoaaGreatAeEqH
namespace Go.AE
open Go Go.RowKit
set_option linter.unusedSimpArgs false
set_option linter.unusedVariables false
theorem impl_val_step {row : List TValue.D} {E : List TPart.D} (p : TPart.D) (st : List TValue.D) (hp : Sm TPart p) (hs : Sm (.sl TValue) st) (hl : st.length ≤ 1000) (h1 : M.takes p ≤ (st.length : Int)) (hk : 1 ≤ p.1 ∧ p.1 ≤ 8) (hc : M.colIn p row.length) :
  F.impl_exprValue_l0 row E p st = some (.inl (M.valStep row st p)) := by
 obtain ⟨t0, t2⟩ := takes_nonneg p
 have hw := wrap_sub (n := st.length) (k := M.takes p) (by omega) t0 t2
 have hct := cut_tail st (k := (st.length : Int) - M.takes p) (by omega) (by omega)
 have hn : ((st.length : Int) - M.takes p).toNat = st.length - (M.takes p).toNat := by omega
 rw [hn] at hct
 unfold F.impl_exprValue_l0 M.valStep
 rw [hw, hct]
 have hsm : Sm (.sl TValue) (st.drop (st.length - (M.takes p).toNat)) := ⟨by rw [List.length_drop]; omega, fun x hx => hs.2 x (List.mem_of_mem_drop hx)⟩
 rw [guardD_pos hsm, guardD_pos hc, guardD_pos hk]
 simp only [letD_eq]
 repeat rw [guardD_pos (by first | omega | (rw [List.length_drop]; omega) | (unfold lim; simp; omega))]
 rw [hn]
theorem spec_do_is {row : List TValue.D} (p : TPart.D) (st : List TValue.D) (hp : Sm TPart p) (hs : Sm (.sl TValue) st) (hl : st.length ≤ 1000) (h1 : M.takes p ≤ (st.length : Int)) (hk : 1 ≤ p.1 ∧ p.1 ≤ 8) (hc : M.colIn p row.length) :
  F.spec_l4Do row st p = some (M.valStep row st p) := by
 have w1 : wrap64 ((st.length : Int) - 1) = (st.length : Int) - 1 := wrap64_id' (by omega) (by omega)
 have w2 : wrap64 ((st.length : Int) - 2) = (st.length : Int) - 2 := wrap64_id' (by omega) (by omega)
 have n1 : ((st.length : Int) - 1).toNat = st.length - 1 := by omega
 have n2 : ((st.length : Int) - 2).toNat = st.length - 2 := by omega
 have s1 : Sm TValue (nth (t := TValue) st ((st.length : Int) - 1)) := sm_nth hs _
 have s2 : Sm TValue (nth (t := TValue) st ((st.length : Int) - 2)) := sm_nth hs _
 unfold F.spec_l4Do M.valStep M.partValue
 rw [w1, w2]
 rcases kinds_8 hk with h | h | h | h | h | h | h | h
 ·rw [takes_zero (.inl h)]
  simp only [h]
  repeat rw [guardD_pos (by unfold lim; simp; omega)]
  simp
 ·obtain ⟨c0, c1⟩ := hc h
  rw [takes_zero (.inr h)]
  simp only [h]
  simp only [show decide ((2 : Int) = 1) = false from rfl, cond_false, decide_true, cond_true]
  rw [guardD_pos c0, guardD_pos c1]
  simp
 ·have ht := takes_two (.inl h)
  rw [ht] at h1 ⊢
  have hd := last_two (t := TValue) (st := st) (by omega)
  rw [show (2 : Int).toNat = 2 from rfl, hd]
  simp only [h, show decide ((3 : Int) = 1) = false from rfl, show decide ((3 : Int) = 2) = false from rfl, cond_false, decide_true, cond_true, n1, n2, letD_eq]
  repeat rw [guardD_pos (by first | omega | exact s1 | exact s2 | (unfold lim; simp; omega))]
  rfl
 ·have ht := takes_two (.inr (.inl h))
  rw [ht] at h1 ⊢
  have hd := last_two (t := TValue) (st := st) (by omega)
  rw [show (2 : Int).toNat = 2 from rfl, hd]
  simp only [h, show decide ((4 : Int) = 1) = false from rfl, show decide ((4 : Int) = 2) = false from rfl, show decide ((4 : Int) = 3) = false from rfl, cond_false, decide_true, cond_true, n1, n2, letD_eq]
  repeat rw [guardD_pos (by first | omega | exact s1 | exact s2 | (unfold lim; simp; omega))]
  rfl
 ·have ht := takes_two (.inr (.inr (.inl h)))
  rw [ht] at h1 ⊢
  have hd := last_two (t := TValue) (st := st) (by omega)
  rw [show (2 : Int).toNat = 2 from rfl, hd]
  simp only [h, show decide ((5 : Int) = 1) = false from rfl, show decide ((5 : Int) = 2) = false from rfl, show decide ((5 : Int) = 3) = false from rfl, show decide ((5 : Int) = 4) = false from rfl, cond_false, decide_true, cond_true, n1, n2, letD_eq]
  repeat rw [guardD_pos (by first | omega | exact s1 | exact s2 | (unfold lim; simp; omega))]
  rfl
 ·have ht := takes_two (.inr (.inr (.inr h)))
  rw [ht] at h1 ⊢
  have hd := last_two (t := TValue) (st := st) (by omega)
  rw [show (2 : Int).toNat = 2 from rfl, hd]
  simp only [h, show decide ((6 : Int) = 1) = false from rfl, show decide ((6 : Int) = 2) = false from rfl, show decide ((6 : Int) = 3) = false from rfl, show decide ((6 : Int) = 4) = false from rfl, show decide ((6 : Int) = 5) = false from rfl, cond_false, decide_true, cond_true, n1, n2, letD_eq]
  repeat rw [guardD_pos (by first | omega | exact s1 | exact s2 | (unfold lim; simp; omega))]
  rfl
 ·have ht := takes_one (.inl h)
  rw [ht] at h1 ⊢
  have hd := last_one (t := TValue) (st := st) (by omega)
  rw [show (1 : Int).toNat = 1 from rfl, hd]
  simp only [h, show decide ((7 : Int) = 1) = false from rfl, show decide ((7 : Int) = 2) = false from rfl, show decide ((7 : Int) = 3) = false from rfl, show decide ((7 : Int) = 4) = false from rfl, show decide ((7 : Int) = 5) = false from rfl, show decide ((7 : Int) = 6) = false from rfl, cond_false, decide_true, cond_true, n1, n2, letD_eq]
  repeat rw [guardD_pos (by first | omega | exact s1 | exact s2 | (unfold lim; simp; omega))]
  rfl
 ·have ht := takes_one (.inr h)
  rw [ht] at h1 ⊢
  have hd := last_one (t := TValue) (st := st) (by omega)
  rw [show (1 : Int).toNat = 1 from rfl, hd]
  simp only [h, show decide ((8 : Int) = 1) = false from rfl, show decide ((8 : Int) = 2) = false from rfl, show decide ((8 : Int) = 3) = false from rfl, show decide ((8 : Int) = 4) = false from rfl, show decide ((8 : Int) = 5) = false from rfl, show decide ((8 : Int) = 6) = false from rfl, show decide ((8 : Int) = 7) = false from rfl, cond_false, decide_true, cond_true, n1, n2, letD_eq]
  repeat rw [guardD_pos (by first | omega | exact s1 | exact s2 | (unfold lim; simp; omega))]
  rfl
theorem spec_val_step {row : List TValue.D} {E : List TPart.D} (p : TPart.D) (st : List TValue.D) (hs : Sm (.sl TValue) st) (hl : st.length ≤ 1000) (h1 : M.takes p ≤ (st.length : Int)) (hk : 1 ≤ p.1 ∧ p.1 ≤ 8) (hc : M.colIn p row.length) :
  F.spec_l4Value_l0 row E p st = some (.inl (M.valStep row st p)) := by
 unfold F.spec_l4Value_l0
 rw [guardD_pos hs, guardD_pos hl, guardD_pos h1, guardD_pos hk, guardD_pos hc]
 rfl
end Go.AE
