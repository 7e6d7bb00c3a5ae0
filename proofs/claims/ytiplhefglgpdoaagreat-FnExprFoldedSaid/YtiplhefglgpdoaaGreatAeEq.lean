/- What the functions compute is what is said. -/
import Derived.Test.YtiplhefglgpdoaaGreatAeF
import Derived.Test.YtiplhefglgpdoaaGreatAeMQ
import Derived.Test.YtiplhefglgpdoaaGreatAeEqI
import Derived.Test.YtiplhefglgpdoaaGreatAeEqS
import Derived.Test.YtiplhefglgpdoaaGreatAeEqV
namespace Go.AE
open Go Go.RowKit
set_option linter.unusedVariables false
set_option linter.unusedSimpArgs false
theorem F.spec_pick_ok (b : (List Int)) (p : Int) (n : Int) (h_b : Sm (Ty.sl (Ty.int .u8)) b) (p0 : M.bytesOk b) (p1 : 0 ≤ p) (p2 : p ≤ 1000000000000000) : ok (F.spec_pick b p n) (fun r => 0 ≤ r.1 ∧ (1 ≤ n → r.1 < n) ∧ (n < 1 → r.1 = 0) ∧ r.2 = p + 1) := by
  unfold F.spec_pick
  have hw : wrap64 (p + 1) = p + 1 := wrap64_id' (by omega) (by omega)
  have hw2 : wrap64 (p + 1 - 1) = p := by rw [show p + 1 - 1 = p by omega]; exact wrap64_id' (by omega) (by omega)
  simp only [hw, hw2]
  refine okDg (fun c0 => ?_) (fun c0 => ?_)
  · refine okD (fun c1 => ?_) (fun c1 => ?_)
    · exact okS ⟨by dsimp only; omega, fun h => by dsimp only; omega, fun h => rfl, rfl⟩
    · have hl : 1 ≤ (b.length : Int) := by omega
      refine okD (fun c2 => ?_) (fun c2 => ?_)
      · refine okG (okG (okG (okS ?_)))
        have := M.pick_near (M.bytes_nth p0 p) (n := n) (by omega)
        exact ⟨this.1, fun _ => this.2, fun h => by omega, rfl⟩
      · obtain ⟨t0, t1⟩ := M.tmod_lt p1 hl
        have h7 : wrap64 (wrap64 (p * 7) + 3) = p * 7 + 3 := by rw [wrap64_id' (n := p * 7) (by omega) (by omega), wrap64_id' (by omega) (by omega)]
        obtain ⟨t2, t3⟩ := M.tmod_lt (a := p * 7 + 3) (by omega) hl
        rw [h7]
        refine okG (okG (okG (okG (okG (okG (okS ?_))))))
        have := M.pick_far (M.bytes_nth p0 (p.tmod (b.length : Int))) (M.bytes_nth p0 ((p * 7 + 3).tmod (b.length : Int))) p1 p2 (M.tdiv_bd p1 hl) (n := n) (by omega)
        exact ⟨this.1, fun _ => this.2, fun h => by omega, rfl⟩
  · exact okS ⟨by dsimp only; omega, fun h => by omega, fun h => rfl, rfl⟩
theorem F.spec_pick_eq (b : (List Int)) (p : Int) (n : Int) (h_b : Sm (Ty.sl (Ty.int .u8)) b) (p0 : M.bytesOk b) (p1 : 0 ≤ p) (p2 : p ≤ 1000000000000000) : F.spec_pick b p n = some (M.pick b p n) := ok_getD (F.spec_pick_ok b p n h_b p0 p1 p2)
theorem M.pick_post (b : (List Int)) (p : Int) (n : Int) (h_b : Sm (Ty.sl (Ty.int .u8)) b) (p0 : M.bytesOk b) (p1 : 0 ≤ p) (p2 : p ≤ 1000000000000000) : 0 ≤ (M.pick b p n).1 ∧ (1 ≤ n → (M.pick b p n).1 < n) ∧ (n < 1 → (M.pick b p n).1 = 0) ∧ (M.pick b p n).2 = p + 1 := ok_post (F.spec_pick_ok b p n h_b p0 p1 p2)
theorem okX_spec_pick {α : Type} {K : α → Prop} {f : Int × Int → Option α} {b : (List Int)} {p : Int} {n : Int} (k : ∀ r, (0 ≤ r.1) → (1 ≤ n → r.1 < n) → (n < 1 → r.1 = 0) → (r.2 = p + 1) → ok (f r) K) (h_b : Sm (Ty.sl (Ty.int .u8)) b := by exact au) (p0 : M.bytesOk b := by exact au) (p1 : 0 ≤ p := by exact au) (p2 : p ≤ 1000000000000000 := by exact au) : ok (letD (M.pick b p n) f) K := by
  have h := M.pick_post b p n h_b p0 p1 p2
  obtain ⟨h0, h1, h2, h3⟩ := h
  exact k _ h0 h1 h2 h3
theorem F.spec_odd_ok (b : (List Int)) (p : Int) (n : Int) (h_b : Sm (Ty.sl (Ty.int .u8)) b) (p0 : M.bytesOk b) (p1 : 0 ≤ p) (p2 : p ≤ 999000000000000) : ok (F.spec_odd b p n) (fun r => p ≤ r.2 ∧ r.2 ≤ p + 1) := by
  unfold F.spec_odd
  refine okDe (fun c_0 => ?_) (fun c_0 => ?_)
  ·refine okG ?_
   refine okX_spec_pick fun r1 h_1_5_0 h_1_5_1 h_1_5_2 h_1_5_3 => ?_
   exact okS2
  ·exact okS2
theorem F.spec_odd_eq (b : (List Int)) (p : Int) (n : Int) (h_b : Sm (Ty.sl (Ty.int .u8)) b) (p0 : M.bytesOk b) (p1 : 0 ≤ p) (p2 : p ≤ 999000000000000) : F.spec_odd b p n = some (M.odd b p n) := ok_getD (F.spec_odd_ok b p n h_b p0 p1 p2)
theorem M.odd_post (b : (List Int)) (p : Int) (n : Int) (h_b : Sm (Ty.sl (Ty.int .u8)) b) (p0 : M.bytesOk b) (p1 : 0 ≤ p) (p2 : p ≤ 999000000000000) : p ≤ (M.odd b p n).2 ∧ (M.odd b p n).2 ≤ p + 1 := ok_post (F.spec_odd_ok b p n h_b p0 p1 p2)
theorem okX_spec_odd {α : Type} {K : α → Prop} {f : Bool × Int → Option α} {b : (List Int)} {p : Int} {n : Int} (k : ∀ r, (p ≤ r.2) → (r.2 ≤ p + 1) → ok (f r) K) (h_b : Sm (Ty.sl (Ty.int .u8)) b := by exact au) (p0 : M.bytesOk b := by exact au) (p1 : 0 ≤ p := by exact au) (p2 : p ≤ 999000000000000 := by exact au) : ok (letD (M.odd b p n) f) K := by
  have h := M.odd_post b p n h_b p0 p1 p2
  obtain ⟨h0, h1⟩ := h
  exact k _ h0 h1
theorem F.spec_l20Columns_ok (b : (List Int)) (p : Int) (n : Int) (h_b : Sm (Ty.sl (Ty.int .u8)) b) (p0 : M.bytesOk b) (p1 : 0 ≤ p) (p2 : p ≤ 998000000000000) : ok (F.spec_l20Columns b p n) (fun r => 1 ≤ r.1.length ∧ r.1.length ≤ 6 ∧ p ≤ r.2 ∧ r.2 ≤ p + 20) := by
  unfold F.spec_l20Columns
  refine okG ?_
  refine okX_spec_pick fun r1 h_2_1_0 h_2_1_1 h_2_1_2 h_2_1_3 => ?_
  refine okB (A := fun e0 => p ≤ e0.1 ∧ e0.1 ≤ p + 10 ∧ 1 ≤ e0.2.length ∧ e0.2.length ≤ 3) ?_ (fun e0 h_e0 => ?_)
  ·refine okW (fun (k : Nat) (v0 : Int × Int × LC) => 0 ≤ v0.1 ∧ v0.1 ≤ (k : Int) ∧ (v0.2.2.length : Int) + v0.1 ≤ 3 ∧ 1 ≤ (v0.2.2.length : Int) + v0.1 ∧ p ≤ v0.2.1 ∧ v0.2.1 + 2 * v0.1 ≤ p + 10) (fun k v0 hI => ?_) (3 : Nat) _ ⟨au, au, au, au, au, au⟩
   obtain ⟨i_0, i_1, i_2, i_3, i_4, i_5⟩ := hI
   unfold F.spec_l20Columns_l0
   refine okD (fun c_0 => ?_) (fun c_0 => ?_)
   ·refine okG ?_
    refine okG ?_
    refine okG ?_
    refine okX_spec_pick fun r2 h_5_3_0 h_5_3_1 h_5_3_2 h_5_3_3 => ?_
    refine okG ?_
    refine okG ?_
    refine okG ?_
    refine okG ?_
    refine okX_spec_pick fun r3 h_5_7_0 h_5_7_1 h_5_7_2 h_5_7_3 => ?_
    refine okG ?_
    exact okNext ⟨k - 1, by omega, au, au, au, au, au, au⟩
   ·exact okOut ⟨au, au, au, au⟩
  ·obtain ⟨e0_0, e0_1, e0_2, e0_3⟩ := h_e0
   refine okG ?_
   refine okG ?_
   refine okX_spec_odd fun r4 h_6_2_0 h_6_2_1 => ?_
   refine okC (fun c_1 => ?_) (fun c_1 => ?_)
   ·refine okG ?_
    refine okG ?_
    refine okX_spec_pick fun r5 h_7_2_0 h_7_2_1 h_7_2_2 h_7_2_3 => ?_
    refine okG ?_
    exact okS4
   ·exact okS4
theorem F.spec_l20Columns_eq (b : (List Int)) (p : Int) (n : Int) (h_b : Sm (Ty.sl (Ty.int .u8)) b) (p0 : M.bytesOk b) (p1 : 0 ≤ p) (p2 : p ≤ 998000000000000) : F.spec_l20Columns b p n = some (M.l20Columns b p n) := ok_getD (F.spec_l20Columns_ok b p n h_b p0 p1 p2)
theorem M.l20Columns_post (b : (List Int)) (p : Int) (n : Int) (h_b : Sm (Ty.sl (Ty.int .u8)) b) (p0 : M.bytesOk b) (p1 : 0 ≤ p) (p2 : p ≤ 998000000000000) : 1 ≤ (M.l20Columns b p n).1.length ∧ (M.l20Columns b p n).1.length ≤ 6 ∧ p ≤ (M.l20Columns b p n).2 ∧ (M.l20Columns b p n).2 ≤ p + 20 := ok_post (F.spec_l20Columns_ok b p n h_b p0 p1 p2)
theorem okX_spec_l20Columns {α : Type} {K : α → Prop} {f : LC × Int → Option α} {b : (List Int)} {p : Int} {n : Int} (k : ∀ r, (1 ≤ r.1.length) → (r.1.length ≤ 6) → (p ≤ r.2) → (r.2 ≤ p + 20) → ok (f r) K) (h_b : Sm (Ty.sl (Ty.int .u8)) b := by exact au) (p0 : M.bytesOk b := by exact au) (p1 : 0 ≤ p := by exact au) (p2 : p ≤ 998000000000000 := by exact au) : ok (letD (M.l20Columns b p n) f) K := by
  have h := M.l20Columns_post b p n h_b p0 p1 p2
  obtain ⟨h0, h1, h2, h3⟩ := h
  exact k _ h0 h1 h2 h3
theorem F.spec_l20Like_ok (b : (List Int)) (p : Int) (c : TColumn.D) (h_b : Sm (Ty.sl (Ty.int .u8)) b) (p0 : M.bytesOk b) (p1 : 0 ≤ p) (p2 : p ≤ 998000000000000) : ok (F.spec_l20Like b p c) (fun r => r.1.2.2.1.size ≤ 20 ∧ p ≤ r.2 ∧ r.2 ≤ p + 3) := by
  unfold F.spec_l20Like
  refine okC (fun c_0 => ?_) (fun c_0 => ?_)
  ·refine okG ?_
   refine okX_spec_pick fun r1 h_1_4_0 h_1_4_1 h_1_4_2 h_1_4_3 => ?_
   refine okD (fun c_1 => ?_) (fun c_1 => ?_)
   ·exact okS3
   ·refine okD (fun c_2 => ?_) (fun c_2 => ?_)
    ·refine okG ?_
     refine okG ?_
     refine okX_spec_pick fun r2 h_5_1_0 h_5_1_1 h_5_1_2 h_5_1_3 => ?_
     exact okS3
    ·refine okD (fun c_3 => ?_) (fun c_3 => ?_)
     ·refine okG ?_
      refine okG ?_
      refine okX_spec_pick fun r3 h_7_2_0 h_7_2_1 h_7_2_2 h_7_2_3 => ?_
      refine okG ?_
      refine okG ?_
      exact okS3
     ·refine okG ?_
      refine okG ?_
      refine okX_spec_pick fun r4 h_8_1_0 h_8_1_1 h_8_1_2 h_8_1_3 => ?_
      exact okS3
  ·refine okD (fun c_4 => ?_) (fun c_4 => ?_)
   ·refine okG ?_
    refine okX_spec_pick fun r2 h_5_1_0 h_5_1_1 h_5_1_2 h_5_1_3 => ?_
    exact okS3
   ·refine okD (fun c_5 => ?_) (fun c_5 => ?_)
    ·refine okG ?_
     refine okX_spec_pick fun r3 h_7_2_0 h_7_2_1 h_7_2_2 h_7_2_3 => ?_
     refine okG ?_
     refine okG ?_
     exact okS3
    ·refine okG ?_
     refine okX_spec_pick fun r4 h_8_1_0 h_8_1_1 h_8_1_2 h_8_1_3 => ?_
     exact okS3
theorem F.spec_l20Like_eq (b : (List Int)) (p : Int) (c : TColumn.D) (h_b : Sm (Ty.sl (Ty.int .u8)) b) (p0 : M.bytesOk b) (p1 : 0 ≤ p) (p2 : p ≤ 998000000000000) : F.spec_l20Like b p c = some (M.l20Like b p c) := ok_getD (F.spec_l20Like_ok b p c h_b p0 p1 p2)
theorem M.l20Like_post (b : (List Int)) (p : Int) (c : TColumn.D) (h_b : Sm (Ty.sl (Ty.int .u8)) b) (p0 : M.bytesOk b) (p1 : 0 ≤ p) (p2 : p ≤ 998000000000000) : (M.l20Like b p c).1.2.2.1.size ≤ 20 ∧ p ≤ (M.l20Like b p c).2 ∧ (M.l20Like b p c).2 ≤ p + 3 := ok_post (F.spec_l20Like_ok b p c h_b p0 p1 p2)
theorem okX_spec_l20Like {α : Type} {K : α → Prop} {f : TValue.D × Int → Option α} {b : (List Int)} {p : Int} {c : TColumn.D} (k : ∀ r, (r.1.2.2.1.size ≤ 20) → (p ≤ r.2) → (r.2 ≤ p + 3) → ok (f r) K) (h_b : Sm (Ty.sl (Ty.int .u8)) b := by exact au) (p0 : M.bytesOk b := by exact au) (p1 : 0 ≤ p := by exact au) (p2 : p ≤ 998000000000000 := by exact au) : ok (letD (M.l20Like b p c) f) K := by
  have h := M.l20Like_post b p c h_b p0 p1 p2
  obtain ⟨h0, h1, h2⟩ := h
  exact k _ h0 h1 h2
theorem F.spec_l20Value_ok (b : (List Int)) (p : Int) (n : Int) (h_b : Sm (Ty.sl (Ty.int .u8)) b) (p0 : M.bytesOk b) (p1 : 0 ≤ p) (p2 : p ≤ 998000000000000) : ok (F.spec_l20Value b p n) (fun r => r.1.2.2.1.size ≤ 20 ∧ p ≤ r.2 ∧ r.2 ≤ p + 20) := by
  unfold F.spec_l20Value
  refine okG ?_
  refine okX_spec_pick fun r1 h_2_1_0 h_2_1_1 h_2_1_2 h_2_1_3 => ?_
  refine okD (fun c_1 => ?_) (fun c_1 => ?_)
  ·refine okG ?_
   refine okG ?_
   refine okX_spec_odd fun r2 h_18_2_0 h_18_2_1 => ?_
   refine okC (fun c_2 => ?_) (fun c_2 => ?_)
   ·refine okG ?_
    refine okG ?_
    refine okX_spec_pick fun r3 h_19_1_0 h_19_1_1 h_19_1_2 h_19_1_3 => ?_
    refine okD (fun c_3 => ?_) (fun c_3 => ?_)
    ·exact okS3
    ·refine okD (fun c_4 => ?_) (fun c_4 => ?_)
     ·refine okG ?_
      exact okS3
     ·refine okD (fun c_5 => ?_) (fun c_5 => ?_)
      ·refine okG ?_
       refine okG ?_
       refine okX_spec_pick fun r4 h_26_1_0 h_26_1_1 h_26_1_2 h_26_1_3 => ?_
       exact okS3
      ·refine okG ?_
       exact okS3
   ·exact okS3
  ·refine okD (fun c_6 => ?_) (fun c_6 => ?_)
   ·refine okG ?_
    refine okG ?_
    refine okX_spec_pick fun r5 h_8_1_0 h_8_1_1 h_8_1_2 h_8_1_3 => ?_
    refine okG ?_
    refine okG ?_
    refine okX_spec_pick fun r6 h_9_1_0 h_9_1_1 h_9_1_2 h_9_1_3 => ?_
    refine okD (fun c_7 => ?_) (fun c_7 => ?_)
    ·refine okG ?_
     refine okG ?_
     refine okX_spec_pick fun r7 h_10_2_0 h_10_2_1 h_10_2_2 h_10_2_3 => ?_
     refine okG ?_
     refine okG ?_
     refine okG ?_
     refine okG ?_
     refine okX_spec_odd fun r2 h_18_2_0 h_18_2_1 => ?_
     refine okC (fun c_8 => ?_) (fun c_8 => ?_)
     ·refine okG ?_
      refine okG ?_
      refine okX_spec_pick fun r3 h_19_1_0 h_19_1_1 h_19_1_2 h_19_1_3 => ?_
      refine okD (fun c_9 => ?_) (fun c_9 => ?_)
      ·exact okS3
      ·refine okD (fun c_10 => ?_) (fun c_10 => ?_)
       ·refine okG ?_
        exact okS3
       ·refine okD (fun c_11 => ?_) (fun c_11 => ?_)
        ·refine okG ?_
         refine okG ?_
         refine okX_spec_pick fun r4 h_26_1_0 h_26_1_1 h_26_1_2 h_26_1_3 => ?_
         exact okS3
        ·refine okG ?_
         exact okS3
     ·exact okS3
    ·refine okG ?_
     refine okG ?_
     refine okX_spec_odd fun r2 h_18_2_0 h_18_2_1 => ?_
     refine okC (fun c_12 => ?_) (fun c_12 => ?_)
     ·refine okG ?_
      refine okG ?_
      refine okX_spec_pick fun r3 h_19_1_0 h_19_1_1 h_19_1_2 h_19_1_3 => ?_
      refine okD (fun c_13 => ?_) (fun c_13 => ?_)
      ·exact okS3
      ·refine okD (fun c_14 => ?_) (fun c_14 => ?_)
       ·refine okG ?_
        exact okS3
       ·refine okD (fun c_15 => ?_) (fun c_15 => ?_)
        ·refine okG ?_
         refine okG ?_
         refine okX_spec_pick fun r4 h_26_1_0 h_26_1_1 h_26_1_2 h_26_1_3 => ?_
         exact okS3
        ·refine okG ?_
         exact okS3
     ·exact okS3
   ·refine okD (fun c_16 => ?_) (fun c_16 => ?_)
    ·refine okG ?_
     refine okG ?_
     refine okX_spec_pick fun r5 h_8_1_0 h_8_1_1 h_8_1_2 h_8_1_3 => ?_
     refine okG ?_
     refine okG ?_
     refine okX_spec_pick fun r6 h_9_1_0 h_9_1_1 h_9_1_2 h_9_1_3 => ?_
     refine okD (fun c_17 => ?_) (fun c_17 => ?_)
     ·refine okG ?_
      refine okG ?_
      refine okX_spec_pick fun r7 h_10_2_0 h_10_2_1 h_10_2_2 h_10_2_3 => ?_
      refine okG ?_
      refine okG ?_
      refine okG ?_
      refine okG ?_
      refine okX_spec_odd fun r2 h_18_2_0 h_18_2_1 => ?_
      refine okC (fun c_18 => ?_) (fun c_18 => ?_)
      ·refine okG ?_
       refine okG ?_
       refine okX_spec_pick fun r3 h_19_1_0 h_19_1_1 h_19_1_2 h_19_1_3 => ?_
       refine okD (fun c_19 => ?_) (fun c_19 => ?_)
       ·exact okS3
       ·refine okD (fun c_20 => ?_) (fun c_20 => ?_)
        ·refine okG ?_
         exact okS3
        ·refine okD (fun c_21 => ?_) (fun c_21 => ?_)
         ·refine okG ?_
          refine okG ?_
          refine okX_spec_pick fun r4 h_26_1_0 h_26_1_1 h_26_1_2 h_26_1_3 => ?_
          exact okS3
         ·refine okG ?_
          exact okS3
      ·exact okS3
     ·refine okG ?_
      refine okG ?_
      refine okX_spec_odd fun r2 h_18_2_0 h_18_2_1 => ?_
      refine okC (fun c_22 => ?_) (fun c_22 => ?_)
      ·refine okG ?_
       refine okG ?_
       refine okX_spec_pick fun r3 h_19_1_0 h_19_1_1 h_19_1_2 h_19_1_3 => ?_
       refine okD (fun c_23 => ?_) (fun c_23 => ?_)
       ·exact okS3
       ·refine okD (fun c_24 => ?_) (fun c_24 => ?_)
        ·refine okG ?_
         exact okS3
        ·refine okD (fun c_25 => ?_) (fun c_25 => ?_)
         ·refine okG ?_
          refine okG ?_
          refine okX_spec_pick fun r4 h_26_1_0 h_26_1_1 h_26_1_2 h_26_1_3 => ?_
          exact okS3
         ·refine okG ?_
          exact okS3
      ·exact okS3
    ·refine okD (fun c_26 => ?_) (fun c_26 => ?_)
     ·refine okG ?_
      refine okG ?_
      refine okX_spec_pick fun r5 h_8_1_0 h_8_1_1 h_8_1_2 h_8_1_3 => ?_
      refine okG ?_
      refine okG ?_
      refine okX_spec_pick fun r6 h_9_1_0 h_9_1_1 h_9_1_2 h_9_1_3 => ?_
      refine okD (fun c_27 => ?_) (fun c_27 => ?_)
      ·refine okG ?_
       refine okG ?_
       refine okX_spec_pick fun r7 h_10_2_0 h_10_2_1 h_10_2_2 h_10_2_3 => ?_
       refine okG ?_
       refine okG ?_
       refine okG ?_
       refine okG ?_
       refine okX_spec_odd fun r2 h_18_2_0 h_18_2_1 => ?_
       refine okC (fun c_28 => ?_) (fun c_28 => ?_)
       ·refine okG ?_
        refine okG ?_
        refine okX_spec_pick fun r3 h_19_1_0 h_19_1_1 h_19_1_2 h_19_1_3 => ?_
        refine okD (fun c_29 => ?_) (fun c_29 => ?_)
        ·exact okS3
        ·refine okD (fun c_30 => ?_) (fun c_30 => ?_)
         ·refine okG ?_
          exact okS3
         ·refine okD (fun c_31 => ?_) (fun c_31 => ?_)
          ·refine okG ?_
           refine okG ?_
           refine okX_spec_pick fun r4 h_26_1_0 h_26_1_1 h_26_1_2 h_26_1_3 => ?_
           exact okS3
          ·refine okG ?_
           exact okS3
       ·exact okS3
      ·refine okG ?_
       refine okG ?_
       refine okX_spec_odd fun r2 h_18_2_0 h_18_2_1 => ?_
       refine okC (fun c_32 => ?_) (fun c_32 => ?_)
       ·refine okG ?_
        refine okG ?_
        refine okX_spec_pick fun r3 h_19_1_0 h_19_1_1 h_19_1_2 h_19_1_3 => ?_
        refine okD (fun c_33 => ?_) (fun c_33 => ?_)
        ·exact okS3
        ·refine okD (fun c_34 => ?_) (fun c_34 => ?_)
         ·refine okG ?_
          exact okS3
         ·refine okD (fun c_35 => ?_) (fun c_35 => ?_)
          ·refine okG ?_
           refine okG ?_
           refine okX_spec_pick fun r4 h_26_1_0 h_26_1_1 h_26_1_2 h_26_1_3 => ?_
           exact okS3
          ·refine okG ?_
           exact okS3
       ·exact okS3
     ·refine okD (fun c_36 => ?_) (fun c_36 => ?_)
      ·refine okG ?_
       refine okG ?_
       refine okX_spec_pick fun r8 h_14_1_0 h_14_1_1 h_14_1_2 h_14_1_3 => ?_
       refine okB (A := fun e1 => p ≤ e1.1 ∧ e1.1 ≤ p + 8 ∧ e1.2.size ≤ 3) ?_ (fun e1 h_e1 => ?_)
       ·refine okW (fun (k : Nat) (v1 : Int × Int × ByteArray) => 0 ≤ v1.1 ∧ v1.1 ≤ (k : Int) ∧ (v1.2.2.size : Int) + v1.1 ≤ 3 ∧ p ≤ v1.2.1 ∧ v1.2.1 + v1.1 ≤ p + 8) (fun k v1 hI => ?_) (3 : Nat) _ ⟨au, au, au, au, au⟩
        obtain ⟨i_0, i_1, i_2, i_3, i_4⟩ := hI
        unfold F.spec_l20Value_l1
        refine okD (fun c_0 => ?_) (fun c_0 => ?_)
        ·refine okG ?_
         refine okG ?_
         refine okG ?_
         refine okX_spec_pick fun r9 h_17_3_0 h_17_3_1 h_17_3_2 h_17_3_3 => ?_
         refine okG ?_
         exact okNext ⟨k - 1, by omega, au, au, au, au, au⟩
        ·exact okOut ⟨au, au, au⟩
       ·obtain ⟨e1_0, e1_1, e1_2⟩ := h_e1
        refine okG ?_
        refine okG ?_
        refine okX_spec_odd fun r2 h_18_2_0 h_18_2_1 => ?_
        refine okC (fun c_37 => ?_) (fun c_37 => ?_)
        ·refine okG ?_
         refine okG ?_
         refine okX_spec_pick fun r3 h_19_1_0 h_19_1_1 h_19_1_2 h_19_1_3 => ?_
         refine okD (fun c_38 => ?_) (fun c_38 => ?_)
         ·exact okS3
         ·refine okD (fun c_39 => ?_) (fun c_39 => ?_)
          ·refine okG ?_
           exact okS3
          ·refine okD (fun c_40 => ?_) (fun c_40 => ?_)
           ·refine okG ?_
            refine okG ?_
            refine okX_spec_pick fun r4 h_26_1_0 h_26_1_1 h_26_1_2 h_26_1_3 => ?_
            exact okS3
           ·refine okG ?_
            exact okS3
        ·exact okS3
      ·refine okD (fun c_41 => ?_) (fun c_41 => ?_)
       ·refine okG ?_
        refine okG ?_
        refine okX_spec_pick fun r8 h_14_1_0 h_14_1_1 h_14_1_2 h_14_1_3 => ?_
        refine okB (A := fun e1 => p ≤ e1.1 ∧ e1.1 ≤ p + 8 ∧ e1.2.size ≤ 3) ?_ (fun e1 h_e1 => ?_)
        ·refine okW (fun (k : Nat) (v1 : Int × Int × ByteArray) => 0 ≤ v1.1 ∧ v1.1 ≤ (k : Int) ∧ (v1.2.2.size : Int) + v1.1 ≤ 3 ∧ p ≤ v1.2.1 ∧ v1.2.1 + v1.1 ≤ p + 8) (fun k v1 hI => ?_) (3 : Nat) _ ⟨au, au, au, au, au⟩
         obtain ⟨i_0, i_1, i_2, i_3, i_4⟩ := hI
         unfold F.spec_l20Value_l1
         refine okD (fun c_0 => ?_) (fun c_0 => ?_)
         ·refine okG ?_
          refine okG ?_
          refine okG ?_
          refine okX_spec_pick fun r9 h_17_3_0 h_17_3_1 h_17_3_2 h_17_3_3 => ?_
          refine okG ?_
          exact okNext ⟨k - 1, by omega, au, au, au, au, au⟩
         ·exact okOut ⟨au, au, au⟩
        ·obtain ⟨e1_0, e1_1, e1_2⟩ := h_e1
         refine okG ?_
         refine okG ?_
         refine okX_spec_odd fun r2 h_18_2_0 h_18_2_1 => ?_
         refine okC (fun c_42 => ?_) (fun c_42 => ?_)
         ·refine okG ?_
          refine okG ?_
          refine okX_spec_pick fun r3 h_19_1_0 h_19_1_1 h_19_1_2 h_19_1_3 => ?_
          refine okD (fun c_43 => ?_) (fun c_43 => ?_)
          ·exact okS3
          ·refine okD (fun c_44 => ?_) (fun c_44 => ?_)
           ·refine okG ?_
            exact okS3
           ·refine okD (fun c_45 => ?_) (fun c_45 => ?_)
            ·refine okG ?_
             refine okG ?_
             refine okX_spec_pick fun r4 h_26_1_0 h_26_1_1 h_26_1_2 h_26_1_3 => ?_
             exact okS3
            ·refine okG ?_
             exact okS3
         ·exact okS3
       ·refine okG ?_
        refine okG ?_
        refine okX_spec_pick fun r10 h_3_1_0 h_3_1_1 h_3_1_2 h_3_1_3 => ?_
        refine okG ?_
        refine okG ?_
        refine okX_spec_odd fun r2 h_18_2_0 h_18_2_1 => ?_
        refine okC (fun c_46 => ?_) (fun c_46 => ?_)
        ·refine okG ?_
         refine okG ?_
         refine okX_spec_pick fun r3 h_19_1_0 h_19_1_1 h_19_1_2 h_19_1_3 => ?_
         refine okD (fun c_47 => ?_) (fun c_47 => ?_)
         ·exact okS3
         ·refine okD (fun c_48 => ?_) (fun c_48 => ?_)
          ·refine okG ?_
           exact okS3
          ·refine okD (fun c_49 => ?_) (fun c_49 => ?_)
           ·refine okG ?_
            refine okG ?_
            refine okX_spec_pick fun r4 h_26_1_0 h_26_1_1 h_26_1_2 h_26_1_3 => ?_
            exact okS3
           ·refine okG ?_
            exact okS3
        ·exact okS3
theorem F.spec_l20Value_eq (b : (List Int)) (p : Int) (n : Int) (h_b : Sm (Ty.sl (Ty.int .u8)) b) (p0 : M.bytesOk b) (p1 : 0 ≤ p) (p2 : p ≤ 998000000000000) : F.spec_l20Value b p n = some (M.l20Value b p n) := ok_getD (F.spec_l20Value_ok b p n h_b p0 p1 p2)
theorem M.l20Value_post (b : (List Int)) (p : Int) (n : Int) (h_b : Sm (Ty.sl (Ty.int .u8)) b) (p0 : M.bytesOk b) (p1 : 0 ≤ p) (p2 : p ≤ 998000000000000) : (M.l20Value b p n).1.2.2.1.size ≤ 20 ∧ p ≤ (M.l20Value b p n).2 ∧ (M.l20Value b p n).2 ≤ p + 20 := ok_post (F.spec_l20Value_ok b p n h_b p0 p1 p2)
theorem okX_spec_l20Value {α : Type} {K : α → Prop} {f : TValue.D × Int → Option α} {b : (List Int)} {p : Int} {n : Int} (k : ∀ r, (r.1.2.2.1.size ≤ 20) → (p ≤ r.2) → (r.2 ≤ p + 20) → ok (f r) K) (h_b : Sm (Ty.sl (Ty.int .u8)) b := by exact au) (p0 : M.bytesOk b := by exact au) (p1 : 0 ≤ p := by exact au) (p2 : p ≤ 998000000000000 := by exact au) : ok (letD (M.l20Value b p n) f) K := by
  have h := M.l20Value_post b p n h_b p0 p1 p2
  obtain ⟨h0, h1, h2⟩ := h
  exact k _ h0 h1 h2
theorem F.spec_l20Fit_ok (b : (List Int)) (p : Int) (columns : LC) (n : Int) (h_b : Sm (Ty.sl (Ty.int .u8)) b) (h_columns : Sm (Ty.sl TColumn) columns) (p0 : M.bytesOk b) (p1 : 0 ≤ p) (p2 : p ≤ 997000000000000) : ok (F.spec_l20Fit b p columns n) (fun r => r.1.length ≤ columns.length + 3 ∧ (∀ v ∈ r.1, v.2.2.1.size ≤ 20) ∧ p ≤ r.2 ∧ r.2 ≤ p + 3 * columns.length + 70) := by
  unfold F.spec_l20Fit
  have hl := h_columns.1
  refine okT (A := fun v0 => p ≤ v0.1 ∧ v0.1 ≤ p + 3 * (columns.length : Int) ∧ v0.2.length = columns.length ∧ (∀ v ∈ v0.2, v.2.2.1.size ≤ 20)) (B := fun _ => False) ?_ (fun v0 h_v0 => ?_) (fun _ h => h.elim)
  ·refine okE0 (fun (k : Nat) (v0 : Int × LV) => p ≤ v0.1 ∧ v0.1 ≤ p + 3 * (k : Int) ∧ v0.2.length = k ∧ (∀ v ∈ v0.2, v.2.2.1.size ≤ 20)) ⟨au, au, au, au⟩ (fun z0 hz k v0 hk hI => ?_)
   obtain ⟨i_0, i_1, i_2, i_3⟩ := hI
   unfold F.spec_l20Fit_l0
   refine okG ?_
   refine okG ?_
   refine okG ?_
   refine okX_spec_l20Like fun r1 h_5_6_0 h_5_6_1 h_5_6_2 => ?_
   refine okG ?_
   exact okNext ⟨au, au, au, au⟩
  ·obtain ⟨v0_0, v0_1, v0_2, v0_3⟩ := h_v0
   refine okG ?_
   refine okG ?_
   refine okX_spec_odd fun r2 h_6_2_0 h_6_2_1 => ?_
   refine okC (fun c_0 => ?_) (fun c_0 => ?_)
   ·refine okG ?_
    refine okG ?_
    refine okX_spec_pick fun r3 h_7_1_0 h_7_1_1 h_7_1_2 h_7_1_3 => ?_
    refine okD (fun c_1 => ?_) (fun c_1 => ?_)
    ·refine okG ?_
     exact okS4
    ·refine okD (fun c_2 => ?_) (fun c_2 => ?_)
     ·refine okD (fun c_3 => ?_) (fun c_3 => ?_)
      ·refine okG ?_
       refine okG ?_
       refine okX_spec_pick fun r4 h_13_4_0 h_13_4_1 h_13_4_2 h_13_4_3 => ?_
       refine okG ?_
       refine okG ?_
       refine okX_spec_l20Value fun r5 h_13_6_0 h_13_6_1 h_13_6_2 => ?_
       refine okG ?_
       refine okG ?_
       exact okS4
      ·exact okS4
     ·refine okG ?_
      refine okG ?_
      refine okX_spec_l20Value fun r6 h_8_2_0 h_8_2_1 h_8_2_2 => ?_
      refine okG ?_
      refine okG ?_
      refine okX_spec_l20Value fun r7 h_8_4_0 h_8_4_1 h_8_4_2 => ?_
      refine okG ?_
      refine okG ?_
      refine okX_spec_l20Value fun r8 h_8_6_0 h_8_6_1 h_8_6_2 => ?_
      refine okG ?_
      exact okS4
   ·exact okS4
theorem F.spec_l20Fit_eq (b : (List Int)) (p : Int) (columns : LC) (n : Int) (h_b : Sm (Ty.sl (Ty.int .u8)) b) (h_columns : Sm (Ty.sl TColumn) columns) (p0 : M.bytesOk b) (p1 : 0 ≤ p) (p2 : p ≤ 997000000000000) : F.spec_l20Fit b p columns n = some (M.l20Fit b p columns n) := ok_getD (F.spec_l20Fit_ok b p columns n h_b h_columns p0 p1 p2)
theorem M.l20Fit_post (b : (List Int)) (p : Int) (columns : LC) (n : Int) (h_b : Sm (Ty.sl (Ty.int .u8)) b) (h_columns : Sm (Ty.sl TColumn) columns) (p0 : M.bytesOk b) (p1 : 0 ≤ p) (p2 : p ≤ 997000000000000) : (M.l20Fit b p columns n).1.length ≤ columns.length + 3 ∧ (∀ v ∈ (M.l20Fit b p columns n).1, v.2.2.1.size ≤ 20) ∧ p ≤ (M.l20Fit b p columns n).2 ∧ (M.l20Fit b p columns n).2 ≤ p + 3 * columns.length + 70 := ok_post (F.spec_l20Fit_ok b p columns n h_b h_columns p0 p1 p2)
theorem okX_spec_l20Fit {α : Type} {K : α → Prop} {f : LV × Int → Option α} {b : (List Int)} {p : Int} {columns : LC} {n : Int} (k : ∀ r, (r.1.length ≤ columns.length + 3) → (∀ v ∈ r.1, v.2.2.1.size ≤ 20) → (p ≤ r.2) → (r.2 ≤ p + 3 * columns.length + 70) → ok (f r) K) (h_b : Sm (Ty.sl (Ty.int .u8)) b := by exact au) (h_columns : Sm (Ty.sl TColumn) columns := by exact au) (p0 : M.bytesOk b := by exact au) (p1 : 0 ≤ p := by exact au) (p2 : p ≤ 997000000000000 := by exact au) : ok (letD (M.l20Fit b p columns n) f) K := by
  have h := M.l20Fit_post b p columns n h_b h_columns p0 p1 p2
  obtain ⟨h0, h1, h2, h3⟩ := h
  exact k _ h0 h1 h2 h3
theorem F.spec_l20Leaf_ok (b : (List Int)) (p : Int) (columns : LC) (kind : Int) (h_b : Sm (Ty.sl (Ty.int .u8)) b) (h_columns : Sm (Ty.sl TColumn) columns) (p0 : M.bytesOk b) (p1 : 0 ≤ p) (p2 : p ≤ 997000000000000) : ok (F.spec_l20Leaf b p columns kind) (fun r => r.1.2.2.1.2.2.1.size ≤ 20 ∧ p ≤ r.2 ∧ r.2 ≤ p + 20) := by
  unfold F.spec_l20Leaf
  have hl := h_columns.1
  refine okT (A := fun e0 => p ≤ e0 ∧ e0 ≤ p + 8) (B := fun q0 => p ≤ q0.1 ∧ q0.1 ≤ p + 10) ?_ (fun e0 h_e0 => ?_) (fun q0 h_q0 => ?_)
  ·refine okW (fun (k : Nat) (v0 : Int × Int) => 0 ≤ v0.1 ∧ v0.1 ≤ 4 ∧ 4 ≤ v0.1 + (k : Int) ∧ p ≤ v0.2 ∧ v0.2 ≤ p + 2 * v0.1) (fun k v0 hI => ?_) (4 : Nat) _ ⟨au, au, au, au, au⟩
   obtain ⟨i_0, i_1, i_2, i_3, i_4⟩ := hI
   unfold F.spec_l20Leaf_l0
   refine okDe (fun c_0 => ?_) (fun c_0 => ?_)
   ·refine okD (fun c_1 => ?_) (fun c_1 => ?_)
    ·refine okG ?_
     refine okG ?_
     refine okG ?_
     refine okX_spec_pick fun r1 h_4_3_0 h_4_3_1 h_4_3_2 h_4_3_3 => ?_
     refine okG ?_
     refine okG ?_
     refine okDe (fun c_2 => ?_) (fun c_2 => ?_)
     ·refine okG ?_
      refine okG ?_
      refine okX_spec_pick fun r2 h_5_9_0 h_5_9_1 h_5_9_2 h_5_9_3 => ?_
      refine okD (fun c_3 => ?_) (fun c_3 => ?_)
      ·exact okOutR ⟨au, au⟩
      ·exact okNext ⟨k - 1, by omega, au, au, au, au, au⟩
     ·exact okNext ⟨k - 1, by omega, au, au, au, au, au⟩
    ·exact okOutL ⟨au, au⟩
   ·exact okOutL ⟨au, au⟩
  ·obtain ⟨e0_0, e0_1⟩ := h_e0
   refine okG ?_
   refine okG ?_
   refine okX_spec_l20Like fun r3 h_7_3_0 h_7_3_1 h_7_3_2 => ?_
   exact okS3
  ·obtain ⟨q0_0, q0_1⟩ := h_q0
   exact okS3
theorem F.spec_l20Leaf_eq (b : (List Int)) (p : Int) (columns : LC) (kind : Int) (h_b : Sm (Ty.sl (Ty.int .u8)) b) (h_columns : Sm (Ty.sl TColumn) columns) (p0 : M.bytesOk b) (p1 : 0 ≤ p) (p2 : p ≤ 997000000000000) : F.spec_l20Leaf b p columns kind = some (M.l20Leaf b p columns kind) := ok_getD (F.spec_l20Leaf_ok b p columns kind h_b h_columns p0 p1 p2)
theorem M.l20Leaf_post (b : (List Int)) (p : Int) (columns : LC) (kind : Int) (h_b : Sm (Ty.sl (Ty.int .u8)) b) (h_columns : Sm (Ty.sl TColumn) columns) (p0 : M.bytesOk b) (p1 : 0 ≤ p) (p2 : p ≤ 997000000000000) : (M.l20Leaf b p columns kind).1.2.2.1.2.2.1.size ≤ 20 ∧ p ≤ (M.l20Leaf b p columns kind).2 ∧ (M.l20Leaf b p columns kind).2 ≤ p + 20 := ok_post (F.spec_l20Leaf_ok b p columns kind h_b h_columns p0 p1 p2)
theorem okX_spec_l20Leaf {α : Type} {K : α → Prop} {f : TPart.D × Int → Option α} {b : (List Int)} {p : Int} {columns : LC} {kind : Int} (k : ∀ r, (r.1.2.2.1.2.2.1.size ≤ 20) → (p ≤ r.2) → (r.2 ≤ p + 20) → ok (f r) K) (h_b : Sm (Ty.sl (Ty.int .u8)) b := by exact au) (h_columns : Sm (Ty.sl TColumn) columns := by exact au) (p0 : M.bytesOk b := by exact au) (p1 : 0 ≤ p := by exact au) (p2 : p ≤ 997000000000000 := by exact au) : ok (letD (M.l20Leaf b p columns kind) f) K := by
  have h := M.l20Leaf_post b p columns kind h_b h_columns p0 p1 p2
  obtain ⟨h0, h1, h2⟩ := h
  exact k _ h0 h1 h2
theorem okX_spec_l20Expr_ih {α : Type} {K : α → Prop} {f : LPt × Int → Option α} {n_ : Nat} (ih : ∀ (b : (List Int)), ∀ (p : Int), ∀ (columns : LC), ∀ (kind : Int), ∀ (deep : Int), (Sm (Ty.sl (Ty.int .u8)) b) → (Sm (Ty.sl TColumn) columns) → (M.bytesOk b) → (0 ≤ p) → (p + 40 * (M.eB deep : Int) ≤ 996000000000000) → (deep ≤ 3) → (deep.toNat < n_) → 1 ≤ (M.l20Expr n_ b p columns kind deep).1.length ∧ (M.l20Expr n_ b p columns kind deep).1.length ≤ M.eB deep ∧ (∀ v ∈ (M.l20Expr n_ b p columns kind deep).1, v.2.2.1.2.2.1.size ≤ 20) ∧ p ≤ (M.l20Expr n_ b p columns kind deep).2 ∧ (M.l20Expr n_ b p columns kind deep).2 ≤ p + 40 * M.eB deep) {b : (List Int)} {p : Int} {columns : LC} {kind : Int} {deep : Int} (k : ∀ r, (1 ≤ r.1.length) → (r.1.length ≤ M.eB deep) → (∀ v ∈ r.1, v.2.2.1.2.2.1.size ≤ 20) → (p ≤ r.2) → (r.2 ≤ p + 40 * M.eB deep) → ok (f r) K) (h_b : Sm (Ty.sl (Ty.int .u8)) b := by exact au) (h_columns : Sm (Ty.sl TColumn) columns := by exact au) (p0 : M.bytesOk b := by exact au) (p1 : 0 ≤ p := by exact au) (p2 : p + 40 * (M.eB deep : Int) ≤ 996000000000000 := by exact au) (p3 : deep ≤ 3 := by exact au) (p4 : deep.toNat < n_ := by exact au) : ok (letD (M.l20Expr n_ b p columns kind deep) f) K := by
  have h := ih b p columns kind deep h_b h_columns p0 p1 p2 p3 p4
  obtain ⟨h0, h1, h2, h3, h4⟩ := h
  exact k _ h0 h1 h2 h3 h4
theorem F.spec_l20Expr_ok (n_ : Nat) (ih : ∀ (b : (List Int)), ∀ (p : Int), ∀ (columns : LC), ∀ (kind : Int), ∀ (deep : Int), (Sm (Ty.sl (Ty.int .u8)) b) → (Sm (Ty.sl TColumn) columns) → (M.bytesOk b) → (0 ≤ p) → (p + 40 * (M.eB deep : Int) ≤ 996000000000000) → (deep ≤ 3) → (deep.toNat < n_) → 1 ≤ (M.l20Expr n_ b p columns kind deep).1.length ∧ (M.l20Expr n_ b p columns kind deep).1.length ≤ M.eB deep ∧ (∀ v ∈ (M.l20Expr n_ b p columns kind deep).1, v.2.2.1.2.2.1.size ≤ 20) ∧ p ≤ (M.l20Expr n_ b p columns kind deep).2 ∧ (M.l20Expr n_ b p columns kind deep).2 ≤ p + 40 * M.eB deep) (b : (List Int)) (p : Int) (columns : LC) (kind : Int) (deep : Int) (h_b : Sm (Ty.sl (Ty.int .u8)) b) (h_columns : Sm (Ty.sl TColumn) columns) (p0 : M.bytesOk b) (p1 : 0 ≤ p) (p2 : p + 40 * (M.eB deep : Int) ≤ 996000000000000) (p3 : deep ≤ 3) (p4 : deep.toNat < (n_ + 1)) : ok (F.spec_l20Expr n_ b p columns kind deep) (fun r => 1 ≤ r.1.length ∧ r.1.length ≤ M.eB deep ∧ (∀ v ∈ r.1, v.2.2.1.2.2.1.size ≤ 20) ∧ p ≤ r.2 ∧ r.2 ≤ p + 40 * M.eB deep) := by
  unfold F.spec_l20Expr
  have hE0 := M.eB_of (d := deep)
  have hE1 := M.eB_of (d := wrap64 (deep - (1 : Int)))
  have hE2 := M.eB_of (d := wrap64 (deep - (2 : Int)))
  have hE3 := M.eB_w1 (d := deep) p3
  have hE4 := M.eB_w2 (d := deep) p3
  refine okDg (fun c_0 => ?_) (fun c_0 => ?_)
  ·refine okG ?_
   refine okX_spec_pick fun r1 h_1_4_0 h_1_4_1 h_1_4_2 h_1_4_3 => ?_
   refine okD (fun c_1 => ?_) (fun c_1 => ?_)
   ·refine okG ?_
    refine okG ?_
    refine okX_spec_l20Leaf fun r2 h_2_3_0 h_2_3_1 h_2_3_2 => ?_
    exact okS5
   ·refine okD (fun c_2 => ?_) (fun c_2 => ?_)
    ·refine okG ?_
     refine okG ?_
     refine okG ?_
     refine okG ?_
     refine okX_spec_l20Expr_ih ih fun r3 h_4_5_0 h_4_5_1 h_4_5_2 h_4_5_3 h_4_5_4 => ?_
     refine okG ?_
     refine okG ?_
     refine okX_spec_l20Leaf fun r4 h_4_9_0 h_4_9_1 h_4_9_2 => ?_
     refine okG ?_
     refine okG ?_
     exact okS5
    ·refine okD (fun c_3 => ?_) (fun c_3 => ?_)
     ·refine okG ?_
      refine okG ?_
      refine okX_spec_l20Leaf fun r5 h_6_3_0 h_6_3_1 h_6_3_2 => ?_
      exact okS5
     ·refine okG ?_
      refine okG ?_
      refine okX_spec_pick fun r6 h_7_1_0 h_7_1_1 h_7_1_2 h_7_1_3 => ?_
      refine okD (fun c_4 => ?_) (fun c_4 => ?_)
      ·refine okG ?_
       refine okG ?_
       refine okG ?_
       refine okG ?_
       refine okX_spec_l20Expr_ih ih fun r7 h_9_4_0 h_9_4_1 h_9_4_2 h_9_4_3 h_9_4_4 => ?_
       refine okG ?_
       refine okG ?_
       refine okG ?_
       refine okG ?_
       refine okX_spec_l20Expr_ih ih fun r8 h_9_9_0 h_9_9_1 h_9_9_2 h_9_9_3 h_9_9_4 => ?_
       refine okG ?_
       refine okG ?_
       refine okG ?_
       refine okX_spec_pick fun r9 h_9_12_0 h_9_12_1 h_9_12_2 h_9_12_3 => ?_
       refine okG ?_
       exact okS5
      ·refine okD (fun c_5 => ?_) (fun c_5 => ?_)
       ·refine okG ?_
        refine okG ?_
        refine okG ?_
        refine okG ?_
        refine okX_spec_l20Expr_ih ih fun r10 h_11_4_0 h_11_4_1 h_11_4_2 h_11_4_3 h_11_4_4 => ?_
        refine okG ?_
        exact okS5
       ·refine okD (fun c_6 => ?_) (fun c_6 => ?_)
        ·refine okG ?_
         refine okG ?_
         refine okX_spec_pick fun r11 h_13_3_0 h_13_3_1 h_13_3_2 h_13_3_3 => ?_
         refine okG ?_
         refine okG ?_
         refine okG ?_
         refine okG ?_
         refine okX_spec_l20Expr_ih ih fun r12 h_13_7_0 h_13_7_1 h_13_7_2 h_13_7_3 h_13_7_4 => ?_
         refine okG ?_
         exact okS5
        ·refine okG ?_
         refine okG ?_
         refine okX_spec_pick fun r13 h_14_1_0 h_14_1_1 h_14_1_2 h_14_1_3 => ?_
         refine okG ?_
         refine okG ?_
         refine okG ?_
         refine okG ?_
         refine okX_spec_l20Expr_ih ih fun r14 h_15_5_0 h_15_5_1 h_15_5_2 h_15_5_3 h_15_5_4 => ?_
         refine okG ?_
         refine okG ?_
         refine okX_spec_l20Leaf fun r15 h_15_9_0 h_15_9_1 h_15_9_2 => ?_
         refine okG ?_
         refine okG ?_
         refine okG ?_
         refine okX_spec_pick fun r16 h_15_13_0 h_15_13_1 h_15_13_2 h_15_13_3 => ?_
         refine okG ?_
         exact okS5
  ·refine okG ?_
   refine okX_spec_l20Leaf fun r2 h_2_3_0 h_2_3_1 h_2_3_2 => ?_
   exact okS5
theorem M.l20Expr_post : ∀ (n_ : Nat), ∀ (b : (List Int)), ∀ (p : Int), ∀ (columns : LC), ∀ (kind : Int), ∀ (deep : Int), (Sm (Ty.sl (Ty.int .u8)) b) → (Sm (Ty.sl TColumn) columns) → (M.bytesOk b) → (0 ≤ p) → (p + 40 * (M.eB deep : Int) ≤ 996000000000000) → (deep ≤ 3) → (deep.toNat < n_) → 1 ≤ (M.l20Expr n_ b p columns kind deep).1.length ∧ (M.l20Expr n_ b p columns kind deep).1.length ≤ M.eB deep ∧ (∀ v ∈ (M.l20Expr n_ b p columns kind deep).1, v.2.2.1.2.2.1.size ≤ 20) ∧ p ≤ (M.l20Expr n_ b p columns kind deep).2 ∧ (M.l20Expr n_ b p columns kind deep).2 ≤ p + 40 * M.eB deep
  | 0, b, p, columns, kind, deep, h_b, h_columns, p0, p1, p2, p3, p4 => absurd p4 (Nat.not_lt_zero _)
  | n_ + 1, b, p, columns, kind, deep, h_b, h_columns, p0, p1, p2, p3, p4 => ok_post (F.spec_l20Expr_ok n_ (M.l20Expr_post n_) b p columns kind deep h_b h_columns p0 p1 p2 p3 p4)
theorem F.spec_l20Expr_eq (n_ : Nat) (b : (List Int)) (p : Int) (columns : LC) (kind : Int) (deep : Int) (h_b : Sm (Ty.sl (Ty.int .u8)) b) (h_columns : Sm (Ty.sl TColumn) columns) (p0 : M.bytesOk b) (p1 : 0 ≤ p) (p2 : p + 40 * (M.eB deep : Int) ≤ 996000000000000) (p3 : deep ≤ 3) (p4 : deep.toNat < (n_ + 1)) : F.spec_l20Expr n_ b p columns kind deep = some (M.l20Expr (n_ + 1) b p columns kind deep) := ok_getD (F.spec_l20Expr_ok n_ (M.l20Expr_post n_) b p columns kind deep h_b h_columns p0 p1 p2 p3 p4)
theorem okX_spec_l20Expr {α : Type} {K : α → Prop} {f : LPt × Int → Option α} {n_ : Nat} {b : (List Int)} {p : Int} {columns : LC} {kind : Int} {deep : Int} (k : ∀ r, (1 ≤ r.1.length) → (r.1.length ≤ M.eB deep) → (∀ v ∈ r.1, v.2.2.1.2.2.1.size ≤ 20) → (p ≤ r.2) → (r.2 ≤ p + 40 * M.eB deep) → ok (f r) K) (h_b : Sm (Ty.sl (Ty.int .u8)) b := by exact au) (h_columns : Sm (Ty.sl TColumn) columns := by exact au) (p0 : M.bytesOk b := by exact au) (p1 : 0 ≤ p := by exact au) (p2 : p + 40 * (M.eB deep : Int) ≤ 996000000000000 := by exact au) (p3 : deep ≤ 3 := by exact au) (p4 : deep.toNat < n_ := by exact au) : ok (letD (M.l20Expr n_ b p columns kind deep) f) K := by
  have h := M.l20Expr_post n_ b p columns kind deep h_b h_columns p0 p1 p2 p3 p4
  obtain ⟨h0, h1, h2, h3, h4⟩ := h
  exact k _ h0 h1 h2 h3 h4
theorem F.spec_l20Wild_ok (b : (List Int)) (p : Int) (columns : LC) (n : Int) (h_b : Sm (Ty.sl (Ty.int .u8)) b) (h_columns : Sm (Ty.sl TColumn) columns) (p0 : M.bytesOk b) (p1 : 0 ≤ p) (p2 : p ≤ 995000000000000) : ok (F.spec_l20Wild b p columns n) (fun r => r.1.length ≤ 82 ∧ (∀ v ∈ r.1, v.2.2.1.2.2.1.size ≤ 20) ∧ p ≤ r.2 ∧ r.2 ≤ p + 4000) := by
  unfold F.spec_l20Wild
  have hE := M.eB_of (d := (3 : Int))
  refine okG ?_
  refine okX_spec_pick fun r1 h_1_4_0 h_1_4_1 h_1_4_2 h_1_4_3 => ?_
  refine okG ?_
  refine okG ?_
  refine okG ?_
  refine okG ?_
  refine okG ?_
  refine okG ?_
  refine okX_spec_l20Expr fun r2 h_1_7_0 h_1_7_1 h_1_7_2 h_1_7_3 h_1_7_4 => ?_
  refine okG ?_
  refine okG ?_
  refine okX_spec_odd fun r3 h_2_2_0 h_2_2_1 => ?_
  refine okC (fun c_0 => ?_) (fun c_0 => ?_)
  ·refine okG ?_
   refine okG ?_
   refine okX_spec_pick fun r4 h_3_1_0 h_3_1_1 h_3_1_2 h_3_1_3 => ?_
   refine okD (fun c_1 => ?_) (fun c_1 => ?_)
   ·refine okG ?_
    refine okG ?_
    refine okX_spec_pick fun r5 h_6_4_0 h_6_4_1 h_6_4_2 h_6_4_3 => ?_
    refine okG ?_
    refine okG ?_
    exact okS4
   ·refine okD (fun c_2 => ?_) (fun c_2 => ?_)
    ·refine okG ?_
     refine okG ?_
     refine okX_spec_pick fun r6 h_8_4_0 h_8_4_1 h_8_4_2 h_8_4_3 => ?_
     refine okG ?_
     refine okG ?_
     refine okX_spec_pick fun r7 h_8_6_0 h_8_6_1 h_8_6_2 h_8_6_3 => ?_
     refine okG ?_
     refine okG ?_
     refine okX_spec_pick fun r8 h_8_8_0 h_8_8_1 h_8_8_2 h_8_8_3 => ?_
     refine okG ?_
     refine okG ?_
     refine okL fun y1 ey1 => ?_
     subst ey1
     exact okS4
    ·refine okG ?_
     refine okG ?_
     refine okX_spec_l20Value fun r9 h_4_2_0 h_4_2_1 h_4_2_2 => ?_
     refine okG ?_
     exact okS4
  ·exact okS4
theorem F.spec_l20Wild_eq (b : (List Int)) (p : Int) (columns : LC) (n : Int) (h_b : Sm (Ty.sl (Ty.int .u8)) b) (h_columns : Sm (Ty.sl TColumn) columns) (p0 : M.bytesOk b) (p1 : 0 ≤ p) (p2 : p ≤ 995000000000000) : F.spec_l20Wild b p columns n = some (M.l20Wild b p columns n) := ok_getD (F.spec_l20Wild_ok b p columns n h_b h_columns p0 p1 p2)
theorem M.l20Wild_post (b : (List Int)) (p : Int) (columns : LC) (n : Int) (h_b : Sm (Ty.sl (Ty.int .u8)) b) (h_columns : Sm (Ty.sl TColumn) columns) (p0 : M.bytesOk b) (p1 : 0 ≤ p) (p2 : p ≤ 995000000000000) : (M.l20Wild b p columns n).1.length ≤ 82 ∧ (∀ v ∈ (M.l20Wild b p columns n).1, v.2.2.1.2.2.1.size ≤ 20) ∧ p ≤ (M.l20Wild b p columns n).2 ∧ (M.l20Wild b p columns n).2 ≤ p + 4000 := ok_post (F.spec_l20Wild_ok b p columns n h_b h_columns p0 p1 p2)
theorem okX_spec_l20Wild {α : Type} {K : α → Prop} {f : LPt × Int → Option α} {b : (List Int)} {p : Int} {columns : LC} {n : Int} (k : ∀ r, (r.1.length ≤ 82) → (∀ v ∈ r.1, v.2.2.1.2.2.1.size ≤ 20) → (p ≤ r.2) → (r.2 ≤ p + 4000) → ok (f r) K) (h_b : Sm (Ty.sl (Ty.int .u8)) b := by exact au) (h_columns : Sm (Ty.sl TColumn) columns := by exact au) (p0 : M.bytesOk b := by exact au) (p1 : 0 ≤ p := by exact au) (p2 : p ≤ 995000000000000 := by exact au) : ok (letD (M.l20Wild b p columns n) f) K := by
  have h := M.l20Wild_post b p columns n h_b h_columns p0 p1 p2
  obtain ⟨h0, h1, h2, h3⟩ := h
  exact k _ h0 h1 h2 h3
theorem F.spec_l20Asked_ok (b : (List Int)) (p : Int) (n : Int) (h_b : Sm (Ty.sl (Ty.int .u8)) b) (p0 : M.bytesOk b) (p1 : 0 ≤ p) (p2 : p ≤ 994000000000000) : ok (F.spec_l20Asked b p n) (fun r => r.1.length ≤ 6 ∧ r.2.1.length ≤ 9 ∧ (∀ v ∈ r.2.1, v.2.2.1.size ≤ 20) ∧ r.2.2.1.length ≤ 82 ∧ (∀ v ∈ r.2.2.1, v.2.2.1.2.2.1.size ≤ 20) ∧ p ≤ r.2.2.2 ∧ r.2.2.2 ≤ p + 6000) := by
  unfold F.spec_l20Asked
  refine okG ?_
  refine okX_spec_l20Columns fun r1 h_1_3_0 h_1_3_1 h_1_3_2 h_1_3_3 => ?_
  refine okG ?_
  refine okG ?_
  refine okG ?_
  refine okX_spec_l20Fit fun r2 h_2_5_0 h_2_5_1 h_2_5_2 h_2_5_3 => ?_
  refine okG ?_
  refine okG ?_
  refine okX_spec_l20Wild fun r3 h_2_9_0 h_2_9_1 h_2_9_2 h_2_9_3 => ?_
  exact okS7
theorem F.spec_l20Asked_eq (b : (List Int)) (p : Int) (n : Int) (h_b : Sm (Ty.sl (Ty.int .u8)) b) (p0 : M.bytesOk b) (p1 : 0 ≤ p) (p2 : p ≤ 994000000000000) : F.spec_l20Asked b p n = some (M.l20Asked b p n) := ok_getD (F.spec_l20Asked_ok b p n h_b p0 p1 p2)
theorem M.l20Asked_post (b : (List Int)) (p : Int) (n : Int) (h_b : Sm (Ty.sl (Ty.int .u8)) b) (p0 : M.bytesOk b) (p1 : 0 ≤ p) (p2 : p ≤ 994000000000000) : (M.l20Asked b p n).1.length ≤ 6 ∧ (M.l20Asked b p n).2.1.length ≤ 9 ∧ (∀ v ∈ (M.l20Asked b p n).2.1, v.2.2.1.size ≤ 20) ∧ (M.l20Asked b p n).2.2.1.length ≤ 82 ∧ (∀ v ∈ (M.l20Asked b p n).2.2.1, v.2.2.1.2.2.1.size ≤ 20) ∧ p ≤ (M.l20Asked b p n).2.2.2 ∧ (M.l20Asked b p n).2.2.2 ≤ p + 6000 := ok_post (F.spec_l20Asked_ok b p n h_b p0 p1 p2)
theorem okX_spec_l20Asked {α : Type} {K : α → Prop} {f : LC × LV × LPt × Int → Option α} {b : (List Int)} {p : Int} {n : Int} (k : ∀ r, (r.1.length ≤ 6) → (r.2.1.length ≤ 9) → (∀ v ∈ r.2.1, v.2.2.1.size ≤ 20) → (r.2.2.1.length ≤ 82) → (∀ v ∈ r.2.2.1, v.2.2.1.2.2.1.size ≤ 20) → (p ≤ r.2.2.2) → (r.2.2.2 ≤ p + 6000) → ok (f r) K) (h_b : Sm (Ty.sl (Ty.int .u8)) b := by exact au) (p0 : M.bytesOk b := by exact au) (p1 : 0 ≤ p := by exact au) (p2 : p ≤ 994000000000000 := by exact au) : ok (letD (M.l20Asked b p n) f) K := by
  have h := M.l20Asked_post b p n h_b p0 p1 p2
  obtain ⟨h0, h1, h2, h3, h4, h5, h6⟩ := h
  exact k _ h0 h1 h2 h3 h4 h5 h6
theorem F.spec_DrawFoldedRow_ok (code : (List Int)) (h_code : Sm (Ty.sl (Ty.int .u8)) code) (p0 : M.bytesOk code) : ok (F.spec_DrawFoldedRow code) (fun r => r.1.length ≤ 6 ∧ r.2.1.length ≤ 9 ∧ (∀ v ∈ r.2.1, v.2.2.1.size ≤ 20) ∧ r.2.2.length ≤ 82 ∧ (∀ v ∈ r.2.2, v.2.2.1.2.2.1.size ≤ 20)) := by
  unfold F.spec_DrawFoldedRow
  have hE := M.eB_of (d := (3 : Int))
  refine okD (fun c_0 => ?_) (fun c_0 => ?_)
  ·refine okG ?_
   refine okG ?_
   refine okG ?_
   refine okG ?_
   refine okG ?_
   refine okX_spec_l20Asked fun r1 h_2_1_0 h_2_1_1 h_2_1_2 h_2_1_3 h_2_1_4 h_2_1_5 h_2_1_6 => ?_
   refine okG ?_
   refine okG ?_
   refine okX_spec_pick fun r2 h_3_1_0 h_3_1_1 h_3_1_2 h_3_1_3 => ?_
   refine okD (fun c_1 => ?_) (fun c_1 => ?_)
   ·refine okG ?_
    refine okG ?_
    refine okX_spec_pick fun r3 h_4_3_0 h_4_3_1 h_4_3_2 h_4_3_3 => ?_
    refine okG ?_
    refine okG ?_
    refine okG ?_
    refine okG ?_
    refine okX_spec_l20Expr fun r4 h_4_5_0 h_4_5_1 h_4_5_2 h_4_5_3 h_4_5_4 => ?_
    exact okS5
   ·exact okS5
  ·refine okG ?_
   refine okG ?_
   refine okX_spec_l20Asked fun r1 h_2_1_0 h_2_1_1 h_2_1_2 h_2_1_3 h_2_1_4 h_2_1_5 h_2_1_6 => ?_
   refine okG ?_
   refine okG ?_
   refine okX_spec_pick fun r2 h_3_1_0 h_3_1_1 h_3_1_2 h_3_1_3 => ?_
   refine okD (fun c_2 => ?_) (fun c_2 => ?_)
   ·refine okG ?_
    refine okG ?_
    refine okX_spec_pick fun r3 h_4_3_0 h_4_3_1 h_4_3_2 h_4_3_3 => ?_
    refine okG ?_
    refine okG ?_
    refine okG ?_
    refine okG ?_
    refine okX_spec_l20Expr fun r4 h_4_5_0 h_4_5_1 h_4_5_2 h_4_5_3 h_4_5_4 => ?_
    exact okS5
   ·exact okS5
theorem F.spec_DrawFoldedRow_eq (code : (List Int)) (h_code : Sm (Ty.sl (Ty.int .u8)) code) (p0 : M.bytesOk code) : F.spec_DrawFoldedRow code = some (M.DrawFoldedRow code) := ok_getD (F.spec_DrawFoldedRow_ok code h_code p0)
theorem M.DrawFoldedRow_post (code : (List Int)) (h_code : Sm (Ty.sl (Ty.int .u8)) code) (p0 : M.bytesOk code) : (M.DrawFoldedRow code).1.length ≤ 6 ∧ (M.DrawFoldedRow code).2.1.length ≤ 9 ∧ (∀ v ∈ (M.DrawFoldedRow code).2.1, v.2.2.1.size ≤ 20) ∧ (M.DrawFoldedRow code).2.2.length ≤ 82 ∧ (∀ v ∈ (M.DrawFoldedRow code).2.2, v.2.2.1.2.2.1.size ≤ 20) := ok_post (F.spec_DrawFoldedRow_ok code h_code p0)
theorem okX_spec_DrawFoldedRow {α : Type} {K : α → Prop} {f : LC × LV × LPt → Option α} {code : (List Int)} (k : ∀ r, (r.1.length ≤ 6) → (r.2.1.length ≤ 9) → (∀ v ∈ r.2.1, v.2.2.1.size ≤ 20) → (r.2.2.length ≤ 82) → (∀ v ∈ r.2.2, v.2.2.1.2.2.1.size ≤ 20) → ok (f r) K) (h_code : Sm (Ty.sl (Ty.int .u8)) code := by exact au) (p0 : M.bytesOk code := by exact au) : ok (letD (M.DrawFoldedRow code) f) K := by
  have h := M.DrawFoldedRow_post code h_code p0
  obtain ⟨h0, h1, h2, h3, h4⟩ := h
  exact k _ h0 h1 h2 h3 h4
theorem F.impl_between_eq (n : Int) (low : Int) (high : Int)  : F.impl_between n low high = some (M.inR n low high) := by
  unfold F.impl_between M.inR
  cases decide (low ≤ n) <;> rfl
theorem F.impl_ColumnsOk_1_eq (c : TColumn.D)  : F.impl_ColumnsOk_1 c = some (!M.columnOk c) := by
  rfl
theorem F.IndexFunc_impl_ColumnsOk_1_eq (xs : LC) (h_xs : Sm (Ty.sl TColumn) xs) : F.IndexFunc_impl_ColumnsOk_1 xs = some (M.idx (t := TColumn) (fun e => !M.columnOk e) xs) := by
  exact indexFunc_eq (t := TColumn) (p := (fun e => !M.columnOk e)) (fun i h0 h1 => by simp only [F.IndexFunc_impl_ColumnsOk_1_l0, cond_some])
theorem F.ContainsFunc_impl_ColumnsOk_1_eq (xs : LC) (h_xs : Sm (Ty.sl TColumn) xs) : F.ContainsFunc_impl_ColumnsOk_1 xs = some (List.any xs (fun e => !M.columnOk e)) := by
  unfold F.ContainsFunc_impl_ColumnsOk_1
  exact containsFunc_eq (t := TColumn)
theorem F.impl_ColumnsOk_eq (columns : LC) (h_columns : Sm (Ty.sl TColumn) columns) : F.impl_ColumnsOk columns = some (M.columnsOk columns) := by
  unfold F.impl_ColumnsOk M.columnsOk
  rw [cond_andb, show decide ((columns.length : Int) ≤ 4) = decide (columns.length ≤ 4) from decide_eq_decide.2 (by omega)]
  rw [List.all_eq_not_any_not]
theorem F.impl_Part_takes_eq (p : TPart.D) (h_p : Sm TPart p) : F.impl_Part_takes p = some (M.takes p) := by
  unfold F.impl_Part_takes M.takes
  generalize decide (p.1 = (3 : Int)) = c3
  generalize decide (p.1 = (4 : Int)) = c4
  generalize decide (p.1 = (5 : Int)) = c5
  generalize decide (p.1 = (6 : Int)) = c6
  generalize decide (p.1 = (7 : Int)) = c7
  generalize decide (p.1 = (8 : Int)) = c8
  cases c3 <;> cases c4 <;> cases c5 <;> cases c6 <;> cases c7 <;> cases c8 <;> rfl
theorem F.impl_letters_eq (s : ByteArray) (h_s : Sm Ty.str s) : F.impl_letters s = some (M.lower (byteInts s)) := by
  unfold F.impl_letters M.lower
  rw [then_all (fun n => M.inR n 97 122) () (fun x hx => by
    obtain ⟨h0, h1⟩ := byte_mem hx
    simp only [F.impl_letters_l0, cond_notb, cond_some, wrap64_id' (n := x) (by omega) (by omega)])]
  cases (byteInts s).all fun n => M.inR n 97 122 <;> rfl
theorem F.impl_Value_ok_eq (v : TValue.D) (h_v : Sm TValue v) : F.impl_Value_ok v = some (M.valueOk v) := by
  unfold F.impl_Value_ok M.valueOk M.text
  simp only [cond_andb]
  rw [show decide ((v.2.2.1.size : Int) ≤ 6) = decide (v.2.2.1.size ≤ 6) from decide_eq_decide.2 (by omega)]
  simp only [Ty.beq]
  cases h0 : decide (v.1 = (0 : Int))
  · generalize decide (v.1 = (1 : Int)) = b1
    generalize decide (v.1 = (2 : Int)) = b2
    generalize decide (v.1 = (3 : Int)) = b3
    generalize decide (v.2.1 = (0 : Int)) = c0
    generalize decide (v.2.2.1.size ≤ 6) = c6
    generalize M.inR v.2.1 (-9999) 9999 = c1
    generalize M.inR v.2.1 0 1 = c3
    generalize decide (v.2.2.1 = M.none_) = e0
    cases b1 <;> cases b2 <;> cases b3 <;> cases c0 <;> cases c6 <;> cases c1 <;> cases c3 <;> cases e0 <;> rfl
  · simp only [cond_true, Bool.true_and, Bool.and_true]
theorem F.impl_Part_tells_eq (p : TPart.D) (columns : LC) (h_p : Sm TPart p) (h_columns : Sm (Ty.sl TColumn) columns) : F.impl_Part_tells p columns = some (M.tells p columns) := by
  unfold F.impl_Part_tells M.tells M.noV
  rw [wrap_pred _ h_columns.1]
  simp only [cond_andb, show Ty.beq TValue p.2.2.1 ((0 : Int), (0 : Int), (⟨#[]⟩ : ByteArray), ()) = Ty.beq TValue p.2.2.1 M.zeroV from rfl]
  generalize Ty.beq TValue p.2.2.1 M.zeroV = nv
  by_cases e1 : p.1 = (1 : Int)
  · simp only [e1, decide_true, cond_true]
  by_cases e2 : p.1 = (2 : Int)
  · simp only [e2, decide_true, cond_true, Int.reduceEq, decide_false, cond_false]
  by_cases e4 : p.1 = (4 : Int)
  · simp only [e4, decide_true, cond_true, Int.reduceEq, decide_false, cond_false]
  by_cases e3 : p.1 = (3 : Int)
  · simp only [e3, decide_true, cond_true, Int.reduceEq, decide_false, cond_false]
    rfl
  by_cases e5 : p.1 = (5 : Int)
  · simp only [e5, decide_true, cond_true, Int.reduceEq, decide_false, cond_false]
    rfl
  by_cases e6 : p.1 = (6 : Int)
  · simp only [e6, decide_true, cond_true, Int.reduceEq, decide_false, cond_false]
    rfl
  by_cases e7 : p.1 = (7 : Int)
  · simp only [e7, decide_true, cond_true, Int.reduceEq, decide_false, cond_false]
    rfl
  by_cases e8 : p.1 = (8 : Int)
  · simp only [e8, decide_true, cond_true, Int.reduceEq, decide_false, cond_false]
    rfl
  simp only [e1, e2, e3, e4, e5, e6, e7, e8, decide_false, cond_false, inR_out e3 e4 e5 e6 e7 e8]
theorem F.impl_Part_kind_1_1_eq (k : Int) (kind : Int)  : F.impl_Part_kind_1_1 k kind = some (!decide (k = kind)) := by
  rfl
theorem F.IndexFunc_impl_Part_kind_1_1_eq (xs : (List Int)) (k0 : Int) (h_xs : Sm (Ty.sl (Ty.int .i64)) xs) : F.IndexFunc_impl_Part_kind_1_1 xs k0 = some (M.idx (t := (Ty.int .i64)) (fun e => !decide (e = k0)) xs) := by
  exact indexFunc_eq (t := (Ty.int .i64)) (p := (fun e => !decide (e = k0))) (fun i h0 h1 => by simp only [F.IndexFunc_impl_Part_kind_1_1_l0, cond_some])
theorem F.ContainsFunc_impl_Part_kind_1_1_eq (xs : (List Int)) (k0 : Int) (h_xs : Sm (Ty.sl (Ty.int .i64)) xs) : F.ContainsFunc_impl_Part_kind_1_1 xs k0 = some (List.any xs (fun e => !decide (e = k0))) := by
  unfold F.ContainsFunc_impl_Part_kind_1_1
  exact containsFunc_eq (t := (Ty.int .i64))
theorem F.impl_Part_kind_1_eq (kind : Int) (ins : (List Int)) (h_ins : Sm (Ty.sl (Ty.int .i64)) ins) : F.impl_Part_kind_1 kind ins = some (List.all ins (fun k => decide (k = kind))) := by
  unfold F.impl_Part_kind_1
  rw [List.all_eq_not_any_not]
theorem F.impl_Part_kind_eq (p : TPart.D) (columns : LC) (inp : (List Int)) (h_p : Sm TPart p) (h_columns : Sm (Ty.sl TColumn) columns) (h_inp : Sm (Ty.sl (Ty.int .i64)) inp) (p0 : M.tells p columns = true) (p1 : (inp.length : Int) = M.takes p) : F.impl_Part_kind p columns inp = some (M.partKind p columns inp) := by
  unfold F.impl_Part_kind M.partKind
  obtain ⟨_, hc⟩ := tells_kind p0
  by_cases e1 : p.1 = (1 : Int)
  · simp only [e1, decide_true, cond_true]
  by_cases e2 : p.1 = (2 : Int)
  · obtain ⟨c0, c1⟩ := hc e2
    simp only [e2, decide_true, cond_true, Int.reduceEq, decide_false, cond_false]
    rw [guardD_pos c0, guardD_pos c1]
  by_cases e4 : p.1 = (4 : Int)
  · rw [takes_two (.inr (.inl e4))] at p1
    simp only [e4, decide_true, cond_true, Int.reduceEq, decide_false, cond_false]
    repeat rw [guardD_pos (by omega)]
  cases decide (p.1 = (3 : Int)) <;> cases decide (p.1 = (8 : Int)) <;> simp [e1, e2, e4]
theorem F.impl_ExprKind_eq (columns : LC) (e : LPt) (h_columns : Sm (Ty.sl TColumn) columns) (h_e : Sm (Ty.sl TPart) e) : F.impl_ExprKind columns e = some (M.exprKind columns e) := by
  unfold F.impl_ExprKind M.exprKind
  cases M.columnsOk columns
  · rfl
  by_cases hl : e.length ≤ 12
  · rw [decide_eq_false (show ¬ (12 : Int) < (e.length : Int) by omega), decide_eq_true hl]
    rw [impl_kind_run e [] (by simp; omega)]
    cases M.kindRun columns e [] with
    | none => rfl
    | some s =>
      match s with
      | [] => rfl
      | [a] => exact guardD_pos (by simp)
      | a :: b :: l =>
        have : ¬ ((a :: b :: l).length : Int) = 1 := by simp; omega
        simp only [this, decide_false]
        rfl
  · rw [decide_eq_true (show (12 : Int) < (e.length : Int) by omega), decide_eq_false hl]
    rfl
theorem F.cmp_isNaN_int_eq (x : Int)  : F.cmp_isNaN_int x = some false := by
  unfold F.cmp_isNaN_int
  simp
theorem F.cmp_Less_int_eq (x : Int) (y : Int)  : F.cmp_Less_int x y = some (decide (x < y)) := by
  rfl
theorem F.slices_insertionSort_eq (xs : (List Int)) (a : Int) (b : Int) (h_xs : Sm (Ty.sl (Ty.int .i64)) xs) (p0 : a = 0) (p1 : b = (xs.length : Int)) : F.slices_insertionSort xs a b = some (M.isort xs) := by
  subst p0
  subst p1
  have hl := h_xs.1
  unfold F.slices_insertionSort
  rw [guardD_pos (by unfold top63; omega), show wrap64 ((0 : Int) + (1 : Int)) = 1 by decide, guardD_pos (by decide)]
  match xs, hl with
  | [], _ => rfl
  | x :: R, hl =>
    simp only [List.length_cons] at hl
    have := isort_run (xs := x :: R) (by simp only [List.length_cons]; omega) ((x :: R).length : Int) R [x] 1 (by simp) (by simp only [List.length_cons, List.length_nil]; omega) (by simp; omega)
    rw [show ([x].reverse ++ R : List Int) = x :: R by simp] at this
    rw [this]
    rfl
theorem F.slices_pdqsort_eq (xs : (List Int)) (a : Int) (b : Int) (limit : Int) (h_xs : Sm (Ty.sl (Ty.int .i64)) xs) (p0 : a = 0) (p1 : b = (xs.length : Int)) (p2 : xs.length ≤ 12) : F.slices_pdqsort xs a b limit = some (M.isort xs) := by
  subst p0
  subst p1
  unfold F.slices_pdqsort
  rw [whileD_step]
  unfold F.slices_pdqsort_l0
  rw [wrap64_id' (n := (xs.length : Int) - 0) (by omega) (by omega), decide_eq_true (by omega), cond_true, guardD_pos rfl, guardD_pos rfl]
  rfl
theorem F.bits_Len64_eq (x : Int) (p0 : 0 ≤ x) (p1 : x ≤ 12) : F.bits_Len64 x = some (M.len64 x) := by
  have h : ∃ v, F.bits_Len64 x = some v := by
    unfold F.bits_Len64
    rw [decide_eq_false (show ¬ (4294967296 : Int) ≤ x by omega), cond_false, decide_eq_false (show ¬ (65536 : Int) ≤ x by omega), cond_false, decide_eq_false (show ¬ (256 : Int) ≤ x by omega), cond_false, guardD_pos (by omega), guardD_pos (Int.lt_of_lt_of_le (b := 256) (by omega) (by decide +kernel))]
    exact ⟨_, rfl⟩
  obtain ⟨v, hv⟩ := h
  unfold M.len64
  rw [hv]
  rfl
theorem F.bits_Len_eq (x : Int) (p0 : 0 ≤ x) (p1 : x ≤ 12) : F.bits_Len x = some (M.len64 x) := by
  rfl
theorem F.slices_Sort_eq (xs : (List Int)) (h_xs : Sm (Ty.sl (Ty.int .i64)) xs) (p0 : xs.length ≤ 12) : F.slices_Sort xs = some (M.isort xs) := by
  unfold F.slices_Sort
  have hw : wrapK .u64 (xs.length : Int) = (xs.length : Int) := by
    show IntKind.wrap .u64 (xs.length : Int) = _
    simp [IntKind.wrap, IntKind.bits, IntKind.signed]
    omega
  rw [hw, guardD_pos (by omega), guardD_pos (by omega), guardD_pos rfl, guardD_pos rfl]
  rfl
theorem F.clone_Inti64_eq (xs : (List Int)) (h_xs : Sm (Ty.sl (Ty.int .i64)) xs) : F.clone_Inti64 xs = some xs := by
  exact M.clone2_eq (t := (Ty.int .i64))
theorem F.slices_Compact_eq (xs : (List Int)) (h_xs : Sm (Ty.sl (Ty.int .i64)) xs) : F.slices_Compact xs = some (M.compact xs) := by
  exact compact_run h_xs.1
theorem F.impl_exprColumns_eq (e : LPt) (h_e : Sm (Ty.sl TPart) e) (p0 : e.length ≤ 12) : F.impl_exprColumns e = some (M.exprCols e) := by
  unfold F.impl_exprColumns M.exprCols
  have hl := h_e.1
  rw [each_pick (fun p : TPart.D => decide (p.1 = (2 : Int))) (fun p : TPart.D => p.2.1) (fun z hz s hs => by
    unfold F.impl_exprColumns_l0
    rw [guardD_pos (by unfold lim; simp; omega)]
    cases decide (z.1 = (2 : Int)) <;> rfl), thenD_inl]
  have hs : Sm (.sl (.int .i64)) ((e.filter fun p : TPart.D => decide (p.1 = (2 : Int))).map fun p => p.2.1) := ⟨by show (List.map _ _).length ≤ 1048576; rw [List.length_map]; exact Nat.le_trans (List.length_filter_le _ _) hl, fun _ _ => trivial⟩
  rw [guardD_pos hs, guardD_pos (by rw [List.length_map]; exact Nat.le_trans (List.length_filter_le _ _) p0), letD_eq, guardD_pos (M.isort_sm hs), letD_eq, guardD_pos (M.compact_sm (M.isort_sm hs)), letD_eq, M.take_all]
theorem F.impl_ValueOf_eq (truth : Int)  : F.impl_ValueOf truth = some (M.valueOf truth) := by
  unfold F.impl_ValueOf M.valueOf
  cases M.inR truth 0 1 <;> rfl
theorem F.impl_truthIf_eq (b : Bool)  : F.impl_truthIf b = some (M.bool b) := by
  unfold F.impl_truthIf M.bool
  rw [cond_some]
theorem F.cmp_Or_int_eq (vals : (List Int)) (h_vals : Sm (Ty.sl (Ty.int .i64)) vals) : F.cmp_Or_int vals = some (M.orI vals) := by
  unfold F.cmp_Or_int
  suffices h : ∀ (A B : List Int), thenD (eachD (F.cmp_Or_int_l0 A) B ()) (fun v0 : Unit => some (0 : Int)) (fun q0 : Int => some q0) = some (M.orI B) from h vals vals
  intro A B
  induction B with
  | nil => rfl
  | cons x l ih =>
    rw [eachD_cons]
    simp only [F.cmp_Or_int_l0, M.orI]
    by_cases hx : x = 0
    · simp only [hx, decide_true, Bool.not_true, cond_false, cond_true, thenD_inl]
      exact ih
    · simp [hx]
theorem F.cmp_Compare_int_eq (x : Int) (y : Int)  : F.cmp_Compare_int x y = some (M.cmpI x y) := by
  unfold F.cmp_Compare_int M.cmpI
  simp only [cond_false, cond_some]
theorem F.cmp_isNaN_string_eq (x : ByteArray) (h_x : Sm Ty.str x) : F.cmp_isNaN_string x = some false := by
  unfold F.cmp_isNaN_string
  simp
theorem F.cmp_Compare_string_eq (x : ByteArray) (y : ByteArray) (h_x : Sm Ty.str x) (h_y : Sm Ty.str y) : F.cmp_Compare_string x y = some (M.cmpS x y) := by
  unfold F.cmp_Compare_string M.cmpS
  simp only [cond_false, cond_some]
theorem F.impl_Value_order_eq (v : TValue.D) (w : TValue.D) (h_v : Sm TValue v) (h_w : Sm TValue w) : F.impl_Value_order v w = some (M.order v w) := by
  unfold F.impl_Value_order
  rw [guardD_pos ⟨by simp, fun _ _ => trivial⟩]
  rfl
theorem F.impl_Compare_eq (kind : Int) (a : TValue.D) (b : TValue.D) (h_a : Sm TValue a) (h_b : Sm TValue b) : F.impl_Compare kind a b = some (M.compare kind a b) := by
  unfold F.impl_Compare M.compare M.cmpTruth
  cases hk : M.inR kind 1 4
  · rfl
  cases M.valueOk a
  · rfl
  cases M.valueOk b
  · rfl
  have h4 : decide (kind = 1) = false → decide (kind = 2) = false → decide (kind = 3) = false → decide (kind = 4) = true := by
    unfold M.inR at hk
    simp at hk ⊢
    omega
  cases decide (a.1 = (0 : Int)) <;> cases decide (b.1 = (0 : Int)) <;> cases decide (a.1 = b.1) <;> cases h1 : decide (kind = 1) <;> cases h2 : decide (kind = 2) <;> cases h3 : decide (kind = 3) <;> (try rw [h4 h1 h2 h3]) <;> cases decide (M.order a b = 0) <;> cases decide (M.order a b < 0) <;> rfl
theorem F.impl_TruthOk_eq (n : Int)  : F.impl_TruthOk n = some (M.inR n 0 2) := by
  rfl
theorem F.impl_fold_eq (a : Int) (b : Int) (alone : Int) (p0 : 0 ≤ alone ∧ alone ≤ 1) : F.impl_fold a b alone = some (M.fold a b alone) := by
  unfold F.impl_fold M.fold
  rw [wrap64_id' (n := 1 - alone) (by omega) (by omega)]
  cases M.inR a 0 2
  · rfl
  cases M.inR b 0 2
  · rfl
  cases decide (a = alone) <;> cases decide (b = alone) <;> cases decide (a = 2) <;> cases decide (b = 2) <;> rfl
theorem F.impl_AndOf_eq (a : Int) (b : Int)  : F.impl_AndOf a b = some (M.andOf a b) := by
  unfold F.impl_AndOf M.andOf
  rw [guardD_pos (by decide)]
theorem F.impl_TruthOf_eq (v : TValue.D) (h_v : Sm TValue v) : F.impl_TruthOf v = some (M.truthOf v) := by
  unfold F.impl_TruthOf M.truthOf
  cases M.valueOk v <;> simp only [Bool.not_true, Bool.not_false, cond_true, cond_false, cond_some]
theorem F.impl_OrOf_eq (a : Int) (b : Int)  : F.impl_OrOf a b = some (M.orOf a b) := by
  unfold F.impl_OrOf M.orOf
  rw [guardD_pos (by decide)]
theorem F.impl_NotOf_eq (a : Int)  : F.impl_NotOf a = some (M.notOf a) := by
  unfold F.impl_NotOf M.notOf
  simp only [cond_some]
theorem F.impl_Part_value_eq (p : TPart.D) (row : LV) (inp : LV) (h_p : Sm TPart p) (h_row : Sm (Ty.sl TValue) row) (h_inp : Sm (Ty.sl TValue) inp) (p0 : (inp.length : Int) = M.takes p) (p1 : M.colIn p row.length) (p2 : 1 ≤ p.1 ∧ p.1 ≤ 8) : F.impl_Part_value p row inp = some (M.partValue p row inp) := by
  unfold F.impl_Part_value M.partValue
  have hz : (((0 : Int), (0 : Int), (⟨#[]⟩ : ByteArray), ()) : TValue.D) = M.zeroV := rfl
  by_cases e1 : p.1 = (1 : Int)
  · simp only [e1, decide_true, cond_true]
  by_cases e2 : p.1 = (2 : Int)
  · obtain ⟨c0, c1⟩ := p1 e2
    simp only [e2, decide_true, cond_true, Int.reduceEq, decide_false, cond_false]
    rw [guardD_pos c0, guardD_pos c1]
  by_cases e3 : p.1 = (3 : Int)
  · rw [takes_two (.inl e3)] at p0
    simp only [e3, decide_true, cond_true, Int.reduceEq, decide_false, cond_false]
    repeat rw [guardD_pos (by omega)]
    generalize nth (t := TValue) inp 0 = a
    generalize nth (t := TValue) inp 1 = b
    unfold M.sum
    have hv : M.valueOk ((1 : Int), wrap64 (a.2.1 + b.2.1), (⟨#[]⟩ : ByteArray), ()) = M.inR (wrap64 (a.2.1 + b.2.1)) (-9999) 9999 := by unfold M.valueOk; simp
    rw [hv]
    cases decide (a.1 = (0 : Int)) <;> cases decide (b.1 = (0 : Int)) <;> cases M.inR (wrap64 (a.2.1 + b.2.1)) (-9999) 9999 <;> rfl
  by_cases e4 : p.1 = (4 : Int)
  · rw [takes_two (.inr (.inl e4))] at p0
    simp only [e4, decide_true, cond_true, Int.reduceEq, decide_false, cond_false, letD_eq]
    repeat rw [guardD_pos (by omega)]
  by_cases e5 : p.1 = (5 : Int)
  · rw [takes_two (.inr (.inr (.inl e5)))] at p0
    simp only [e5, decide_true, cond_true, Int.reduceEq, decide_false, cond_false, letD_eq]
    repeat rw [guardD_pos (by omega)]
  by_cases e6 : p.1 = (6 : Int)
  · rw [takes_two (.inr (.inr (.inr e6)))] at p0
    simp only [e6, decide_true, cond_true, Int.reduceEq, decide_false, cond_false, letD_eq]
    repeat rw [guardD_pos (by omega)]
  by_cases e7 : p.1 = (7 : Int)
  · rw [takes_one (.inl e7)] at p0
    simp only [e7, decide_true, cond_true, Int.reduceEq, decide_false, cond_false, letD_eq]
    repeat rw [guardD_pos (by omega)]
  · simp only [e1, e2, e3, e4, e5, e6, e7, decide_false, cond_false, letD_eq]
    have e8 : p.1 = (8 : Int) := by
      rcases kinds_8 p2 with h | h | h | h | h | h | h | h <;> first | exact h | exact absurd h (by assumption)
    rw [takes_one (.inr e8)] at p0
    rw [guardD_pos (by omega)]
theorem F.impl_exprValue_eq (row : LV) (e : LPt) (h_row : Sm (Ty.sl TValue) row) (h_e : Sm (Ty.sl TPart) e) (p0 : M.exprSafe row.length e) : F.impl_exprValue row e = some (M.exprValue row e) := by
  unfold F.impl_exprValue M.exprValue
  obtain ⟨h1, h2⟩ := run_vals (f := F.impl_exprValue_l0 row e) h_row (fun p st hp hs hl h1 hk hc => impl_val_step p st hp hs hl h1 hk hc) e [] h_e.2 (sm_nil TValue) (by simp; have := p0.1; omega) p0.2
  rw [h1, thenD_inl, guardD_pos (by omega)]
theorem F.clone_TPart_eq (xs : LPt) (h_xs : Sm (Ty.sl TPart) xs) : F.clone_TPart xs = some xs := by
  exact M.clone2_eq (t := TPart)
theorem F.impl_ExprFolded_eq (columns : LC) (e : LPt) (h_columns : Sm (Ty.sl TColumn) columns) (h_e : Sm (Ty.sl TPart) e) : F.impl_ExprFolded columns e = some (M.exprFolded columns e) := by
  unfold F.impl_ExprFolded M.exprFolded
  by_cases hk : M.exprKind columns e < 0
  · rw [decide_eq_true hk]
    rfl
  have hk' : 0 ≤ M.exprKind columns e := by omega
  have hsafe := kind_safe hk'
  rw [decide_eq_false hk, cond_false, cond_false]
  simp only [letD_eq, M.take_all]
  rw [guardD_pos hsafe.1]
  by_cases hn : (e.filter fun p : TPart.D => decide (p.1 = (2 : Int))).length = 0
  · rw [decide_eq_true (show (((e.filter fun p : TPart.D => decide (p.1 = (2 : Int))).length : Int) = 0) by omega), decide_eq_true (show (((M.exprCols e).length : Int) = 0) by have := (M.cols_none e).2 hn; omega), cond_true, cond_true, guardD_pos (show M.exprSafe ([] : List TValue.D).length e from M.safe_none hsafe hn)]
    
    cases decide ((M.exprValue [] e).1 = (0 : Int)) <;> rfl
  · rw [decide_eq_false (show ¬ (((e.filter fun p : TPart.D => decide (p.1 = (2 : Int))).length : Int) = 0) by omega), decide_eq_false (show ¬ (((M.exprCols e).length : Int) = 0) by intro h; exact hn ((M.cols_none e).1 (by omega)))]
    rfl
theorem F.laws_sameParts_eq (a : LPt) (b : LPt) (h_a : Sm (Ty.sl TPart) a) (h_b : Sm (Ty.sl TPart) b) (p0 : a = b) : F.laws_sameParts a b = some true := by
  subst p0
  unfold F.laws_sameParts
  exact M.eq_eq (fun i h0 h1 => by
    unfold F.laws_sameParts_l0
    rw [guardD_pos h1, (beq_iff (t := TPart) rfl _ _).2 rfl]
    rfl)
theorem F.spec_l1In_eq (n : Int) (low : Int) (high : Int)  : F.spec_l1In n low high = some (M.inR n low high) := by
  unfold F.spec_l1In M.inR
  cases decide (low ≤ n) <;> rfl
theorem F.spec_ColumnsOk_eq (columns : LC) (h_columns : Sm (Ty.sl TColumn) columns) : F.spec_ColumnsOk columns = some (M.columnsOk columns) := by
  unfold F.spec_ColumnsOk M.columnsOk
  rw [then_all M.columnOk () (fun x _ => by simp only [F.spec_ColumnsOk_l0, cond_notb, cond_some] <;> rfl), show decide ((columns.length : Int) ≤ 4) = decide (columns.length ≤ 4) from decide_eq_decide.2 (by omega)]
  cases columns.all M.columnOk <;> simp
theorem F.spec_l1Text_eq (s : ByteArray) (h_s : Sm Ty.str s) : F.spec_l1Text s = some (M.text s) := by
  unfold F.spec_l1Text M.text M.lower
  have key : ∀ c : Int, (cond ((decide (c < 97)) == false) (cond (decide (122 < c)) (some (Sum.inr ())) (some (Sum.inl ()))) (some (Sum.inr ())) : Option (Sum Unit Unit)) = some (cond (M.inR c 97 122) (.inl ()) (.inr ())) := by
    intro c
    unfold M.inR
    by_cases h2 : c < 97
    · simp [h2, show ¬ 97 ≤ c by omega]
    · by_cases h3 : 122 < c
      · simp [h2, h3, show 97 ≤ c by omega, show ¬ c ≤ 122 by omega]
      · simp [h2, h3, show 97 ≤ c by omega, show c ≤ 122 by omega]
  rw [then_all (fun i => M.inR (nth (t := .int .u8) (byteInts s) i) 97 122) () (fun i hi => by
    obtain ⟨h0, h1⟩ := mem_rangeI.1 hi
    simp only [F.spec_l1Text_l0, get_byteInts h0 h1]
    exact key _)]
  rw [← byteInts_length, all_range (t := .int .u8) (byteInts s) (fun n => M.inR n 97 122), show decide (((byteInts s).length : Int) ≤ 6) = decide ((byteInts s).length ≤ 6) from decide_eq_decide.2 (by omega)]
  cases (byteInts s).all fun n => M.inR n 97 122 <;> simp
theorem F.spec_ValueOk_eq (v : TValue.D) (h_v : Sm TValue v) : F.spec_ValueOk v = some (M.valueOk v) := by
  unfold F.spec_ValueOk M.valueOk
  simp only [cond_andb]
  simp only [cond_some]
theorem F.spec_l4Step_eq (columns : LC) (kinds : (List Int)) (p : TPart.D) (h_columns : Sm (Ty.sl TColumn) columns) (h_kinds : Sm (Ty.sl (Ty.int .i64)) kinds) (h_p : Sm TPart p) (p0 : kinds.length ≤ 1000) : F.spec_l4Step columns kinds p = some (M.l4Step columns kinds p) := by
  obtain ⟨o, s, e, _⟩ := spec_step_is (columns := columns) p p0 h_columns.1
  unfold M.l4Step
  rw [e]
  rfl
theorem F.spec_ExprKind_eq (columns : LC) (e : LPt) (h_columns : Sm (Ty.sl TColumn) columns) (h_e : Sm (Ty.sl TPart) e) : F.spec_ExprKind columns e = some (M.exprKind columns e) := by
  unfold F.spec_ExprKind M.exprKind
  cases M.columnsOk columns
  · rfl
  by_cases hl : e.length ≤ 12
  · rw [decide_eq_false (show ¬ (12 : Int) < (e.length : Int) by omega), decide_eq_true hl]
    obtain ⟨o, s, h1, h2⟩ := spec_kind_run (columns := columns) (E := e) (by omega) h_columns.1 e.length 0 [] (by omega) (by omega) (by simp; omega)
    rw [show (0 : Int) = ((0 : Nat) : Int) from rfl, h1]
    rw [List.drop_zero] at h2
    unfold StepIs at h2
    cases hk : M.kindRun columns e [] with
    | none =>
      rw [hk] at h2
      simp only at h2
      subst h2
      rfl
    | some s' =>
      rw [hk] at h2
      obtain ⟨rfl, rfl⟩ := h2
      match s with
      | [] => rfl
      | [a] => exact guardD_pos (by simp)
      | a :: b :: l =>
        have : ¬ ((a :: b :: l).length : Int) = 1 := by simp; omega
        simp only [Option.bind_some, this, decide_false]
        rfl
  · rw [decide_eq_true (show (12 : Int) < (e.length : Int) by omega), decide_eq_false hl]
    rfl
theorem F.spec_ExprColumns_eq (columns : LC) (e : LPt) (h_columns : Sm (Ty.sl TColumn) columns) (h_e : Sm (Ty.sl TPart) e) : F.spec_ExprColumns columns e = some (M.exprColumns columns e) := by
  unfold F.spec_ExprColumns M.exprColumns
  have hl := h_columns.1
  by_cases hk : 0 ≤ M.exprKind columns e
  · rw [decide_eq_true hk, cond_true, while_pick (fun k => e.any fun p : TPart.D => decide (p.1 = (2 : Int)) && decide (p.2.1 = k)) (columns.length : Int) (fun i s i0 i1 hs => by
      unfold F.spec_ExprColumns_l0
      simp only
      rw [decide_eq_true i1, decide_eq_true hk]
      have hf := (M.each_fold (f := F.spec_ExprColumns_l2 columns e i s) (fun v (z : TPart.D) => v || (decide (z.1 = (2 : Int)) && decide (z.2.1 = i))) (fun _ => True) (xs := e) (s := false) trivial (fun z hz v _ => ⟨by
        unfold F.spec_ExprColumns_l2
        cases v <;> cases decide (z.1 = (2 : Int)) <;> simp, trivial⟩)).1
      rw [fold_any, Bool.false_or] at hf
      simp only [show ((true : Bool) == true) = true from rfl, cond_true]
      rw [hf, thenD_inl, guardD_pos (by unfold lim; simp; omega), wrap64_id' (n := i + (1 : Int)) (by omega) (by omega)]
      cases e.any fun p : TPart.D => decide (p.1 = (2 : Int)) && decide (p.2.1 = i) <;> rfl) (fun i s i0 i1 => by
      unfold F.spec_ExprColumns_l0
      simp only
      rw [decide_eq_false (Int.not_lt.2 i1)]
      rfl)]
    rfl
  · rw [decide_eq_false hk, cond_false, whileD_step]
    unfold F.spec_ExprColumns_l0
    simp only
    rw [decide_eq_false hk]
    cases decide ((0 : Int) < (columns.length : Int)) <;> rfl
theorem F.spec_l4Sum_eq (a : TValue.D) (b : TValue.D) (h_a : Sm TValue a) (h_b : Sm TValue b) : F.spec_l4Sum a b = some (M.sum a b) := by
  unfold F.spec_l4Sum M.sum
  have e : (0 : Int) - 9999 = -9999 := rfl
  cases decide (a.1 = (0 : Int)) <;> cases decide (b.1 = (0 : Int)) <;> cases M.inR (wrap64 (a.2.1 + b.2.1)) (-9999) 9999 <;> rfl
theorem F.spec_ValueOf_eq (truth : Int)  : F.spec_ValueOf truth = some (M.valueOf truth) := by
  unfold F.spec_ValueOf M.valueOf M.inR
  by_cases h0 : truth = 0
  · subst h0; rfl
  · by_cases h1 : truth = 1
    · subst h1; rfl
    · have h2 : ¬ (0 ≤ truth ∧ truth ≤ 1) := by omega
      simp only [h0, h1, decide_false]
      by_cases h3 : 0 ≤ truth
      · have h4 : ¬ truth ≤ 1 := by omega
        simp [h3, h4]
      · simp [h3]
theorem F.spec_l2Bool_eq (b : Bool)  : F.spec_l2Bool b = some (M.bool b) := by
  unfold F.spec_l2Bool M.bool
  rw [cond_some]
theorem F.spec_l1Less_eq (a : Int) (b : Int)  : F.spec_l1Less a b = some (M.less a b) := by
  unfold F.spec_l1Less M.less
  rw [cond_some]
theorem F.spec_l1Cmp_eq (a : ByteArray) (b : ByteArray) (h_a : Sm Ty.str a) (h_b : Sm Ty.str b) : F.spec_l1Cmp a b = some (M.cmpS a b) := by
  unfold F.spec_l1Cmp M.cmpS
  simp only [cond_some]
theorem F.spec_ValueOrder_eq (a : TValue.D) (b : TValue.D) (h_a : Sm TValue a) (h_b : Sm TValue b) : F.spec_ValueOrder a b = some (M.valueOrder a b) := by
  unfold F.spec_ValueOrder M.valueOrder
  cases M.valueOk a
  · rfl
  cases M.valueOk b
  · rfl
  unfold M.order M.less M.cmpI
  by_cases h1 : a.1 = b.1
  · by_cases h2 : a.2.1 = b.2.1
    · simp [h1, h2, M.orI]
      generalize M.cmpS a.2.2.1 b.2.2.1 = c
      by_cases hc : c = 0 <;> simp [hc]
    · rcases Int.lt_or_gt_of_ne h2 with h | h
      · have h3 : ¬ b.2.1 < a.2.1 := Int.lt_asymm h
        simp [h1, h2, h, h3, M.orI]
        rfl
      · have h3 : ¬ a.2.1 < b.2.1 := Int.lt_asymm h
        simp [h1, h2, h, h3, M.orI]
        rfl
  · rcases Int.lt_or_gt_of_ne h1 with h | h
    · have h3 : ¬ b.1 < a.1 := Int.lt_asymm h
      simp [h1, h, h3, M.orI]
      rfl
    · have h3 : ¬ a.1 < b.1 := Int.lt_asymm h
      simp [h1, h, h3, M.orI]
      rfl
theorem F.spec_Compare_eq (kind : Int) (a : TValue.D) (b : TValue.D) (h_a : Sm TValue a) (h_b : Sm TValue b) : F.spec_Compare kind a b = some (M.compare kind a b) := by
  unfold F.spec_Compare M.compare M.valueOrder M.cmpTruth
  cases M.inR kind 1 4
  · rfl
  cases M.valueOk a
  · rfl
  cases M.valueOk b
  · rfl
  cases decide (a.1 = (0 : Int)) <;> cases decide (b.1 = (0 : Int)) <;> cases decide (a.1 = b.1) <;> cases decide (kind = 1) <;> cases decide (kind = 2) <;> cases decide (kind = 3) <;> rfl
theorem F.spec_TruthOk_eq (n : Int)  : F.spec_TruthOk n = some (M.inR n 0 2) := by
  rfl
theorem F.spec_l2Sure_eq (n : Int) (p0 : M.inR n 0 2 = true) : F.spec_l2Sure n = some (M.sure n) := by
  have h3 : n = 0 ∨ n = 1 ∨ n = 2 := by
    unfold M.inR at p0
    simp at p0
    omega
  rcases h3 with rfl | rfl | rfl <;> (unfold F.spec_l2Sure; (repeat rw [guardD_pos (by decide)]); rfl)
theorem F.spec_AndOf_eq (a : Int) (b : Int)  : F.spec_AndOf a b = some (M.andOf a b) := by
  unfold F.spec_AndOf M.andOf M.fold
  cases ha : M.inR a 0 2
  · rfl
  cases hb : M.inR b 0 2
  · rfl
  have h3 : ∀ n, M.inR n 0 2 = true → n = 0 ∨ n = 1 ∨ n = 2 := by
    intro n hn
    unfold M.inR at hn
    simp at hn
    omega
  rcases h3 a ha with rfl | rfl | rfl <;> rcases h3 b hb with rfl | rfl | rfl <;> (repeat rw [guardD_pos (by rfl)]) <;> rfl
theorem F.spec_TruthOf_eq (v : TValue.D) (h_v : Sm TValue v) : F.spec_TruthOf v = some (M.truthOf v) := by
  unfold F.spec_TruthOf M.truthOf
  cases hv : M.valueOk v
  · rfl
  simp only [Bool.not_true, cond_true, cond_false]
  unfold M.valueOk at hv
  by_cases h0 : v.1 = (0 : Int)
  · simp [h0]
  · by_cases h1 : v.1 = (1 : Int)
    · simp [h1]
    · by_cases h2 : v.1 = (2 : Int)
      · simp [h2]
      · by_cases h3 : v.1 = (3 : Int)
        · simp [h3]
        · simp [h0, h1, h2, h3] at hv
theorem F.spec_OrOf_eq (a : Int) (b : Int)  : F.spec_OrOf a b = some (M.orOf a b) := by
  unfold F.spec_OrOf M.orOf M.fold
  cases ha : M.inR a 0 2
  · rfl
  cases hb : M.inR b 0 2
  · rfl
  have h3 : ∀ n, M.inR n 0 2 = true → n = 0 ∨ n = 1 ∨ n = 2 := by
    intro n hn
    unfold M.inR at hn
    simp at hn
    omega
  rcases h3 a ha with rfl | rfl | rfl <;> rcases h3 b hb with rfl | rfl | rfl <;> (repeat rw [guardD_pos (by rfl)]) <;> rfl
theorem F.spec_NotOf_eq (a : Int)  : F.spec_NotOf a = some (M.notOf a) := by
  unfold F.spec_NotOf M.notOf
  cases ha : M.inR a 0 2
  · unfold M.inR at ha
    simp at ha
    have h0 : ¬ a = 0 := by omega
    have h1 : ¬ a = 1 := by omega
    have h2 : ¬ a = 2 := by omega
    simp [h0, h1, h2]
  · have h3 : a = 0 ∨ a = 1 ∨ a = 2 := by
      unfold M.inR at ha
      simp at ha
      omega
    rcases h3 with rfl | rfl | rfl <;> (repeat rw [guardD_pos (by rfl)]) <;> rfl
theorem F.spec_l4Do_eq (row : LV) (values : LV) (p : TPart.D) (h_row : Sm (Ty.sl TValue) row) (h_values : Sm (Ty.sl TValue) values) (h_p : Sm TPart p) (p0 : values.length ≤ 1000) (p1 : M.takes p ≤ (values.length : Int)) (p2 : 1 ≤ p.1 ∧ p.1 ≤ 8) (p3 : M.colIn p row.length) : F.spec_l4Do row values p = some (M.valStep row values p) := by
  exact spec_do_is p values (show Sm TPart p from h_p) h_values p0 p1 p2 p3
theorem F.spec_l4Value_eq (row : LV) (e : LPt) (h_row : Sm (Ty.sl TValue) row) (h_e : Sm (Ty.sl TPart) e) (p0 : M.exprSafe row.length e) : F.spec_l4Value row e = some (M.exprValue row e) := by
  unfold F.spec_l4Value M.exprValue
  obtain ⟨h1, h2⟩ := run_vals (f := F.spec_l4Value_l0 row e) h_row (fun p st hp hs hl h1 hk hc => spec_val_step p st hs hl h1 hk hc) e [] h_e.2 (sm_nil TValue) (by simp; have := p0.1; omega) p0.2
  rw [h1, thenD_inl, guardD_pos (by omega)]
theorem F.spec_ExprFolded_eq (columns : LC) (e : LPt) (h_columns : Sm (Ty.sl TColumn) columns) (h_e : Sm (Ty.sl TPart) e) : F.spec_ExprFolded columns e = some (M.exprFolded columns e) := by
  unfold F.spec_ExprFolded M.exprFolded
  by_cases hk : M.exprKind columns e < 0
  · rw [decide_eq_true hk]
    rfl
  have hk' : 0 ≤ M.exprKind columns e := by omega
  have hsafe := kind_safe hk'
  rw [decide_eq_false hk, cond_false, cond_false]
  simp only [letD_eq, M.take_all]
  
  by_cases hn : (e.filter fun p : TPart.D => decide (p.1 = (2 : Int))).length = 0
  · rw [decide_eq_true (show (((e.filter fun p : TPart.D => decide (p.1 = (2 : Int))).length : Int) = 0) by omega), decide_eq_true (show (((M.exprColumns columns e).length : Int) = 0) by have := (M.columns_none hk' hsafe).2 hn; omega), cond_true, cond_true, guardD_pos (show M.exprSafe ([] : List TValue.D).length e from M.safe_none hsafe hn)]
    rw [guardD_pos (by unfold lim; simp)]
    cases decide ((M.exprValue [] e).1 = (0 : Int)) <;> rfl
  · rw [decide_eq_false (show ¬ (((e.filter fun p : TPart.D => decide (p.1 = (2 : Int))).length : Int) = 0) by omega), decide_eq_false (show ¬ (((M.exprColumns columns e).length : Int) = 0) by intro h; exact hn ((M.columns_none hk' hsafe).1 (by omega)))]
    rfl
theorem F.impl_ValueOk_eq (v : TValue.D) (h_v : Sm TValue v) : F.impl_ValueOk v = some (M.valueOk v) := by
  rfl
theorem F.laws_alive_eq   : F.laws_alive  = some true := by
  unfold F.laws_alive
  rw [show M.valueOk ((1 : Int), ((3 : Int), ((⟨#[]⟩ : ByteArray), ()))) = true from rfl, show M.valueOk ((9 : Int), ((0 : Int), ((⟨#[]⟩ : ByteArray), ()))) = false from rfl]
  rfl
theorem F.impl_RowOk_1_eq (v : TValue.D) (h_v : Sm TValue v) : F.impl_RowOk_1 v = some (!M.valueOk v) := by
  rfl
theorem F.IndexFunc_impl_RowOk_1_eq (xs : LV) (h_xs : Sm (Ty.sl TValue) xs) : F.IndexFunc_impl_RowOk_1 xs = some (M.idx (t := TValue) (fun e => !M.valueOk e) xs) := by
  exact indexFunc_eq (t := TValue) (p := (fun e => !M.valueOk e)) (fun i h0 h1 => by simp only [F.IndexFunc_impl_RowOk_1_l0, cond_some])
theorem F.ContainsFunc_impl_RowOk_1_eq (xs : LV) (h_xs : Sm (Ty.sl TValue) xs) : F.ContainsFunc_impl_RowOk_1 xs = some (List.any xs (fun e => !M.valueOk e)) := by
  unfold F.ContainsFunc_impl_RowOk_1
  exact containsFunc_eq (t := TValue)
theorem F.impl_RowOk_eq (row : LV) (h_row : Sm (Ty.sl TValue) row) : F.impl_RowOk row = some (M.rowOk row) := by
  unfold F.impl_RowOk M.rowOk
  rw [cond_andb, show decide ((row.length : Int) ≤ 4) = decide (row.length ≤ 4) from decide_eq_decide.2 (by omega)]
  rw [List.all_eq_not_any_not]
theorem F.impl_RowFits_eq (columns : LC) (row : LV) (h_columns : Sm (Ty.sl TColumn) columns) (h_row : Sm (Ty.sl TValue) row) : F.impl_RowFits columns row = some (M.rowFits columns row) := by
  unfold F.impl_RowFits M.rowFits
  cases M.columnsOk columns
  · rfl
  cases M.rowOk row
  · rfl
  by_cases hl : row.length = columns.length
  · rw [then_all (M.fitsAt columns row) () (fun i hi => by
      obtain ⟨h0, h1⟩ := mem_rangeI.1 hi
      have h2 : i < (columns.length : Int) := by omega
      simp only [F.impl_RowFits_l0, guardD_pos h2]
      unfold M.fitsAt
      cases decide ((nth (t := TValue) row i).1 = (nth (t := TColumn) columns i).1) <;> cases decide ((nth (t := TValue) row i).1 = (0 : Int)) <;> cases (nth (t := TColumn) columns i).2.1 <;> rfl)]
    simp only [hl, Bool.not_true, decide_true, Bool.true_and, cond_true, cond_false]
    cases (rangeI 0 (columns.length : Int)).all (M.fitsAt columns row) <;> rfl
  · have h3 : ¬ (row.length : Int) = (columns.length : Int) := by omega
    simp [hl, h3]
theorem F.impl_ExprValue_eq (columns : LC) (row : LV) (e : LPt) (h_columns : Sm (Ty.sl TColumn) columns) (h_row : Sm (Ty.sl TValue) row) (h_e : Sm (Ty.sl TPart) e) : F.impl_ExprValue columns row e = some (M.valueOn columns row e) := by
  unfold F.impl_ExprValue M.valueOn
  by_cases hk : M.exprKind columns e < 0
  · rw [decide_eq_true hk]
    rfl
  rw [decide_eq_false hk]
  cases hf : M.rowFits columns row
  · rfl
  have hl : row.length = columns.length := by
    unfold M.rowFits at hf
    exact of_decide_eq_true (Bool.and_eq_true_iff.1 (Bool.and_eq_true_iff.1 (Bool.and_eq_true_iff.1 hf).2).2).1
  have hs := kind_safe (columns := columns) (e := e) (Int.not_lt.1 hk)
  rw [← hl] at hs
  exact guardD_pos hs
theorem F.laws_FnExprFolded_eq (code : (List Int)) (h_code : Ln (Ty.sl (Ty.int .u8)) code) (p0 : M.bytesOk code) : F.laws_FnExprFolded code = some true := by
  unfold F.laws_FnExprFolded
  by_cases hc : (1048576 : Int) < (code.length : Int)
  · rw [decide_eq_true hc]
    rfl
  rw [decide_eq_false hc, cond_false]
  have hs : Sm (.sl (.int .u8)) code := ⟨by omega, fun _ _ => trivial⟩
  rw [guardD_pos hs, letD_eq]
  obtain ⟨d0, d1, d2, d3, d4⟩ := M.DrawFoldedRow_post code hs p0
  generalize M.DrawFoldedRow code = r at *
  obtain ⟨c, row, e⟩ := r
  simp only at d0 d1 d2 d3 d4 ⊢
  have sc : Sm (.sl TColumn) c := M.sm_flat rfl d0 (by decide)
  have sr : Sm (.sl TValue) row := M.sm_vals d1 d2 (by decide)
  have se : Sm (.sl TPart) e := M.sm_parts d3 d4 (by decide)
  have sf : Sm (.sl TPart) (M.exprFolded c e) := M.folded_sm (columns := c) se (exprValue_sm (row := []) (sm_nil _) se)
  simp only [letD_eq, M.cut_all]
  rw [guardD_pos sc, guardD_pos se, guardD_pos sf, guardD_pos sf, M.guardD_true, guardD_pos sr]
  simp only [Bool.not_true, cond_false]
  by_cases hk : 0 ≤ M.exprKind c e
  · obtain ⟨l0, l1⟩ := M.folded_len hk
    obtain ⟨k0, k1⟩ := M.folded_same hk
    have hv : M.valueOn c row (M.exprFolded c e) = M.valueOn c row e := by
      unfold M.valueOn
      rw [k0, k1]
    rw [hv, k0, decide_eq_false (show ¬ ((M.exprFolded c e).length : Int) = 0 by omega), decide_eq_true (show ((M.exprFolded c e).length : Int) ≤ (e.length : Int) by omega), (beq_iff (t := TValue) rfl _ _).2 rfl, decide_eq_true rfl]
    rfl
  · have h1 := (M.kind_cases (columns := c) (e := e)).resolve_right (fun q => hk (by omega))
    rw [M.folded_none (by omega), h1]
    rfl
end Go.AE
