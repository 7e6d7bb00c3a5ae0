/- Contracts. -/
import Derived.Test.YtiplhefglgpdoaaGreatAeSeat
import Derived.Test.YtiplhefglgpdoaaGreatAeEq
namespace Go.AE
open Go Go.RowKit Go.Proofs.Tryz
set_option maxRecDepth 100000
set_option maxHeartbeats 2000000
set_option linter.unusedVariables false
@[reducible] def C39 : Ctx := cx [] 11 [] 200000 false
def T39 : Inl := inlT C39 (fun _ => []) (bodyOf f39) f39.results.toList
theorem inlOk39 : Inl1 P 39 T39 := inlR C39 func39 kN
def c41 : Con := ⟨[.any, .dat TInt], fun args hp K => hpR (fun b p => args2 (fun a0 a1 => withP a0 (withD TInt a1 fun n => (Sm (Ty.sl (Ty.int .u8)) b) ∧ (M.bytesOk b) ∧ (0 ≤ p) ∧ (p ≤ 1000000000000000) ∧ (∀ r : Int × Int, r = (M.pick b p n) → K (dI r.1) [(1000000, .box [.data (Ty.sl (Ty.int .u8)) b, dI r.2])]))) args []) hp, .plain, true⟩
@[reducible] def C41 : Ctx := cx [] 99 [] 0 false
def ann41 := an [[kp 3], [kp 3], [kp 16777219], [kp 16], [kp 35], [kp 68719476771], [kp 16], [kp 66], [kp 66], [kp 16]] []
@[reducible] def S41_0 (b : (List Int)) (p : Int) (n : Int) (K : KA) : Prop := K (dI Z0) [(1000000, .box [.data (Ty.sl (Ty.int .u8)) b, dI (wrap64 (p + Z1))])]
@[reducible] def S41_1 (b : (List Int)) (p : Int) (n : Int) (K : KA) : Prop := ((64 : Int) ≠ 0) ∧ (n ≠ 0) ∧ K (dI ((bitsK .xor .i64 (wrap64 (wrap64 (wrap64 (wrap64 ((wrap64 (nth (t := (Ty.int .u8)) b ((wrap64 (wrap64 (p + Z1) - Z1)).tmod (b.length : Int)))) * (131 : Int)) + wrap64 ((wrap64 (nth (t := (Ty.int .u8)) b ((wrap64 (wrap64 ((wrap64 (wrap64 (p + Z1) - Z1)) * (7 : Int)) + Z3)).tmod (b.length : Int)))) * (1117 : Int))) + wrap64 ((wrap64 (wrap64 (p + Z1) - Z1)) * (29 : Int))) + wrap64 ((wrap64 ((wrap64 (wrap64 (p + Z1) - Z1)).tdiv (b.length : Int))) * (53 : Int)))) (wrap64 ((wrap64 (wrap64 (wrap64 (wrap64 ((wrap64 (nth (t := (Ty.int .u8)) b ((wrap64 (wrap64 (p + Z1) - Z1)).tmod (b.length : Int)))) * (131 : Int)) + wrap64 ((wrap64 (nth (t := (Ty.int .u8)) b ((wrap64 (wrap64 ((wrap64 (wrap64 (p + Z1) - Z1)) * (7 : Int)) + Z3)).tmod (b.length : Int)))) * (1117 : Int))) + wrap64 ((wrap64 (wrap64 (p + Z1) - Z1)) * (29 : Int))) + wrap64 ((wrap64 ((wrap64 (wrap64 (p + Z1) - Z1)).tdiv (b.length : Int))) * (53 : Int)))).tdiv (64 : Int)))).tmod n)) [(1000000, .box [.data (Ty.sl (Ty.int .u8)) b, dI (wrap64 (p + Z1))])]
@[reducible] def S41_2 (b : (List Int)) (p : Int) (n : Int) (K : KA) : Prop := (S41_1 b p n K)
theorem vc41 (b : (List Int)) (p : Int) (n : Int) (K : KA) : vcT C41 noLoops ann41 f41 [.ptr 1000000 0, dI n] [(1000000, .box [.data (Ty.sl (Ty.int .u8)) b, dI p])] (.dat TInt) K =
 (cond ((decide (n < Z1)) == false) (cond (decide ((b.length : Int) = Z0)) (S41_0 b p n K) (cond (decide (wrap64 (wrap64 (p + Z1) - Z1) < (b.length : Int))) ((0 ≤ wrap64 (wrap64 (p + Z1) - Z1)) ∧ (wrap64 (wrap64 (p + Z1) - Z1) < (b.length : Int)) ∧ (n ≠ 0) ∧ K (dI ((wrap64 (nth (t := (Ty.int .u8)) b (wrap64 (wrap64 (p + Z1) - Z1)))).tmod n)) [(1000000, .box [.data (Ty.sl (Ty.int .u8)) b, dI (wrap64 (p + Z1))])]) (((b.length : Int) ≠ 0) ∧ (0 ≤ ((wrap64 (wrap64 (p + Z1) - Z1)).tmod (b.length : Int))) ∧ (((wrap64 (wrap64 (p + Z1) - Z1)).tmod (b.length : Int)) < (b.length : Int)) ∧ ((b.length : Int) ≠ 0) ∧ (0 ≤ ((wrap64 (wrap64 ((wrap64 (wrap64 (p + Z1) - Z1)) * (7 : Int)) + Z3)).tmod (b.length : Int))) ∧ (((wrap64 (wrap64 ((wrap64 (wrap64 (p + Z1) - Z1)) * (7 : Int)) + Z3)).tmod (b.length : Int)) < (b.length : Int)) ∧ ((b.length : Int) ≠ 0) ∧ (S41_2 b p n K) ∧ (S41_2 b p n K)))) (S41_0 b p n K)) := by kernel_rfl
theorem con41_ok : Con1 P 41 c41 := conR C41 func41 kN fun args hp K h0 => by
 unfold c41 at h0
 dsimp only at h0
 obtain ⟨b, p, rfl, h00⟩ := hpR_elim h0
 obtain ⟨a0, a1, rfl, _, h1⟩ := args2_elim h00
 obtain ⟨rfl, h2⟩ := withP_elim h1
 obtain ⟨n, rfl, h3⟩ := withD_elim h2
 obtain ⟨h_b, p0, p1, p2, hK⟩ := h3
 have h : ok (F.spec_pick b p n) (fun r => K (dI r.1) [(1000000, .box [.data (Ty.sl (Ty.int .u8)) b, dI r.2])]) := ok_of_eq (F.spec_pick_eq b p n h_b p0 p1 p2) (hK _ rfl)
 refine ⟨rfl, ann41, noLoops, (.dat TInt), (no_loops (by kernel_rfl)), ?_⟩
 ·rw [vc41]
  exact (oC h (fun _ h => (oC h (fun _ h => h) fun _ h => (oC h (fun _ h => (oG h fun _ h => (oG h fun _ h => (oG h fun _ h => h)))) fun _ h => (oG h fun g1 h => (oG h fun _ h => (oG h fun _ h => ⟨g1, (oG h fun _ h => (oG h fun _ h => ⟨g1, (have eg1_ : (S41_2 b p n K) := (have h := h; ⟨(by decide), (oG h fun _ h => h)⟩); ⟨eg1_, eg1_⟩)⟩))⟩)))))) fun _ h => h)
def c106 : Con := ⟨[.any, .dat TInt], fun args hp K => hpR (fun b p => args2 (fun a0 a1 => withP a0 (withD TInt a1 fun n => (Sm (Ty.sl (Ty.int .u8)) b) ∧ (M.bytesOk b) ∧ (0 ≤ p) ∧ (p ≤ 999000000000000) ∧ (∀ r : Bool × Int, r = (M.odd b p n) → K (dB r.1) [(1000000, .box [.data (Ty.sl (Ty.int .u8)) b, dI r.2])]))) args []) hp, .plain, true⟩
@[reducible] def C106 : Ctx := cx [(41, c41)] 15 [] 0 false
def ann106 := an [[kp 3], [kp 16]] []
theorem vc106 (b : (List Int)) (p : Int) (n : Int) (K : KA) : vcT C106 noLoops ann106 f106 [.ptr 1000000 0, dI n] [(1000000, .box [.data (Ty.sl (Ty.int .u8)) b, dI p])] (.dat Ty.bool) K =
 (cond ((decide (Z0 < n)) == true) ((Sm (Ty.sl (Ty.int .u8)) b) ∧ (M.bytesOk b) ∧ (0 ≤ p) ∧ (p ≤ 1000000000000000) ∧ (∀ r1 : Int × Int, r1 = (M.pick b p n) → K (dB (decide (r1.1 = wrap64 (n - Z1)))) [(1000000, .box [.data (Ty.sl (Ty.int .u8)) b, dI r1.2])])) (K (dB false) [(1000000, .box [.data (Ty.sl (Ty.int .u8)) b, dI p])])) := by kernel_rfl
theorem con106_ok : Con1 P 106 c106 := conR C106 func106 (kC con41_ok kN) fun args hp K h0 => by
 unfold c106 at h0
 dsimp only at h0
 obtain ⟨b, p, rfl, h00⟩ := hpR_elim h0
 obtain ⟨a0, a1, rfl, _, h1⟩ := args2_elim h00
 obtain ⟨rfl, h2⟩ := withP_elim h1
 obtain ⟨n, rfl, h3⟩ := withD_elim h2
 obtain ⟨h_b, p0, p1, p2, hK⟩ := h3
 have h : ok (F.spec_odd b p n) (fun r => K (dB r.1) [(1000000, .box [.data (Ty.sl (Ty.int .u8)) b, dI r.2])]) := ok_of_eq (F.spec_odd_eq b p n h_b p0 p1 p2) (hK _ rfl)
 refine ⟨rfl, ann106, noLoops, (.dat Ty.bool), (no_loops (by kernel_rfl)), ?_⟩
 ·rw [vc106]
  exact (oC h (fun _ h => ⟨h_b, ⟨p0, ⟨p1, (oG h fun _ h => (oL h fun _ _ h => h))⟩⟩⟩) fun _ h => h)
def c88 : Con := ⟨[.any, .dat TInt], fun args hp K => hpR (fun b p => args2 (fun a0 a1 => withP a0 (withD TInt a1 fun n => (Sm (Ty.sl (Ty.int .u8)) b) ∧ (M.bytesOk b) ∧ (0 ≤ p) ∧ (p ≤ 998000000000000) ∧ (∀ r : LC × Int, r = (M.l20Columns b p n) → K (.own 0 none) [(0, .arr false TColumn r.1), (1000000, .box [.data (Ty.sl (Ty.int .u8)) b, dI r.2])]))) args []) hp, .plain, true⟩
@[reducible] def C88 : Ctx := cx [(41, c41), (106, c106)] 40 [] 0 false
def ann88 := an [[kp 3], [kp 35], [kp 99], [kp 4195], [kp 99], [kp 99], [kp 536870945], [kp 32], [kp 16]] [[kp 35]]
@[reducible] def s88_0 (b : (List Int)) (p : Int) (n : Int) (v0 : Int × Int × LC) : St := ⟨[(0, .ptr 1000000 0), (1, dI n), (5, .own 7 none), (6, dI v0.1)], [(1000000, .box [.data (Ty.sl (Ty.int .u8)) b, dI v0.2.1]), (7, .arr false TColumn v0.2.2)]⟩
@[reducible] def LP88_0 (b : (List Int)) (p : Int) (n : Int) (m : Nat) (st_ : St) (K : KX) : Prop := True ∧ LoopW (s88_0 b p n) (F.spec_l20Columns_l0 b p n) (fun v0 : Int × Int × LC => True) (fun e0 : Int × LC => True → K (.exit 0) (⟨[(0, .ptr 1000000 0), (1, dI n), (5, .own 7 none)], [(1000000, .box [.data (Ty.sl (Ty.int .u8)) b, dI e0.1]), (7, .arr false TColumn e0.2)]⟩ : St)) m st_
def L88 (b : (List Int)) (p : Int) (n : Int) : Loops := lp1 0 (LP88_0 b p n)
theorem vc88 (b : (List Int)) (p : Int) (n : Int) (K : KA) : vcT C88 (L88 b p n) ann88 f88 [.ptr 1000000 0, dI n] [(1000000, .box [.data (Ty.sl (Ty.int .u8)) b, dI p])] .raw K =
 ((Sm (Ty.sl (Ty.int .u8)) b) ∧ (M.bytesOk b) ∧ (0 ≤ p) ∧ (p ≤ 1000000000000000) ∧ (∀ r1 : Int × Int, r1 = (M.pick b p Z3) → (∃ m_, True ∧ LoopW (s88_0 b p n) (F.spec_l20Columns_l0 b p n) (fun v0 : Int × Int × LC => True) (fun e0 : Int × LC => True → (Sm (Ty.sl (Ty.int .u8)) b) ∧ (M.bytesOk b) ∧ (0 ≤ e0.1) ∧ (e0.1 ≤ 999000000000000) ∧ (∀ r2 : Bool × Int, r2 = (M.odd b e0.1 n) → cond r2.1 ((Sm (Ty.sl (Ty.int .u8)) b) ∧ (M.bytesOk b) ∧ (0 ≤ r2.2) ∧ (r2.2 ≤ 1000000000000000) ∧ (∀ r3 : Int × Int, r3 = (M.pick b r2.2 Z6) → ((e0.2.length + [(wrap64 (r3.1 - Z1), (false, ())), (Z1, (false, ())), (Z1, (false, ()))].length) * 16 ≤ lim) ∧ K (.own 0 none) [(0, .arr false TColumn (e0.2 ++ [(wrap64 (r3.1 - Z1), (false, ())), (Z1, (false, ())), (Z1, (false, ()))])), (1000000, .box [.data (Ty.sl (Ty.int .u8)) b, dI r3.2])])) (K (.own 0 none) [(0, .arr false TColumn e0.2), (1000000, .box [.data (Ty.sl (Ty.int .u8)) b, dI r2.2])]))) m_ (s88_0 b p n (wrap64 (Z1 + r1.1), r1.2, []))))) := by kernel_rfl
theorem lvc88_0 (b : (List Int)) (p : Int) (n : Int)  (v0 : Int × Int × LC) (m : Nat) (K : KX) : lvT C88 (L88 b p n) ann88 f88 0 0 (s88_0 b p n v0) m K =
 (cond (decide (Z0 < v0.1)) (((Sm (Ty.sl (Ty.int .u8)) b) ∧ (M.bytesOk b) ∧ (0 ≤ v0.2.1) ∧ (v0.2.1 ≤ 1000000000000000) ∧ (∀ r4 : Int × Int, r4 = (M.pick b v0.2.1 Z4) → (0 ≤ r4.1) ∧ (r4.1 < ([Z1, Z1, Z2, Z3].length : Int)) ∧ ((Sm (Ty.sl (Ty.int .u8)) b) ∧ (M.bytesOk b) ∧ (0 ≤ r4.2) ∧ (r4.2 ≤ 1000000000000000) ∧ (∀ r5 : Int × Int, r5 = (M.pick b r4.2 Z3) → ((v0.2.2.length + [((nI [Z1, Z1, Z2, Z3] r4.1), ((decide (Z0 < r5.1)), ()))].length) * 16 ≤ lim) ∧ (nxT (LP88_0 b p n) m K (s88_0 b p n (wrap64 (v0.1 - Z1), r5.2, (v0.2.2 ++ [((nI [Z1, Z1, Z2, Z3] r4.1), ((decide (Z0 < r5.1)), ()))])))))) ∧ ((Sm (Ty.sl (Ty.int .u8)) b) ∧ (M.bytesOk b) ∧ (0 ≤ r4.2) ∧ (r4.2 ≤ 1000000000000000) ∧ (∀ r5 : Int × Int, r5 = (M.pick b r4.2 Z3) → ((v0.2.2.length + [((nI [Z1, Z1, Z2, Z3] r4.1), ((decide (Z0 < r5.1)), ()))].length) * 16 ≤ lim) ∧ (nxT (LP88_0 b p n) m K (s88_0 b p n (wrap64 (v0.1 - Z1), r5.2, (v0.2.2 ++ [((nI [Z1, Z1, Z2, Z3] r4.1), ((decide (Z0 < r5.1)), ()))])))))))) ∧ ((Sm (Ty.sl (Ty.int .u8)) b) ∧ (M.bytesOk b) ∧ (0 ≤ v0.2.1) ∧ (v0.2.1 ≤ 1000000000000000) ∧ (∀ r4 : Int × Int, r4 = (M.pick b v0.2.1 Z4) → ((0 ≤ r4.1) ∧ (r4.1 < ([Z1, Z1, Z2, Z3].length : Int)) ∧ ((Sm (Ty.sl (Ty.int .u8)) b) ∧ (M.bytesOk b) ∧ (0 ≤ r4.2) ∧ (r4.2 ≤ 1000000000000000) ∧ (∀ r5 : Int × Int, r5 = (M.pick b r4.2 Z3) → ((v0.2.2.length + [((nI [Z1, Z1, Z2, Z3] r4.1), ((decide (Z0 < r5.1)), ()))].length) * 16 ≤ lim) ∧ (nxT (LP88_0 b p n) m K (s88_0 b p n (wrap64 (v0.1 - Z1), r5.2, (v0.2.2 ++ [((nI [Z1, Z1, Z2, Z3] r4.1), ((decide (Z0 < r5.1)), ()))])))))) ∧ ((Sm (Ty.sl (Ty.int .u8)) b) ∧ (M.bytesOk b) ∧ (0 ≤ r4.2) ∧ (r4.2 ≤ 1000000000000000) ∧ (∀ r5 : Int × Int, r5 = (M.pick b r4.2 Z3) → ((v0.2.2.length + [((nI [Z1, Z1, Z2, Z3] r4.1), ((decide (Z0 < r5.1)), ()))].length) * 16 ≤ lim) ∧ (nxT (LP88_0 b p n) m K (s88_0 b p n (wrap64 (v0.1 - Z1), r5.2, (v0.2.2 ++ [((nI [Z1, Z1, Z2, Z3] r4.1), ((decide (Z0 < r5.1)), ()))]))))))) ∧ ((Sm (Ty.sl (Ty.int .u8)) b) ∧ (M.bytesOk b) ∧ (0 ≤ r4.2) ∧ (r4.2 ≤ 1000000000000000) ∧ (∀ r5 : Int × Int, r5 = (M.pick b r4.2 Z3) → (0 ≤ r4.1) ∧ (r4.1 < ([Z1, Z1, Z2, Z3].length : Int)) ∧ ((v0.2.2.length + [((nI [Z1, Z1, Z2, Z3] r4.1), ((decide (Z0 < r5.1)), ()))].length) * 16 ≤ lim) ∧ (nxT (LP88_0 b p n) m K (s88_0 b p n (wrap64 (v0.1 - Z1), r5.2, (v0.2.2 ++ [((nI [Z1, Z1, Z2, Z3] r4.1), ((decide (Z0 < r5.1)), ()))]))))))))) (K (.exit 0) (⟨[(0, .ptr 1000000 0), (1, dI n), (5, .own 7 none)], [(1000000, .box [.data (Ty.sl (Ty.int .u8)) b, dI v0.2.1]), (7, .arr false TColumn v0.2.2)]⟩ : St))) := by kernel_rfl
theorem con88_ok : Con1 P 88 c88 := conR C88 func88 (kC con41_ok (kC con106_ok kN)) fun args hp K h0 => by
 unfold c88 at h0
 dsimp only at h0
 obtain ⟨b, p, rfl, h00⟩ := hpR_elim h0
 obtain ⟨a0, a1, rfl, _, h1⟩ := args2_elim h00
 obtain ⟨rfl, h2⟩ := withP_elim h1
 obtain ⟨n, rfl, h3⟩ := withD_elim h2
 obtain ⟨h_b, p0, p1, p2, hK⟩ := h3
 have h : ok (F.spec_l20Columns b p n) (fun r => K (.own 0 none) [(0, .arr false TColumn r.1), (1000000, .box [.data (Ty.sl (Ty.int .u8)) b, dI r.2])]) := ok_of_eq (F.spec_l20Columns_eq b p n h_b p0 p1 p2) (hK _ rfl)
 refine ⟨rfl, ann88, (L88 b p n), .raw, (loopsN1 (i0 := 0) (by kernel_rfl) ?_), ?_⟩
 ·rintro _ _ K ⟨hc0, v0, rfl, hv0, h⟩
  exact cast (lvc88_0 _ _ _ _ _ _).symm (loopW_step h (fun m1 hm0 h => (oC h (fun _ h => ((fun (g2_0 : M.bytesOk b) => (fun (g2_1 : 0 ≤ v0.2.1) => (fun (g2_2 : v0.2.1 ≤ 1000000000000000) => (fun (g2_3 : 0 ≤ (M.pick b v0.2.1 Z4).1) => (fun (g2_4 : (M.pick b v0.2.1 Z4).1 < ([Z1, Z1, Z2, Z3].length : Int)) => (fun (g2_5 : 0 ≤ (M.pick b v0.2.1 Z4).2) => (fun (g2_6 : (M.pick b v0.2.1 Z4).2 ≤ 1000000000000000) => (fun (g2_7 : (v0.2.2.length + [((nI [Z1, Z1, Z2, Z3] (M.pick b v0.2.1 Z4).1), ((decide (Z0 < (M.pick b (M.pick b v0.2.1 Z4).2 Z3).1)), ()))].length) * 16 ≤ lim) => ⟨⟨h_b, ⟨g2_0, have g1 := g2_0; ⟨g2_1, have g2 := g2_1; ⟨g2_2, have g3 := g2_2; (fun r4 er4 => (have g4 : 0 ≤ r4.1 := (by rw [er4]; exact g2_3); ⟨g4, (have g5 : r4.1 < ([Z1, Z1, Z2, Z3].length : Int) := (by rw [er4]; exact g2_4); ⟨g5, ⟨⟨h_b, ⟨g1, (have g6 : 0 ≤ r4.2 := (by rw [er4]; exact g2_5); ⟨g6, (have g7 : r4.2 ≤ 1000000000000000 := (by rw [er4]; exact g2_6); ⟨g7, (fun r5 er5 => (have g8 : (v0.2.2.length + [((nI [Z1, Z1, Z2, Z3] r4.1), ((decide (Z0 < r5.1)), ()))].length) * 16 ≤ lim := (by rw [er5, er4]; exact g2_7); ⟨g8, (have h := (ok_guard (ok_let (ok_guard (ok_guard (ok_guard (ok_guard (ok_let (ok_guard (ok_guard (ok_guard h).2).2).2 r4 er4)).2).2).2).2 r5 er5)).2; (loopW_next (fun _ hm => ⟨hc0, hm⟩) hm0 _ rfl trivial h))⟩))⟩)⟩)⟩⟩, ⟨h_b, ⟨g1, (have g9 : 0 ≤ r4.2 := (by rw [er4]; exact g2_5); ⟨g9, (have g10 : r4.2 ≤ 1000000000000000 := (by rw [er4]; exact g2_6); ⟨g10, (fun r5 er5 => (have g11 : (v0.2.2.length + [((nI [Z1, Z1, Z2, Z3] r4.1), ((decide (Z0 < r5.1)), ()))].length) * 16 ≤ lim := (by rw [er5, er4]; exact g2_7); ⟨g11, (have h := (ok_guard (ok_let (ok_guard (ok_guard (ok_guard (ok_guard (ok_let (ok_guard (ok_guard (ok_guard h).2).2).2 r4 er4)).2).2).2).2 r5 er5)).2; (loopW_next (fun _ hm => ⟨hc0, hm⟩) hm0 _ rfl trivial h))⟩))⟩)⟩)⟩⟩⟩⟩)⟩))⟩⟩⟩⟩, ⟨h_b, ⟨g2_0, have g12 := g2_0; ⟨g2_1, have g13 := g2_1; ⟨g2_2, have g14 := g2_2; (fun r4 er4 => ⟨(have g15 : 0 ≤ r4.1 := (by rw [er4]; exact g2_3); ⟨g15, (have g16 : r4.1 < ([Z1, Z1, Z2, Z3].length : Int) := (by rw [er4]; exact g2_4); ⟨g16, ⟨⟨h_b, ⟨g12, (have g17 : 0 ≤ r4.2 := (by rw [er4]; exact g2_5); ⟨g17, (have g18 : r4.2 ≤ 1000000000000000 := (by rw [er4]; exact g2_6); ⟨g18, (fun r5 er5 => (have g19 : (v0.2.2.length + [((nI [Z1, Z1, Z2, Z3] r4.1), ((decide (Z0 < r5.1)), ()))].length) * 16 ≤ lim := (by rw [er5, er4]; exact g2_7); ⟨g19, (have h := (ok_guard (ok_let (ok_guard (ok_guard (ok_guard (ok_guard (ok_let (ok_guard (ok_guard (ok_guard h).2).2).2 r4 er4)).2).2).2).2 r5 er5)).2; (loopW_next (fun _ hm => ⟨hc0, hm⟩) hm0 _ rfl trivial h))⟩))⟩)⟩)⟩⟩, ⟨h_b, ⟨g12, (have g20 : 0 ≤ r4.2 := (by rw [er4]; exact g2_5); ⟨g20, (have g21 : r4.2 ≤ 1000000000000000 := (by rw [er4]; exact g2_6); ⟨g21, (fun r5 er5 => (have g22 : (v0.2.2.length + [((nI [Z1, Z1, Z2, Z3] r4.1), ((decide (Z0 < r5.1)), ()))].length) * 16 ≤ lim := (by rw [er5, er4]; exact g2_7); ⟨g22, (have h := (ok_guard (ok_let (ok_guard (ok_guard (ok_guard (ok_guard (ok_let (ok_guard (ok_guard (ok_guard h).2).2).2 r4 er4)).2).2).2).2 r5 er5)).2; (loopW_next (fun _ hm => ⟨hc0, hm⟩) hm0 _ rfl trivial h))⟩))⟩)⟩)⟩⟩⟩⟩)⟩), ⟨h_b, ⟨g12, (have g23 : 0 ≤ r4.2 := (by rw [er4]; exact g2_5); ⟨g23, (have g24 : r4.2 ≤ 1000000000000000 := (by rw [er4]; exact g2_6); ⟨g24, (fun r5 er5 => (have g25 : 0 ≤ r4.1 := (by rw [er4]; exact g2_3); ⟨g25, (have g26 : r4.1 < ([Z1, Z1, Z2, Z3].length : Int) := (by rw [er4]; exact g2_4); ⟨g26, (have g27 : (v0.2.2.length + [((nI [Z1, Z1, Z2, Z3] r4.1), ((decide (Z0 < r5.1)), ()))].length) * 16 ≤ lim := (by rw [er5, er4]; exact g2_7); ⟨g27, (have h := (ok_guard (ok_let (ok_guard (ok_guard (ok_guard (ok_guard (ok_let (ok_guard (ok_guard (ok_guard h).2).2).2 r4 er4)).2).2).2).2 r5 er5)).2; (loopW_next (fun _ hm => ⟨hc0, hm⟩) hm0 _ rfl trivial h))⟩)⟩)⟩))⟩)⟩)⟩⟩⟩)⟩⟩⟩⟩⟩) (ok_guard (ok_let (ok_guard (ok_guard (ok_guard (ok_guard (ok_let (ok_guard (ok_guard (ok_guard h).2).2).2 _ rfl)).2).2).2).2 _ rfl)).1) (ok_guard (ok_guard (ok_guard (ok_guard (ok_let (ok_guard (ok_guard (ok_guard h).2).2).2 _ rfl)).2).2).2).1) (ok_guard (ok_guard (ok_guard (ok_let (ok_guard (ok_guard (ok_guard h).2).2).2 _ rfl)).2).2).1) (ok_guard (ok_guard (ok_let (ok_guard (ok_guard (ok_guard h).2).2).2 _ rfl)).2).1) (ok_guard (ok_let (ok_guard (ok_guard (ok_guard h).2).2).2 _ rfl)).1) (ok_guard (ok_guard (ok_guard h).2).2).1) (ok_guard (ok_guard h).2).1) (ok_guard h).1)) fun _ h => ((ok_ret h :) trivial))))
 ·rw [vc88]
  exact ⟨h_b, ⟨p0, ⟨p1, (oG h fun _ h => (oL h fun _ _ h => (loopW_start (fun m hm => ⟨trivial, hm⟩) _ rfl trivial (ok_bind h (fun e0 h hv0 => ⟨h_b, ⟨p0, (oG h fun _ h => (oG h fun _ h => (oL h fun _ _ h => (oC h (fun _ h => ⟨h_b, ⟨p0, (oG h fun _ h => (oG h fun _ h => (oL h fun _ _ h => (oG h fun _ h => h))))⟩⟩) fun _ h => h))))⟩⟩)))))⟩⟩⟩
def c129 : Con := ⟨[.any, .dat TColumn], fun args hp K => hpR (fun b p => args2 (fun a0 a1 => withP a0 (withD TColumn a1 fun c => (Sm (Ty.sl (Ty.int .u8)) b) ∧ (M.bytesOk b) ∧ (0 ≤ p) ∧ (p ≤ 998000000000000) ∧ (∀ r : TValue.D × Int, r = (M.l20Like b p c) → K (.data TValue r.1) [(1000000, .box [.data (Ty.sl (Ty.int .u8)) b, dI r.2])]))) args []) hp, .plain, true⟩
@[reducible] def C129 : Ctx := cx [(41, c41)] 31 [] 0 false
def ann129 := an [[.fixRow 3 TColumn, kp 25], [kp 2073], [kp 16], [kp 16401], [kp 49169], [kp 16], [kp 1048593], [kp 16], [kp 16]] []
theorem vc129 (b : (List Int)) (p : Int) (c : TColumn.D) (K : KA) : vcT C129 noLoops ann129 f129 [.ptr 1000000 0, .data TColumn c] [(1000000, .box [.data (Ty.sl (Ty.int .u8)) b, dI p])] (.dat TValue) K =
 (cond (c.2.1 == true) ((Sm (Ty.sl (Ty.int .u8)) b) ∧ (M.bytesOk b) ∧ (0 ≤ p) ∧ (p ≤ 1000000000000000) ∧ (∀ r1 : Int × Int, r1 = (M.pick b p Z5) → cond (decide (r1.1 = Z0)) (K (.data TValue (Z0, (Z0, ((⟨#[]⟩ : ByteArray), ())))) [(1000000, .box [.data (Ty.sl (Ty.int .u8)) b, dI r1.2])]) (cond (decide (c.1 = Z1)) ((Sm (Ty.sl (Ty.int .u8)) b) ∧ (M.bytesOk b) ∧ (0 ≤ r1.2) ∧ (r1.2 ≤ 1000000000000000) ∧ (∀ r2 : Int × Int, r2 = (M.pick b r1.2 Z4) → K (.data TValue (Z1, (r2.1, ((⟨#[]⟩ : ByteArray), ())))) [(1000000, .box [.data (Ty.sl (Ty.int .u8)) b, dI r2.2])])) (cond (decide (c.1 = Z2)) ((Sm (Ty.sl (Ty.int .u8)) b) ∧ (M.bytesOk b) ∧ (0 ≤ r1.2) ∧ (r1.2 ≤ 1000000000000000) ∧ (∀ r3 : Int × Int, r3 = (M.pick b r1.2 Z4) → (0 ≤ r3.1) ∧ (r3.1 < ([(⟨#[]⟩ : ByteArray), (⟨#[97]⟩ : ByteArray), (⟨#[98]⟩ : ByteArray), (⟨#[97, 98]⟩ : ByteArray)].length : Int)) ∧ K (.data TValue (Z2, (Z0, ((nth (t := Ty.str) [(⟨#[]⟩ : ByteArray), (⟨#[97]⟩ : ByteArray), (⟨#[98]⟩ : ByteArray), (⟨#[97, 98]⟩ : ByteArray)] r3.1), ())))) [(1000000, .box [.data (Ty.sl (Ty.int .u8)) b, dI r3.2])])) ((Sm (Ty.sl (Ty.int .u8)) b) ∧ (M.bytesOk b) ∧ (0 ≤ r1.2) ∧ (r1.2 ≤ 1000000000000000) ∧ (∀ r4 : Int × Int, r4 = (M.pick b r1.2 Z2) → K (.data TValue (Z3, (r4.1, ((⟨#[]⟩ : ByteArray), ())))) [(1000000, .box [.data (Ty.sl (Ty.int .u8)) b, dI r4.2])])))))) (cond (decide (c.1 = Z1)) ((Sm (Ty.sl (Ty.int .u8)) b) ∧ (M.bytesOk b) ∧ (0 ≤ p) ∧ (p ≤ 1000000000000000) ∧ (∀ r2 : Int × Int, r2 = (M.pick b p Z4) → K (.data TValue (Z1, (r2.1, ((⟨#[]⟩ : ByteArray), ())))) [(1000000, .box [.data (Ty.sl (Ty.int .u8)) b, dI r2.2])])) (cond (decide (c.1 = Z2)) ((Sm (Ty.sl (Ty.int .u8)) b) ∧ (M.bytesOk b) ∧ (0 ≤ p) ∧ (p ≤ 1000000000000000) ∧ (∀ r3 : Int × Int, r3 = (M.pick b p Z4) → (0 ≤ r3.1) ∧ (r3.1 < ([(⟨#[]⟩ : ByteArray), (⟨#[97]⟩ : ByteArray), (⟨#[98]⟩ : ByteArray), (⟨#[97, 98]⟩ : ByteArray)].length : Int)) ∧ K (.data TValue (Z2, (Z0, ((nth (t := Ty.str) [(⟨#[]⟩ : ByteArray), (⟨#[97]⟩ : ByteArray), (⟨#[98]⟩ : ByteArray), (⟨#[97, 98]⟩ : ByteArray)] r3.1), ())))) [(1000000, .box [.data (Ty.sl (Ty.int .u8)) b, dI r3.2])])) ((Sm (Ty.sl (Ty.int .u8)) b) ∧ (M.bytesOk b) ∧ (0 ≤ p) ∧ (p ≤ 1000000000000000) ∧ (∀ r4 : Int × Int, r4 = (M.pick b p Z2) → K (.data TValue (Z3, (r4.1, ((⟨#[]⟩ : ByteArray), ())))) [(1000000, .box [.data (Ty.sl (Ty.int .u8)) b, dI r4.2])]))))) := by kernel_rfl
theorem con129_ok : Con1 P 129 c129 := conR C129 func129 (kC con41_ok kN) fun args hp K h0 => by
 unfold c129 at h0
 dsimp only at h0
 obtain ⟨b, p, rfl, h00⟩ := hpR_elim h0
 obtain ⟨a0, a1, rfl, _, h1⟩ := args2_elim h00
 obtain ⟨rfl, h2⟩ := withP_elim h1
 obtain ⟨c, rfl, h3⟩ := withD_elim h2
 obtain ⟨h_b, p0, p1, p2, hK⟩ := h3
 have h : ok (F.spec_l20Like b p c) (fun r => K (.data TValue r.1) [(1000000, .box [.data (Ty.sl (Ty.int .u8)) b, dI r.2])]) := ok_of_eq (F.spec_l20Like_eq b p c h_b p0 p1 p2) (hK _ rfl)
 refine ⟨rfl, ann129, noLoops, (.dat TValue), (no_loops (by kernel_rfl)), ?_⟩
 ·rw [vc129]
  exact (oC h (fun _ h => ⟨h_b, ⟨p0, ⟨p1, (oG h fun _ h => (oL h fun _ _ h => (oC h (fun _ h => h) fun _ h => (oC h (fun _ h => ⟨h_b, ⟨p0, (oG h fun _ h => (oG h fun _ h => (oL h fun _ _ h => h)))⟩⟩) fun _ h => (oC h (fun _ h => ⟨h_b, ⟨p0, (oG h fun _ h => (oG h fun _ h => (oL h fun _ _ h => (oG h fun _ h => (oG h fun _ h => h)))))⟩⟩) fun _ h => ⟨h_b, ⟨p0, (oG h fun _ h => (oG h fun _ h => (oL h fun _ _ h => h)))⟩⟩)))))⟩⟩⟩) fun _ h => (oC h (fun _ h => ⟨h_b, ⟨p0, ⟨p1, (oG h fun _ h => (oL h fun _ _ h => h))⟩⟩⟩) fun _ h => (oC h (fun _ h => ⟨h_b, ⟨p0, ⟨p1, (oG h fun _ h => (oL h fun _ _ h => (oG h fun _ h => (oG h fun _ h => h))))⟩⟩⟩) fun _ h => ⟨h_b, ⟨p0, ⟨p1, (oG h fun _ h => (oL h fun _ _ h => h))⟩⟩⟩)))
def c130 : Con := ⟨[.any, .dat TInt], fun args hp K => hpR (fun b p => args2 (fun a0 a1 => withP a0 (withD TInt a1 fun n => (Sm (Ty.sl (Ty.int .u8)) b) ∧ (M.bytesOk b) ∧ (0 ≤ p) ∧ (p ≤ 998000000000000) ∧ (∀ r : TValue.D × Int, r = (M.l20Value b p n) → K (.data TValue r.1) [(1000000, .box [.data (Ty.sl (Ty.int .u8)) b, dI r.2])]))) args []) hp, .plain, true⟩
@[reducible] def C130 : Ctx := cx [(41, c41), (106, c106)] 77 [] 0 false
def ann130 := an [[kp 19], [kp 51], [kp 563], [kp 51], [kp 8755], [kp 33331], [kp 33331], [kp 33331], [kp 51], [kp 33554483], [kp 51], [kp 4294967859], [kp 4294967347], [kp 51], [kp 115], [kp 549755814003], [kp 115], [kp 115], [.keep [0, 4, 5, 54]], [.keep [0, 4, 5, 56]], [kp 48], [kp 2377900603251621937], [kp 48], [kp 18518801667747479601], [kp 48], [.keep [0, 4, 5, 70]], [kp 48], [kp 16]] [[], [kp 51]]
@[reducible] def s130_1 (b : (List Int)) (p : Int) (n : Int) (v1 : Int × Int × ByteArray) : St := ⟨[(0, .ptr 1000000 0), (1, dI n), (4, .ptr 4 0), (5, .ptr 5 0), (6, dI v1.1)], [(1000000, .box [.data (Ty.sl (Ty.int .u8)) b, dI v1.2.1]), (4, .box [dI Z0, dI Z0, .data Ty.str (⟨#[]⟩ : ByteArray)]), (5, .box [dI Z2, dI Z0, .data Ty.str v1.2.2])]⟩
@[reducible] def LP130_1 (b : (List Int)) (p : Int) (n : Int) (m : Nat) (st_ : St) (K : KX) : Prop := True ∧ LoopW (s130_1 b p n) (F.spec_l20Value_l1 b p n) (fun v1 : Int × Int × ByteArray => True) (fun e1 : Int × ByteArray => True → K (.exit 1) (⟨[(0, .ptr 1000000 0), (1, dI n), (4, .ptr 4 0), (5, .ptr 5 0)], [(1000000, .box [.data (Ty.sl (Ty.int .u8)) b, dI e1.1]), (4, .box [dI Z0, dI Z0, .data Ty.str (⟨#[]⟩ : ByteArray)]), (5, .box [dI Z2, dI Z0, .data Ty.str e1.2])]⟩ : St)) m st_
def L130 (b : (List Int)) (p : Int) (n : Int) : Loops := lp1 1 (LP130_1 b p n)
theorem vc130 (b : (List Int)) (p : Int) (n : Int) (K : KA) : vcT C130 (L130 b p n) ann130 f130 [.ptr 1000000 0, dI n] [(1000000, .box [.data (Ty.sl (Ty.int .u8)) b, dI p])] (.dat TValue) K =
 ((Sm (Ty.sl (Ty.int .u8)) b) ∧ (M.bytesOk b) ∧ (0 ≤ p) ∧ (p ≤ 1000000000000000) ∧ (∀ r1 : Int × Int, r1 = (M.pick b p (7 : Int)) → cond (decide (r1.1 = Z0)) ((Sm (Ty.sl (Ty.int .u8)) b) ∧ (M.bytesOk b) ∧ (0 ≤ r1.2) ∧ (r1.2 ≤ 999000000000000) ∧ (∀ r2 : Bool × Int, r2 = (M.odd b r1.2 n) → cond r2.1 ((Sm (Ty.sl (Ty.int .u8)) b) ∧ (M.bytesOk b) ∧ (0 ≤ r2.2) ∧ (r2.2 ≤ 1000000000000000) ∧ (∀ r3 : Int × Int, r3 = (M.pick b r2.2 Z4) → cond (decide (r3.1 = Z0)) (K (.data TValue (Z0, ((10000 : Int), ((⟨#[]⟩ : ByteArray), ())))) [(1000000, .box [.data (Ty.sl (Ty.int .u8)) b, dI r3.2])]) (cond (decide (r3.1 = Z1)) (((⟨#[]⟩ : ByteArray).size + (⟨#[97, 98, 99, 100, 101, 102, 103]⟩ : ByteArray).size ≤ 9223372036854775807) ∧ K (.data TValue (Z0, (Z0, (((⟨#[]⟩ : ByteArray) ++ (⟨#[97, 98, 99, 100, 101, 102, 103]⟩ : ByteArray)), ())))) [(1000000, .box [.data (Ty.sl (Ty.int .u8)) b, dI r3.2])]) (cond (decide (r3.1 = Z2)) ((Sm (Ty.sl (Ty.int .u8)) b) ∧ (M.bytesOk b) ∧ (0 ≤ r3.2) ∧ (r3.2 ≤ 1000000000000000) ∧ (∀ r4 : Int × Int, r4 = (M.pick b r3.2 (7 : Int)) → K (.data TValue (wrap64 (r4.1 - Z1), (Z0, ((⟨#[]⟩ : ByteArray), ())))) [(1000000, .box [.data (Ty.sl (Ty.int .u8)) b, dI r4.2])])) (((⟨#[]⟩ : ByteArray).size + (⟨#[65]⟩ : ByteArray).size ≤ 9223372036854775807) ∧ K (.data TValue (Z0, (Z0, (((⟨#[]⟩ : ByteArray) ++ (⟨#[65]⟩ : ByteArray)), ())))) [(1000000, .box [.data (Ty.sl (Ty.int .u8)) b, dI r3.2])]))))) (K (.data TValue (Z0, (Z0, ((⟨#[]⟩ : ByteArray), ())))) [(1000000, .box [.data (Ty.sl (Ty.int .u8)) b, dI r2.2])]))) (cond (decide (r1.1 = Z1)) (cond (decide (r1.1 = Z1)) ((Sm (Ty.sl (Ty.int .u8)) b) ∧ (M.bytesOk b) ∧ (0 ≤ r1.2) ∧ (r1.2 ≤ 1000000000000000) ∧ (∀ r5 : Int × Int, r5 = (M.pick b r1.2 (7 : Int)) → (Sm (Ty.sl (Ty.int .u8)) b) ∧ (M.bytesOk b) ∧ (0 ≤ r5.2) ∧ (r5.2 ≤ 1000000000000000) ∧ (∀ r6 : Int × Int, r6 = (M.pick b r5.2 (8 : Int)) → cond (decide (r6.1 = Z0)) ((Sm (Ty.sl (Ty.int .u8)) b) ∧ (M.bytesOk b) ∧ (0 ≤ r6.2) ∧ (r6.2 ≤ 1000000000000000) ∧ (∀ r7 : Int × Int, r7 = (M.pick b r6.2 Z5) → (0 ≤ r7.1) ∧ (r7.1 < ([(9999 : Int), (-9999 : Int), (255 : Int), (256 : Int), (-256 : Int)].length : Int)) ∧ (Sm (Ty.sl (Ty.int .u8)) b) ∧ (M.bytesOk b) ∧ (0 ≤ r7.2) ∧ (r7.2 ≤ 999000000000000) ∧ (∀ r2 : Bool × Int, r2 = (M.odd b r7.2 n) → cond r2.1 ((Sm (Ty.sl (Ty.int .u8)) b) ∧ (M.bytesOk b) ∧ (0 ≤ r2.2) ∧ (r2.2 ≤ 1000000000000000) ∧ (∀ r3 : Int × Int, r3 = (M.pick b r2.2 Z4) → cond (decide (r3.1 = Z0)) (K (.data TValue (Z1, ((10000 : Int), ((⟨#[]⟩ : ByteArray), ())))) [(1000000, .box [.data (Ty.sl (Ty.int .u8)) b, dI r3.2])]) (cond (decide (r3.1 = Z1)) (((⟨#[]⟩ : ByteArray).size + (⟨#[97, 98, 99, 100, 101, 102, 103]⟩ : ByteArray).size ≤ 9223372036854775807) ∧ K (.data TValue (Z1, ((nI [(9999 : Int), (-9999 : Int), (255 : Int), (256 : Int), (-256 : Int)] r7.1), (((⟨#[]⟩ : ByteArray) ++ (⟨#[97, 98, 99, 100, 101, 102, 103]⟩ : ByteArray)), ())))) [(1000000, .box [.data (Ty.sl (Ty.int .u8)) b, dI r3.2])]) (cond (decide (r3.1 = Z2)) ((Sm (Ty.sl (Ty.int .u8)) b) ∧ (M.bytesOk b) ∧ (0 ≤ r3.2) ∧ (r3.2 ≤ 1000000000000000) ∧ (∀ r4 : Int × Int, r4 = (M.pick b r3.2 (7 : Int)) → K (.data TValue (wrap64 (r4.1 - Z1), ((nI [(9999 : Int), (-9999 : Int), (255 : Int), (256 : Int), (-256 : Int)] r7.1), ((⟨#[]⟩ : ByteArray), ())))) [(1000000, .box [.data (Ty.sl (Ty.int .u8)) b, dI r4.2])])) (((⟨#[]⟩ : ByteArray).size + (⟨#[65]⟩ : ByteArray).size ≤ 9223372036854775807) ∧ K (.data TValue (Z1, ((nI [(9999 : Int), (-9999 : Int), (255 : Int), (256 : Int), (-256 : Int)] r7.1), (((⟨#[]⟩ : ByteArray) ++ (⟨#[65]⟩ : ByteArray)), ())))) [(1000000, .box [.data (Ty.sl (Ty.int .u8)) b, dI r3.2])]))))) (K (.data TValue (Z1, ((nI [(9999 : Int), (-9999 : Int), (255 : Int), (256 : Int), (-256 : Int)] r7.1), ((⟨#[]⟩ : ByteArray), ())))) [(1000000, .box [.data (Ty.sl (Ty.int .u8)) b, dI r2.2])])))) ((Sm (Ty.sl (Ty.int .u8)) b) ∧ (M.bytesOk b) ∧ (0 ≤ r6.2) ∧ (r6.2 ≤ 999000000000000) ∧ (∀ r2 : Bool × Int, r2 = (M.odd b r6.2 n) → cond r2.1 ((Sm (Ty.sl (Ty.int .u8)) b) ∧ (M.bytesOk b) ∧ (0 ≤ r2.2) ∧ (r2.2 ≤ 1000000000000000) ∧ (∀ r3 : Int × Int, r3 = (M.pick b r2.2 Z4) → cond (decide (r3.1 = Z0)) (K (.data TValue (Z1, ((10000 : Int), ((⟨#[]⟩ : ByteArray), ())))) [(1000000, .box [.data (Ty.sl (Ty.int .u8)) b, dI r3.2])]) (cond (decide (r3.1 = Z1)) (((⟨#[]⟩ : ByteArray).size + (⟨#[97, 98, 99, 100, 101, 102, 103]⟩ : ByteArray).size ≤ 9223372036854775807) ∧ K (.data TValue (Z1, (wrap64 (r5.1 - Z3), (((⟨#[]⟩ : ByteArray) ++ (⟨#[97, 98, 99, 100, 101, 102, 103]⟩ : ByteArray)), ())))) [(1000000, .box [.data (Ty.sl (Ty.int .u8)) b, dI r3.2])]) (cond (decide (r3.1 = Z2)) ((Sm (Ty.sl (Ty.int .u8)) b) ∧ (M.bytesOk b) ∧ (0 ≤ r3.2) ∧ (r3.2 ≤ 1000000000000000) ∧ (∀ r4 : Int × Int, r4 = (M.pick b r3.2 (7 : Int)) → K (.data TValue (wrap64 (r4.1 - Z1), (wrap64 (r5.1 - Z3), ((⟨#[]⟩ : ByteArray), ())))) [(1000000, .box [.data (Ty.sl (Ty.int .u8)) b, dI r4.2])])) (((⟨#[]⟩ : ByteArray).size + (⟨#[65]⟩ : ByteArray).size ≤ 9223372036854775807) ∧ K (.data TValue (Z1, (wrap64 (r5.1 - Z3), (((⟨#[]⟩ : ByteArray) ++ (⟨#[65]⟩ : ByteArray)), ())))) [(1000000, .box [.data (Ty.sl (Ty.int .u8)) b, dI r3.2])]))))) (K (.data TValue (Z1, (wrap64 (r5.1 - Z3), ((⟨#[]⟩ : ByteArray), ())))) [(1000000, .box [.data (Ty.sl (Ty.int .u8)) b, dI r2.2])])))))) (cond (decide (r1.1 = Z4)) (cond (decide (r1.1 = Z4)) ((Sm (Ty.sl (Ty.int .u8)) b) ∧ (M.bytesOk b) ∧ (0 ≤ r1.2) ∧ (r1.2 ≤ 1000000000000000) ∧ (∀ r8 : Int × Int, r8 = (M.pick b r1.2 Z4) → (∃ m_, True ∧ LoopW (s130_1 b p n) (F.spec_l20Value_l1 b p n) (fun v1 : Int × Int × ByteArray => True) (fun e1 : Int × ByteArray => True → (Sm (Ty.sl (Ty.int .u8)) b) ∧ (M.bytesOk b) ∧ (0 ≤ e1.1) ∧ (e1.1 ≤ 999000000000000) ∧ (∀ r2 : Bool × Int, r2 = (M.odd b e1.1 n) → cond r2.1 ((Sm (Ty.sl (Ty.int .u8)) b) ∧ (M.bytesOk b) ∧ (0 ≤ r2.2) ∧ (r2.2 ≤ 1000000000000000) ∧ (∀ r3 : Int × Int, r3 = (M.pick b r2.2 Z4) → cond (decide (r3.1 = Z0)) (K (.data TValue (Z2, ((10000 : Int), (e1.2, ())))) [(1000000, .box [.data (Ty.sl (Ty.int .u8)) b, dI r3.2])]) (cond (decide (r3.1 = Z1)) ((e1.2.size + (⟨#[97, 98, 99, 100, 101, 102, 103]⟩ : ByteArray).size ≤ 9223372036854775807) ∧ K (.data TValue (Z2, (Z0, ((e1.2 ++ (⟨#[97, 98, 99, 100, 101, 102, 103]⟩ : ByteArray)), ())))) [(1000000, .box [.data (Ty.sl (Ty.int .u8)) b, dI r3.2])]) (cond (decide (r3.1 = Z2)) ((Sm (Ty.sl (Ty.int .u8)) b) ∧ (M.bytesOk b) ∧ (0 ≤ r3.2) ∧ (r3.2 ≤ 1000000000000000) ∧ (∀ r4 : Int × Int, r4 = (M.pick b r3.2 (7 : Int)) → K (.data TValue (wrap64 (r4.1 - Z1), (Z0, (e1.2, ())))) [(1000000, .box [.data (Ty.sl (Ty.int .u8)) b, dI r4.2])])) ((e1.2.size + (⟨#[65]⟩ : ByteArray).size ≤ 9223372036854775807) ∧ K (.data TValue (Z2, (Z0, ((e1.2 ++ (⟨#[65]⟩ : ByteArray)), ())))) [(1000000, .box [.data (Ty.sl (Ty.int .u8)) b, dI r3.2])]))))) (K (.data TValue (Z2, (Z0, (e1.2, ())))) [(1000000, .box [.data (Ty.sl (Ty.int .u8)) b, dI r2.2])]))) m_ (s130_1 b p n (r8.1, r8.2, (⟨#[]⟩ : ByteArray)))))) ((Sm (Ty.sl (Ty.int .u8)) b) ∧ (M.bytesOk b) ∧ (0 ≤ r1.2) ∧ (r1.2 ≤ 1000000000000000) ∧ (∀ r9 : Int × Int, r9 = (M.pick b r1.2 Z2) → (Sm (Ty.sl (Ty.int .u8)) b) ∧ (M.bytesOk b) ∧ (0 ≤ r9.2) ∧ (r9.2 ≤ 999000000000000) ∧ (∀ r2 : Bool × Int, r2 = (M.odd b r9.2 n) → cond r2.1 ((Sm (Ty.sl (Ty.int .u8)) b) ∧ (M.bytesOk b) ∧ (0 ≤ r2.2) ∧ (r2.2 ≤ 1000000000000000) ∧ (∀ r3 : Int × Int, r3 = (M.pick b r2.2 Z4) → cond (decide (r3.1 = Z0)) (K (.data TValue (Z3, ((10000 : Int), ((⟨#[]⟩ : ByteArray), ())))) [(1000000, .box [.data (Ty.sl (Ty.int .u8)) b, dI r3.2])]) (cond (decide (r3.1 = Z1)) (((⟨#[]⟩ : ByteArray).size + (⟨#[97, 98, 99, 100, 101, 102, 103]⟩ : ByteArray).size ≤ 9223372036854775807) ∧ K (.data TValue (Z3, (r9.1, (((⟨#[]⟩ : ByteArray) ++ (⟨#[97, 98, 99, 100, 101, 102, 103]⟩ : ByteArray)), ())))) [(1000000, .box [.data (Ty.sl (Ty.int .u8)) b, dI r3.2])]) (cond (decide (r3.1 = Z2)) ((Sm (Ty.sl (Ty.int .u8)) b) ∧ (M.bytesOk b) ∧ (0 ≤ r3.2) ∧ (r3.2 ≤ 1000000000000000) ∧ (∀ r4 : Int × Int, r4 = (M.pick b r3.2 (7 : Int)) → K (.data TValue (wrap64 (r4.1 - Z1), (r9.1, ((⟨#[]⟩ : ByteArray), ())))) [(1000000, .box [.data (Ty.sl (Ty.int .u8)) b, dI r4.2])])) (((⟨#[]⟩ : ByteArray).size + (⟨#[65]⟩ : ByteArray).size ≤ 9223372036854775807) ∧ K (.data TValue (Z3, (r9.1, (((⟨#[]⟩ : ByteArray) ++ (⟨#[65]⟩ : ByteArray)), ())))) [(1000000, .box [.data (Ty.sl (Ty.int .u8)) b, dI r3.2])]))))) (K (.data TValue (Z3, (r9.1, ((⟨#[]⟩ : ByteArray), ())))) [(1000000, .box [.data (Ty.sl (Ty.int .u8)) b, dI r2.2])]))))) (cond (decide (r1.1 = Z5)) ((Sm (Ty.sl (Ty.int .u8)) b) ∧ (M.bytesOk b) ∧ (0 ≤ r1.2) ∧ (r1.2 ≤ 1000000000000000) ∧ (∀ r8 : Int × Int, r8 = (M.pick b r1.2 Z4) → (∃ m_, True ∧ LoopW (s130_1 b p n) (F.spec_l20Value_l1 b p n) (fun v1 : Int × Int × ByteArray => True) (fun e1 : Int × ByteArray => True → (Sm (Ty.sl (Ty.int .u8)) b) ∧ (M.bytesOk b) ∧ (0 ≤ e1.1) ∧ (e1.1 ≤ 999000000000000) ∧ (∀ r2 : Bool × Int, r2 = (M.odd b e1.1 n) → cond r2.1 ((Sm (Ty.sl (Ty.int .u8)) b) ∧ (M.bytesOk b) ∧ (0 ≤ r2.2) ∧ (r2.2 ≤ 1000000000000000) ∧ (∀ r3 : Int × Int, r3 = (M.pick b r2.2 Z4) → cond (decide (r3.1 = Z0)) (K (.data TValue (Z2, ((10000 : Int), (e1.2, ())))) [(1000000, .box [.data (Ty.sl (Ty.int .u8)) b, dI r3.2])]) (cond (decide (r3.1 = Z1)) ((e1.2.size + (⟨#[97, 98, 99, 100, 101, 102, 103]⟩ : ByteArray).size ≤ 9223372036854775807) ∧ K (.data TValue (Z2, (Z0, ((e1.2 ++ (⟨#[97, 98, 99, 100, 101, 102, 103]⟩ : ByteArray)), ())))) [(1000000, .box [.data (Ty.sl (Ty.int .u8)) b, dI r3.2])]) (cond (decide (r3.1 = Z2)) ((Sm (Ty.sl (Ty.int .u8)) b) ∧ (M.bytesOk b) ∧ (0 ≤ r3.2) ∧ (r3.2 ≤ 1000000000000000) ∧ (∀ r4 : Int × Int, r4 = (M.pick b r3.2 (7 : Int)) → K (.data TValue (wrap64 (r4.1 - Z1), (Z0, (e1.2, ())))) [(1000000, .box [.data (Ty.sl (Ty.int .u8)) b, dI r4.2])])) ((e1.2.size + (⟨#[65]⟩ : ByteArray).size ≤ 9223372036854775807) ∧ K (.data TValue (Z2, (Z0, ((e1.2 ++ (⟨#[65]⟩ : ByteArray)), ())))) [(1000000, .box [.data (Ty.sl (Ty.int .u8)) b, dI r3.2])]))))) (K (.data TValue (Z2, (Z0, (e1.2, ())))) [(1000000, .box [.data (Ty.sl (Ty.int .u8)) b, dI r2.2])]))) m_ (s130_1 b p n (r8.1, r8.2, (⟨#[]⟩ : ByteArray)))))) ((Sm (Ty.sl (Ty.int .u8)) b) ∧ (M.bytesOk b) ∧ (0 ≤ r1.2) ∧ (r1.2 ≤ 1000000000000000) ∧ (∀ r9 : Int × Int, r9 = (M.pick b r1.2 Z2) → (Sm (Ty.sl (Ty.int .u8)) b) ∧ (M.bytesOk b) ∧ (0 ≤ r9.2) ∧ (r9.2 ≤ 999000000000000) ∧ (∀ r2 : Bool × Int, r2 = (M.odd b r9.2 n) → cond r2.1 ((Sm (Ty.sl (Ty.int .u8)) b) ∧ (M.bytesOk b) ∧ (0 ≤ r2.2) ∧ (r2.2 ≤ 1000000000000000) ∧ (∀ r3 : Int × Int, r3 = (M.pick b r2.2 Z4) → cond (decide (r3.1 = Z0)) (K (.data TValue (Z3, ((10000 : Int), ((⟨#[]⟩ : ByteArray), ())))) [(1000000, .box [.data (Ty.sl (Ty.int .u8)) b, dI r3.2])]) (cond (decide (r3.1 = Z1)) (((⟨#[]⟩ : ByteArray).size + (⟨#[97, 98, 99, 100, 101, 102, 103]⟩ : ByteArray).size ≤ 9223372036854775807) ∧ K (.data TValue (Z3, (r9.1, (((⟨#[]⟩ : ByteArray) ++ (⟨#[97, 98, 99, 100, 101, 102, 103]⟩ : ByteArray)), ())))) [(1000000, .box [.data (Ty.sl (Ty.int .u8)) b, dI r3.2])]) (cond (decide (r3.1 = Z2)) ((Sm (Ty.sl (Ty.int .u8)) b) ∧ (M.bytesOk b) ∧ (0 ≤ r3.2) ∧ (r3.2 ≤ 1000000000000000) ∧ (∀ r4 : Int × Int, r4 = (M.pick b r3.2 (7 : Int)) → K (.data TValue (wrap64 (r4.1 - Z1), (r9.1, ((⟨#[]⟩ : ByteArray), ())))) [(1000000, .box [.data (Ty.sl (Ty.int .u8)) b, dI r4.2])])) (((⟨#[]⟩ : ByteArray).size + (⟨#[65]⟩ : ByteArray).size ≤ 9223372036854775807) ∧ K (.data TValue (Z3, (r9.1, (((⟨#[]⟩ : ByteArray) ++ (⟨#[65]⟩ : ByteArray)), ())))) [(1000000, .box [.data (Ty.sl (Ty.int .u8)) b, dI r3.2])]))))) (K (.data TValue (Z3, (r9.1, ((⟨#[]⟩ : ByteArray), ())))) [(1000000, .box [.data (Ty.sl (Ty.int .u8)) b, dI r2.2])]))))))) (cond (decide (r1.1 = Z2)) (cond (decide (r1.1 = Z2)) ((Sm (Ty.sl (Ty.int .u8)) b) ∧ (M.bytesOk b) ∧ (0 ≤ r1.2) ∧ (r1.2 ≤ 1000000000000000) ∧ (∀ r5 : Int × Int, r5 = (M.pick b r1.2 (7 : Int)) → (Sm (Ty.sl (Ty.int .u8)) b) ∧ (M.bytesOk b) ∧ (0 ≤ r5.2) ∧ (r5.2 ≤ 1000000000000000) ∧ (∀ r6 : Int × Int, r6 = (M.pick b r5.2 (8 : Int)) → cond (decide (r6.1 = Z0)) ((Sm (Ty.sl (Ty.int .u8)) b) ∧ (M.bytesOk b) ∧ (0 ≤ r6.2) ∧ (r6.2 ≤ 1000000000000000) ∧ (∀ r7 : Int × Int, r7 = (M.pick b r6.2 Z5) → (0 ≤ r7.1) ∧ (r7.1 < ([(9999 : Int), (-9999 : Int), (255 : Int), (256 : Int), (-256 : Int)].length : Int)) ∧ (Sm (Ty.sl (Ty.int .u8)) b) ∧ (M.bytesOk b) ∧ (0 ≤ r7.2) ∧ (r7.2 ≤ 999000000000000) ∧ (∀ r2 : Bool × Int, r2 = (M.odd b r7.2 n) → cond r2.1 ((Sm (Ty.sl (Ty.int .u8)) b) ∧ (M.bytesOk b) ∧ (0 ≤ r2.2) ∧ (r2.2 ≤ 1000000000000000) ∧ (∀ r3 : Int × Int, r3 = (M.pick b r2.2 Z4) → cond (decide (r3.1 = Z0)) (K (.data TValue (Z1, ((10000 : Int), ((⟨#[]⟩ : ByteArray), ())))) [(1000000, .box [.data (Ty.sl (Ty.int .u8)) b, dI r3.2])]) (cond (decide (r3.1 = Z1)) (((⟨#[]⟩ : ByteArray).size + (⟨#[97, 98, 99, 100, 101, 102, 103]⟩ : ByteArray).size ≤ 9223372036854775807) ∧ K (.data TValue (Z1, ((nI [(9999 : Int), (-9999 : Int), (255 : Int), (256 : Int), (-256 : Int)] r7.1), (((⟨#[]⟩ : ByteArray) ++ (⟨#[97, 98, 99, 100, 101, 102, 103]⟩ : ByteArray)), ())))) [(1000000, .box [.data (Ty.sl (Ty.int .u8)) b, dI r3.2])]) (cond (decide (r3.1 = Z2)) ((Sm (Ty.sl (Ty.int .u8)) b) ∧ (M.bytesOk b) ∧ (0 ≤ r3.2) ∧ (r3.2 ≤ 1000000000000000) ∧ (∀ r4 : Int × Int, r4 = (M.pick b r3.2 (7 : Int)) → K (.data TValue (wrap64 (r4.1 - Z1), ((nI [(9999 : Int), (-9999 : Int), (255 : Int), (256 : Int), (-256 : Int)] r7.1), ((⟨#[]⟩ : ByteArray), ())))) [(1000000, .box [.data (Ty.sl (Ty.int .u8)) b, dI r4.2])])) (((⟨#[]⟩ : ByteArray).size + (⟨#[65]⟩ : ByteArray).size ≤ 9223372036854775807) ∧ K (.data TValue (Z1, ((nI [(9999 : Int), (-9999 : Int), (255 : Int), (256 : Int), (-256 : Int)] r7.1), (((⟨#[]⟩ : ByteArray) ++ (⟨#[65]⟩ : ByteArray)), ())))) [(1000000, .box [.data (Ty.sl (Ty.int .u8)) b, dI r3.2])]))))) (K (.data TValue (Z1, ((nI [(9999 : Int), (-9999 : Int), (255 : Int), (256 : Int), (-256 : Int)] r7.1), ((⟨#[]⟩ : ByteArray), ())))) [(1000000, .box [.data (Ty.sl (Ty.int .u8)) b, dI r2.2])])))) ((Sm (Ty.sl (Ty.int .u8)) b) ∧ (M.bytesOk b) ∧ (0 ≤ r6.2) ∧ (r6.2 ≤ 999000000000000) ∧ (∀ r2 : Bool × Int, r2 = (M.odd b r6.2 n) → cond r2.1 ((Sm (Ty.sl (Ty.int .u8)) b) ∧ (M.bytesOk b) ∧ (0 ≤ r2.2) ∧ (r2.2 ≤ 1000000000000000) ∧ (∀ r3 : Int × Int, r3 = (M.pick b r2.2 Z4) → cond (decide (r3.1 = Z0)) (K (.data TValue (Z1, ((10000 : Int), ((⟨#[]⟩ : ByteArray), ())))) [(1000000, .box [.data (Ty.sl (Ty.int .u8)) b, dI r3.2])]) (cond (decide (r3.1 = Z1)) (((⟨#[]⟩ : ByteArray).size + (⟨#[97, 98, 99, 100, 101, 102, 103]⟩ : ByteArray).size ≤ 9223372036854775807) ∧ K (.data TValue (Z1, (wrap64 (r5.1 - Z3), (((⟨#[]⟩ : ByteArray) ++ (⟨#[97, 98, 99, 100, 101, 102, 103]⟩ : ByteArray)), ())))) [(1000000, .box [.data (Ty.sl (Ty.int .u8)) b, dI r3.2])]) (cond (decide (r3.1 = Z2)) ((Sm (Ty.sl (Ty.int .u8)) b) ∧ (M.bytesOk b) ∧ (0 ≤ r3.2) ∧ (r3.2 ≤ 1000000000000000) ∧ (∀ r4 : Int × Int, r4 = (M.pick b r3.2 (7 : Int)) → K (.data TValue (wrap64 (r4.1 - Z1), (wrap64 (r5.1 - Z3), ((⟨#[]⟩ : ByteArray), ())))) [(1000000, .box [.data (Ty.sl (Ty.int .u8)) b, dI r4.2])])) (((⟨#[]⟩ : ByteArray).size + (⟨#[65]⟩ : ByteArray).size ≤ 9223372036854775807) ∧ K (.data TValue (Z1, (wrap64 (r5.1 - Z3), (((⟨#[]⟩ : ByteArray) ++ (⟨#[65]⟩ : ByteArray)), ())))) [(1000000, .box [.data (Ty.sl (Ty.int .u8)) b, dI r3.2])]))))) (K (.data TValue (Z1, (wrap64 (r5.1 - Z3), ((⟨#[]⟩ : ByteArray), ())))) [(1000000, .box [.data (Ty.sl (Ty.int .u8)) b, dI r2.2])])))))) (cond (decide (r1.1 = Z4)) (cond (decide (r1.1 = Z4)) ((Sm (Ty.sl (Ty.int .u8)) b) ∧ (M.bytesOk b) ∧ (0 ≤ r1.2) ∧ (r1.2 ≤ 1000000000000000) ∧ (∀ r8 : Int × Int, r8 = (M.pick b r1.2 Z4) → (∃ m_, True ∧ LoopW (s130_1 b p n) (F.spec_l20Value_l1 b p n) (fun v1 : Int × Int × ByteArray => True) (fun e1 : Int × ByteArray => True → (Sm (Ty.sl (Ty.int .u8)) b) ∧ (M.bytesOk b) ∧ (0 ≤ e1.1) ∧ (e1.1 ≤ 999000000000000) ∧ (∀ r2 : Bool × Int, r2 = (M.odd b e1.1 n) → cond r2.1 ((Sm (Ty.sl (Ty.int .u8)) b) ∧ (M.bytesOk b) ∧ (0 ≤ r2.2) ∧ (r2.2 ≤ 1000000000000000) ∧ (∀ r3 : Int × Int, r3 = (M.pick b r2.2 Z4) → cond (decide (r3.1 = Z0)) (K (.data TValue (Z2, ((10000 : Int), (e1.2, ())))) [(1000000, .box [.data (Ty.sl (Ty.int .u8)) b, dI r3.2])]) (cond (decide (r3.1 = Z1)) ((e1.2.size + (⟨#[97, 98, 99, 100, 101, 102, 103]⟩ : ByteArray).size ≤ 9223372036854775807) ∧ K (.data TValue (Z2, (Z0, ((e1.2 ++ (⟨#[97, 98, 99, 100, 101, 102, 103]⟩ : ByteArray)), ())))) [(1000000, .box [.data (Ty.sl (Ty.int .u8)) b, dI r3.2])]) (cond (decide (r3.1 = Z2)) ((Sm (Ty.sl (Ty.int .u8)) b) ∧ (M.bytesOk b) ∧ (0 ≤ r3.2) ∧ (r3.2 ≤ 1000000000000000) ∧ (∀ r4 : Int × Int, r4 = (M.pick b r3.2 (7 : Int)) → K (.data TValue (wrap64 (r4.1 - Z1), (Z0, (e1.2, ())))) [(1000000, .box [.data (Ty.sl (Ty.int .u8)) b, dI r4.2])])) ((e1.2.size + (⟨#[65]⟩ : ByteArray).size ≤ 9223372036854775807) ∧ K (.data TValue (Z2, (Z0, ((e1.2 ++ (⟨#[65]⟩ : ByteArray)), ())))) [(1000000, .box [.data (Ty.sl (Ty.int .u8)) b, dI r3.2])]))))) (K (.data TValue (Z2, (Z0, (e1.2, ())))) [(1000000, .box [.data (Ty.sl (Ty.int .u8)) b, dI r2.2])]))) m_ (s130_1 b p n (r8.1, r8.2, (⟨#[]⟩ : ByteArray)))))) ((Sm (Ty.sl (Ty.int .u8)) b) ∧ (M.bytesOk b) ∧ (0 ≤ r1.2) ∧ (r1.2 ≤ 1000000000000000) ∧ (∀ r9 : Int × Int, r9 = (M.pick b r1.2 Z2) → (Sm (Ty.sl (Ty.int .u8)) b) ∧ (M.bytesOk b) ∧ (0 ≤ r9.2) ∧ (r9.2 ≤ 999000000000000) ∧ (∀ r2 : Bool × Int, r2 = (M.odd b r9.2 n) → cond r2.1 ((Sm (Ty.sl (Ty.int .u8)) b) ∧ (M.bytesOk b) ∧ (0 ≤ r2.2) ∧ (r2.2 ≤ 1000000000000000) ∧ (∀ r3 : Int × Int, r3 = (M.pick b r2.2 Z4) → cond (decide (r3.1 = Z0)) (K (.data TValue (Z3, ((10000 : Int), ((⟨#[]⟩ : ByteArray), ())))) [(1000000, .box [.data (Ty.sl (Ty.int .u8)) b, dI r3.2])]) (cond (decide (r3.1 = Z1)) (((⟨#[]⟩ : ByteArray).size + (⟨#[97, 98, 99, 100, 101, 102, 103]⟩ : ByteArray).size ≤ 9223372036854775807) ∧ K (.data TValue (Z3, (r9.1, (((⟨#[]⟩ : ByteArray) ++ (⟨#[97, 98, 99, 100, 101, 102, 103]⟩ : ByteArray)), ())))) [(1000000, .box [.data (Ty.sl (Ty.int .u8)) b, dI r3.2])]) (cond (decide (r3.1 = Z2)) ((Sm (Ty.sl (Ty.int .u8)) b) ∧ (M.bytesOk b) ∧ (0 ≤ r3.2) ∧ (r3.2 ≤ 1000000000000000) ∧ (∀ r4 : Int × Int, r4 = (M.pick b r3.2 (7 : Int)) → K (.data TValue (wrap64 (r4.1 - Z1), (r9.1, ((⟨#[]⟩ : ByteArray), ())))) [(1000000, .box [.data (Ty.sl (Ty.int .u8)) b, dI r4.2])])) (((⟨#[]⟩ : ByteArray).size + (⟨#[65]⟩ : ByteArray).size ≤ 9223372036854775807) ∧ K (.data TValue (Z3, (r9.1, (((⟨#[]⟩ : ByteArray) ++ (⟨#[65]⟩ : ByteArray)), ())))) [(1000000, .box [.data (Ty.sl (Ty.int .u8)) b, dI r3.2])]))))) (K (.data TValue (Z3, (r9.1, ((⟨#[]⟩ : ByteArray), ())))) [(1000000, .box [.data (Ty.sl (Ty.int .u8)) b, dI r2.2])]))))) (cond (decide (r1.1 = Z5)) ((Sm (Ty.sl (Ty.int .u8)) b) ∧ (M.bytesOk b) ∧ (0 ≤ r1.2) ∧ (r1.2 ≤ 1000000000000000) ∧ (∀ r8 : Int × Int, r8 = (M.pick b r1.2 Z4) → (∃ m_, True ∧ LoopW (s130_1 b p n) (F.spec_l20Value_l1 b p n) (fun v1 : Int × Int × ByteArray => True) (fun e1 : Int × ByteArray => True → (Sm (Ty.sl (Ty.int .u8)) b) ∧ (M.bytesOk b) ∧ (0 ≤ e1.1) ∧ (e1.1 ≤ 999000000000000) ∧ (∀ r2 : Bool × Int, r2 = (M.odd b e1.1 n) → cond r2.1 ((Sm (Ty.sl (Ty.int .u8)) b) ∧ (M.bytesOk b) ∧ (0 ≤ r2.2) ∧ (r2.2 ≤ 1000000000000000) ∧ (∀ r3 : Int × Int, r3 = (M.pick b r2.2 Z4) → cond (decide (r3.1 = Z0)) (K (.data TValue (Z2, ((10000 : Int), (e1.2, ())))) [(1000000, .box [.data (Ty.sl (Ty.int .u8)) b, dI r3.2])]) (cond (decide (r3.1 = Z1)) ((e1.2.size + (⟨#[97, 98, 99, 100, 101, 102, 103]⟩ : ByteArray).size ≤ 9223372036854775807) ∧ K (.data TValue (Z2, (Z0, ((e1.2 ++ (⟨#[97, 98, 99, 100, 101, 102, 103]⟩ : ByteArray)), ())))) [(1000000, .box [.data (Ty.sl (Ty.int .u8)) b, dI r3.2])]) (cond (decide (r3.1 = Z2)) ((Sm (Ty.sl (Ty.int .u8)) b) ∧ (M.bytesOk b) ∧ (0 ≤ r3.2) ∧ (r3.2 ≤ 1000000000000000) ∧ (∀ r4 : Int × Int, r4 = (M.pick b r3.2 (7 : Int)) → K (.data TValue (wrap64 (r4.1 - Z1), (Z0, (e1.2, ())))) [(1000000, .box [.data (Ty.sl (Ty.int .u8)) b, dI r4.2])])) ((e1.2.size + (⟨#[65]⟩ : ByteArray).size ≤ 9223372036854775807) ∧ K (.data TValue (Z2, (Z0, ((e1.2 ++ (⟨#[65]⟩ : ByteArray)), ())))) [(1000000, .box [.data (Ty.sl (Ty.int .u8)) b, dI r3.2])]))))) (K (.data TValue (Z2, (Z0, (e1.2, ())))) [(1000000, .box [.data (Ty.sl (Ty.int .u8)) b, dI r2.2])]))) m_ (s130_1 b p n (r8.1, r8.2, (⟨#[]⟩ : ByteArray)))))) ((Sm (Ty.sl (Ty.int .u8)) b) ∧ (M.bytesOk b) ∧ (0 ≤ r1.2) ∧ (r1.2 ≤ 1000000000000000) ∧ (∀ r9 : Int × Int, r9 = (M.pick b r1.2 Z2) → (Sm (Ty.sl (Ty.int .u8)) b) ∧ (M.bytesOk b) ∧ (0 ≤ r9.2) ∧ (r9.2 ≤ 999000000000000) ∧ (∀ r2 : Bool × Int, r2 = (M.odd b r9.2 n) → cond r2.1 ((Sm (Ty.sl (Ty.int .u8)) b) ∧ (M.bytesOk b) ∧ (0 ≤ r2.2) ∧ (r2.2 ≤ 1000000000000000) ∧ (∀ r3 : Int × Int, r3 = (M.pick b r2.2 Z4) → cond (decide (r3.1 = Z0)) (K (.data TValue (Z3, ((10000 : Int), ((⟨#[]⟩ : ByteArray), ())))) [(1000000, .box [.data (Ty.sl (Ty.int .u8)) b, dI r3.2])]) (cond (decide (r3.1 = Z1)) (((⟨#[]⟩ : ByteArray).size + (⟨#[97, 98, 99, 100, 101, 102, 103]⟩ : ByteArray).size ≤ 9223372036854775807) ∧ K (.data TValue (Z3, (r9.1, (((⟨#[]⟩ : ByteArray) ++ (⟨#[97, 98, 99, 100, 101, 102, 103]⟩ : ByteArray)), ())))) [(1000000, .box [.data (Ty.sl (Ty.int .u8)) b, dI r3.2])]) (cond (decide (r3.1 = Z2)) ((Sm (Ty.sl (Ty.int .u8)) b) ∧ (M.bytesOk b) ∧ (0 ≤ r3.2) ∧ (r3.2 ≤ 1000000000000000) ∧ (∀ r4 : Int × Int, r4 = (M.pick b r3.2 (7 : Int)) → K (.data TValue (wrap64 (r4.1 - Z1), (r9.1, ((⟨#[]⟩ : ByteArray), ())))) [(1000000, .box [.data (Ty.sl (Ty.int .u8)) b, dI r4.2])])) (((⟨#[]⟩ : ByteArray).size + (⟨#[65]⟩ : ByteArray).size ≤ 9223372036854775807) ∧ K (.data TValue (Z3, (r9.1, (((⟨#[]⟩ : ByteArray) ++ (⟨#[65]⟩ : ByteArray)), ())))) [(1000000, .box [.data (Ty.sl (Ty.int .u8)) b, dI r3.2])]))))) (K (.data TValue (Z3, (r9.1, ((⟨#[]⟩ : ByteArray), ())))) [(1000000, .box [.data (Ty.sl (Ty.int .u8)) b, dI r2.2])]))))))) (cond (decide (r1.1 = Z3)) ((Sm (Ty.sl (Ty.int .u8)) b) ∧ (M.bytesOk b) ∧ (0 ≤ r1.2) ∧ (r1.2 ≤ 1000000000000000) ∧ (∀ r5 : Int × Int, r5 = (M.pick b r1.2 (7 : Int)) → (Sm (Ty.sl (Ty.int .u8)) b) ∧ (M.bytesOk b) ∧ (0 ≤ r5.2) ∧ (r5.2 ≤ 1000000000000000) ∧ (∀ r6 : Int × Int, r6 = (M.pick b r5.2 (8 : Int)) → cond (decide (r6.1 = Z0)) ((Sm (Ty.sl (Ty.int .u8)) b) ∧ (M.bytesOk b) ∧ (0 ≤ r6.2) ∧ (r6.2 ≤ 1000000000000000) ∧ (∀ r7 : Int × Int, r7 = (M.pick b r6.2 Z5) → (0 ≤ r7.1) ∧ (r7.1 < ([(9999 : Int), (-9999 : Int), (255 : Int), (256 : Int), (-256 : Int)].length : Int)) ∧ (Sm (Ty.sl (Ty.int .u8)) b) ∧ (M.bytesOk b) ∧ (0 ≤ r7.2) ∧ (r7.2 ≤ 999000000000000) ∧ (∀ r2 : Bool × Int, r2 = (M.odd b r7.2 n) → cond r2.1 ((Sm (Ty.sl (Ty.int .u8)) b) ∧ (M.bytesOk b) ∧ (0 ≤ r2.2) ∧ (r2.2 ≤ 1000000000000000) ∧ (∀ r3 : Int × Int, r3 = (M.pick b r2.2 Z4) → cond (decide (r3.1 = Z0)) (K (.data TValue (Z1, ((10000 : Int), ((⟨#[]⟩ : ByteArray), ())))) [(1000000, .box [.data (Ty.sl (Ty.int .u8)) b, dI r3.2])]) (cond (decide (r3.1 = Z1)) (((⟨#[]⟩ : ByteArray).size + (⟨#[97, 98, 99, 100, 101, 102, 103]⟩ : ByteArray).size ≤ 9223372036854775807) ∧ K (.data TValue (Z1, ((nI [(9999 : Int), (-9999 : Int), (255 : Int), (256 : Int), (-256 : Int)] r7.1), (((⟨#[]⟩ : ByteArray) ++ (⟨#[97, 98, 99, 100, 101, 102, 103]⟩ : ByteArray)), ())))) [(1000000, .box [.data (Ty.sl (Ty.int .u8)) b, dI r3.2])]) (cond (decide (r3.1 = Z2)) ((Sm (Ty.sl (Ty.int .u8)) b) ∧ (M.bytesOk b) ∧ (0 ≤ r3.2) ∧ (r3.2 ≤ 1000000000000000) ∧ (∀ r4 : Int × Int, r4 = (M.pick b r3.2 (7 : Int)) → K (.data TValue (wrap64 (r4.1 - Z1), ((nI [(9999 : Int), (-9999 : Int), (255 : Int), (256 : Int), (-256 : Int)] r7.1), ((⟨#[]⟩ : ByteArray), ())))) [(1000000, .box [.data (Ty.sl (Ty.int .u8)) b, dI r4.2])])) (((⟨#[]⟩ : ByteArray).size + (⟨#[65]⟩ : ByteArray).size ≤ 9223372036854775807) ∧ K (.data TValue (Z1, ((nI [(9999 : Int), (-9999 : Int), (255 : Int), (256 : Int), (-256 : Int)] r7.1), (((⟨#[]⟩ : ByteArray) ++ (⟨#[65]⟩ : ByteArray)), ())))) [(1000000, .box [.data (Ty.sl (Ty.int .u8)) b, dI r3.2])]))))) (K (.data TValue (Z1, ((nI [(9999 : Int), (-9999 : Int), (255 : Int), (256 : Int), (-256 : Int)] r7.1), ((⟨#[]⟩ : ByteArray), ())))) [(1000000, .box [.data (Ty.sl (Ty.int .u8)) b, dI r2.2])])))) ((Sm (Ty.sl (Ty.int .u8)) b) ∧ (M.bytesOk b) ∧ (0 ≤ r6.2) ∧ (r6.2 ≤ 999000000000000) ∧ (∀ r2 : Bool × Int, r2 = (M.odd b r6.2 n) → cond r2.1 ((Sm (Ty.sl (Ty.int .u8)) b) ∧ (M.bytesOk b) ∧ (0 ≤ r2.2) ∧ (r2.2 ≤ 1000000000000000) ∧ (∀ r3 : Int × Int, r3 = (M.pick b r2.2 Z4) → cond (decide (r3.1 = Z0)) (K (.data TValue (Z1, ((10000 : Int), ((⟨#[]⟩ : ByteArray), ())))) [(1000000, .box [.data (Ty.sl (Ty.int .u8)) b, dI r3.2])]) (cond (decide (r3.1 = Z1)) (((⟨#[]⟩ : ByteArray).size + (⟨#[97, 98, 99, 100, 101, 102, 103]⟩ : ByteArray).size ≤ 9223372036854775807) ∧ K (.data TValue (Z1, (wrap64 (r5.1 - Z3), (((⟨#[]⟩ : ByteArray) ++ (⟨#[97, 98, 99, 100, 101, 102, 103]⟩ : ByteArray)), ())))) [(1000000, .box [.data (Ty.sl (Ty.int .u8)) b, dI r3.2])]) (cond (decide (r3.1 = Z2)) ((Sm (Ty.sl (Ty.int .u8)) b) ∧ (M.bytesOk b) ∧ (0 ≤ r3.2) ∧ (r3.2 ≤ 1000000000000000) ∧ (∀ r4 : Int × Int, r4 = (M.pick b r3.2 (7 : Int)) → K (.data TValue (wrap64 (r4.1 - Z1), (wrap64 (r5.1 - Z3), ((⟨#[]⟩ : ByteArray), ())))) [(1000000, .box [.data (Ty.sl (Ty.int .u8)) b, dI r4.2])])) (((⟨#[]⟩ : ByteArray).size + (⟨#[65]⟩ : ByteArray).size ≤ 9223372036854775807) ∧ K (.data TValue (Z1, (wrap64 (r5.1 - Z3), (((⟨#[]⟩ : ByteArray) ++ (⟨#[65]⟩ : ByteArray)), ())))) [(1000000, .box [.data (Ty.sl (Ty.int .u8)) b, dI r3.2])]))))) (K (.data TValue (Z1, (wrap64 (r5.1 - Z3), ((⟨#[]⟩ : ByteArray), ())))) [(1000000, .box [.data (Ty.sl (Ty.int .u8)) b, dI r2.2])])))))) (cond (decide (r1.1 = Z4)) (cond (decide (r1.1 = Z4)) ((Sm (Ty.sl (Ty.int .u8)) b) ∧ (M.bytesOk b) ∧ (0 ≤ r1.2) ∧ (r1.2 ≤ 1000000000000000) ∧ (∀ r8 : Int × Int, r8 = (M.pick b r1.2 Z4) → (∃ m_, True ∧ LoopW (s130_1 b p n) (F.spec_l20Value_l1 b p n) (fun v1 : Int × Int × ByteArray => True) (fun e1 : Int × ByteArray => True → (Sm (Ty.sl (Ty.int .u8)) b) ∧ (M.bytesOk b) ∧ (0 ≤ e1.1) ∧ (e1.1 ≤ 999000000000000) ∧ (∀ r2 : Bool × Int, r2 = (M.odd b e1.1 n) → cond r2.1 ((Sm (Ty.sl (Ty.int .u8)) b) ∧ (M.bytesOk b) ∧ (0 ≤ r2.2) ∧ (r2.2 ≤ 1000000000000000) ∧ (∀ r3 : Int × Int, r3 = (M.pick b r2.2 Z4) → cond (decide (r3.1 = Z0)) (K (.data TValue (Z2, ((10000 : Int), (e1.2, ())))) [(1000000, .box [.data (Ty.sl (Ty.int .u8)) b, dI r3.2])]) (cond (decide (r3.1 = Z1)) ((e1.2.size + (⟨#[97, 98, 99, 100, 101, 102, 103]⟩ : ByteArray).size ≤ 9223372036854775807) ∧ K (.data TValue (Z2, (Z0, ((e1.2 ++ (⟨#[97, 98, 99, 100, 101, 102, 103]⟩ : ByteArray)), ())))) [(1000000, .box [.data (Ty.sl (Ty.int .u8)) b, dI r3.2])]) (cond (decide (r3.1 = Z2)) ((Sm (Ty.sl (Ty.int .u8)) b) ∧ (M.bytesOk b) ∧ (0 ≤ r3.2) ∧ (r3.2 ≤ 1000000000000000) ∧ (∀ r4 : Int × Int, r4 = (M.pick b r3.2 (7 : Int)) → K (.data TValue (wrap64 (r4.1 - Z1), (Z0, (e1.2, ())))) [(1000000, .box [.data (Ty.sl (Ty.int .u8)) b, dI r4.2])])) ((e1.2.size + (⟨#[65]⟩ : ByteArray).size ≤ 9223372036854775807) ∧ K (.data TValue (Z2, (Z0, ((e1.2 ++ (⟨#[65]⟩ : ByteArray)), ())))) [(1000000, .box [.data (Ty.sl (Ty.int .u8)) b, dI r3.2])]))))) (K (.data TValue (Z2, (Z0, (e1.2, ())))) [(1000000, .box [.data (Ty.sl (Ty.int .u8)) b, dI r2.2])]))) m_ (s130_1 b p n (r8.1, r8.2, (⟨#[]⟩ : ByteArray)))))) ((Sm (Ty.sl (Ty.int .u8)) b) ∧ (M.bytesOk b) ∧ (0 ≤ r1.2) ∧ (r1.2 ≤ 1000000000000000) ∧ (∀ r9 : Int × Int, r9 = (M.pick b r1.2 Z2) → (Sm (Ty.sl (Ty.int .u8)) b) ∧ (M.bytesOk b) ∧ (0 ≤ r9.2) ∧ (r9.2 ≤ 999000000000000) ∧ (∀ r2 : Bool × Int, r2 = (M.odd b r9.2 n) → cond r2.1 ((Sm (Ty.sl (Ty.int .u8)) b) ∧ (M.bytesOk b) ∧ (0 ≤ r2.2) ∧ (r2.2 ≤ 1000000000000000) ∧ (∀ r3 : Int × Int, r3 = (M.pick b r2.2 Z4) → cond (decide (r3.1 = Z0)) (K (.data TValue (Z3, ((10000 : Int), ((⟨#[]⟩ : ByteArray), ())))) [(1000000, .box [.data (Ty.sl (Ty.int .u8)) b, dI r3.2])]) (cond (decide (r3.1 = Z1)) (((⟨#[]⟩ : ByteArray).size + (⟨#[97, 98, 99, 100, 101, 102, 103]⟩ : ByteArray).size ≤ 9223372036854775807) ∧ K (.data TValue (Z3, (r9.1, (((⟨#[]⟩ : ByteArray) ++ (⟨#[97, 98, 99, 100, 101, 102, 103]⟩ : ByteArray)), ())))) [(1000000, .box [.data (Ty.sl (Ty.int .u8)) b, dI r3.2])]) (cond (decide (r3.1 = Z2)) ((Sm (Ty.sl (Ty.int .u8)) b) ∧ (M.bytesOk b) ∧ (0 ≤ r3.2) ∧ (r3.2 ≤ 1000000000000000) ∧ (∀ r4 : Int × Int, r4 = (M.pick b r3.2 (7 : Int)) → K (.data TValue (wrap64 (r4.1 - Z1), (r9.1, ((⟨#[]⟩ : ByteArray), ())))) [(1000000, .box [.data (Ty.sl (Ty.int .u8)) b, dI r4.2])])) (((⟨#[]⟩ : ByteArray).size + (⟨#[65]⟩ : ByteArray).size ≤ 9223372036854775807) ∧ K (.data TValue (Z3, (r9.1, (((⟨#[]⟩ : ByteArray) ++ (⟨#[65]⟩ : ByteArray)), ())))) [(1000000, .box [.data (Ty.sl (Ty.int .u8)) b, dI r3.2])]))))) (K (.data TValue (Z3, (r9.1, ((⟨#[]⟩ : ByteArray), ())))) [(1000000, .box [.data (Ty.sl (Ty.int .u8)) b, dI r2.2])]))))) (cond (decide (r1.1 = Z5)) ((Sm (Ty.sl (Ty.int .u8)) b) ∧ (M.bytesOk b) ∧ (0 ≤ r1.2) ∧ (r1.2 ≤ 1000000000000000) ∧ (∀ r8 : Int × Int, r8 = (M.pick b r1.2 Z4) → (∃ m_, True ∧ LoopW (s130_1 b p n) (F.spec_l20Value_l1 b p n) (fun v1 : Int × Int × ByteArray => True) (fun e1 : Int × ByteArray => True → (Sm (Ty.sl (Ty.int .u8)) b) ∧ (M.bytesOk b) ∧ (0 ≤ e1.1) ∧ (e1.1 ≤ 999000000000000) ∧ (∀ r2 : Bool × Int, r2 = (M.odd b e1.1 n) → cond r2.1 ((Sm (Ty.sl (Ty.int .u8)) b) ∧ (M.bytesOk b) ∧ (0 ≤ r2.2) ∧ (r2.2 ≤ 1000000000000000) ∧ (∀ r3 : Int × Int, r3 = (M.pick b r2.2 Z4) → cond (decide (r3.1 = Z0)) (K (.data TValue (Z2, ((10000 : Int), (e1.2, ())))) [(1000000, .box [.data (Ty.sl (Ty.int .u8)) b, dI r3.2])]) (cond (decide (r3.1 = Z1)) ((e1.2.size + (⟨#[97, 98, 99, 100, 101, 102, 103]⟩ : ByteArray).size ≤ 9223372036854775807) ∧ K (.data TValue (Z2, (Z0, ((e1.2 ++ (⟨#[97, 98, 99, 100, 101, 102, 103]⟩ : ByteArray)), ())))) [(1000000, .box [.data (Ty.sl (Ty.int .u8)) b, dI r3.2])]) (cond (decide (r3.1 = Z2)) ((Sm (Ty.sl (Ty.int .u8)) b) ∧ (M.bytesOk b) ∧ (0 ≤ r3.2) ∧ (r3.2 ≤ 1000000000000000) ∧ (∀ r4 : Int × Int, r4 = (M.pick b r3.2 (7 : Int)) → K (.data TValue (wrap64 (r4.1 - Z1), (Z0, (e1.2, ())))) [(1000000, .box [.data (Ty.sl (Ty.int .u8)) b, dI r4.2])])) ((e1.2.size + (⟨#[65]⟩ : ByteArray).size ≤ 9223372036854775807) ∧ K (.data TValue (Z2, (Z0, ((e1.2 ++ (⟨#[65]⟩ : ByteArray)), ())))) [(1000000, .box [.data (Ty.sl (Ty.int .u8)) b, dI r3.2])]))))) (K (.data TValue (Z2, (Z0, (e1.2, ())))) [(1000000, .box [.data (Ty.sl (Ty.int .u8)) b, dI r2.2])]))) m_ (s130_1 b p n (r8.1, r8.2, (⟨#[]⟩ : ByteArray)))))) ((Sm (Ty.sl (Ty.int .u8)) b) ∧ (M.bytesOk b) ∧ (0 ≤ r1.2) ∧ (r1.2 ≤ 1000000000000000) ∧ (∀ r9 : Int × Int, r9 = (M.pick b r1.2 Z2) → (Sm (Ty.sl (Ty.int .u8)) b) ∧ (M.bytesOk b) ∧ (0 ≤ r9.2) ∧ (r9.2 ≤ 999000000000000) ∧ (∀ r2 : Bool × Int, r2 = (M.odd b r9.2 n) → cond r2.1 ((Sm (Ty.sl (Ty.int .u8)) b) ∧ (M.bytesOk b) ∧ (0 ≤ r2.2) ∧ (r2.2 ≤ 1000000000000000) ∧ (∀ r3 : Int × Int, r3 = (M.pick b r2.2 Z4) → cond (decide (r3.1 = Z0)) (K (.data TValue (Z3, ((10000 : Int), ((⟨#[]⟩ : ByteArray), ())))) [(1000000, .box [.data (Ty.sl (Ty.int .u8)) b, dI r3.2])]) (cond (decide (r3.1 = Z1)) (((⟨#[]⟩ : ByteArray).size + (⟨#[97, 98, 99, 100, 101, 102, 103]⟩ : ByteArray).size ≤ 9223372036854775807) ∧ K (.data TValue (Z3, (r9.1, (((⟨#[]⟩ : ByteArray) ++ (⟨#[97, 98, 99, 100, 101, 102, 103]⟩ : ByteArray)), ())))) [(1000000, .box [.data (Ty.sl (Ty.int .u8)) b, dI r3.2])]) (cond (decide (r3.1 = Z2)) ((Sm (Ty.sl (Ty.int .u8)) b) ∧ (M.bytesOk b) ∧ (0 ≤ r3.2) ∧ (r3.2 ≤ 1000000000000000) ∧ (∀ r4 : Int × Int, r4 = (M.pick b r3.2 (7 : Int)) → K (.data TValue (wrap64 (r4.1 - Z1), (r9.1, ((⟨#[]⟩ : ByteArray), ())))) [(1000000, .box [.data (Ty.sl (Ty.int .u8)) b, dI r4.2])])) (((⟨#[]⟩ : ByteArray).size + (⟨#[65]⟩ : ByteArray).size ≤ 9223372036854775807) ∧ K (.data TValue (Z3, (r9.1, (((⟨#[]⟩ : ByteArray) ++ (⟨#[65]⟩ : ByteArray)), ())))) [(1000000, .box [.data (Ty.sl (Ty.int .u8)) b, dI r3.2])]))))) (K (.data TValue (Z3, (r9.1, ((⟨#[]⟩ : ByteArray), ())))) [(1000000, .box [.data (Ty.sl (Ty.int .u8)) b, dI r2.2])]))))))))))) := by kernel_rfl
theorem lvc130_0 (b : (List Int)) (p : Int) (n : Int)  (v1 : Int × Int × ByteArray) (m : Nat) (K : KX) : lvT C130 (L130 b p n) ann130 f130 0 1 (s130_1 b p n v1) m K =
 (cond (decide (Z0 < v1.1)) (((Sm (Ty.sl (Ty.int .u8)) b) ∧ (M.bytesOk b) ∧ (0 ≤ v1.2.1) ∧ (v1.2.1 ≤ 1000000000000000) ∧ (∀ r10 : Int × Int, r10 = (M.pick b v1.2.1 Z3) → (v1.2.2.size + (strOf [((wrap64 ((97 : Int) + r10.1)) % 256)]).size ≤ 9223372036854775807) ∧ (nxT (LP130_1 b p n) m K (s130_1 b p n (wrap64 (v1.1 - Z1), r10.2, (v1.2.2 ++ (strOf [((wrap64 ((97 : Int) + r10.1)) % 256)]))))))) ∧ ((Sm (Ty.sl (Ty.int .u8)) b) ∧ (M.bytesOk b) ∧ (0 ≤ v1.2.1) ∧ (v1.2.1 ≤ 1000000000000000) ∧ (∀ r10 : Int × Int, r10 = (M.pick b v1.2.1 Z3) → ((v1.2.2.size + (strOf [((wrap64 ((97 : Int) + r10.1)) % 256)]).size ≤ 9223372036854775807) ∧ (nxT (LP130_1 b p n) m K (s130_1 b p n (wrap64 (v1.1 - Z1), r10.2, (v1.2.2 ++ (strOf [((wrap64 ((97 : Int) + r10.1)) % 256)])))))) ∧ (((v1.2.2.size + (strOf [((wrap64 ((97 : Int) + r10.1)) % 256)]).size ≤ 9223372036854775807) ∧ (nxT (LP130_1 b p n) m K (s130_1 b p n (wrap64 (v1.1 - Z1), r10.2, (v1.2.2 ++ (strOf [((wrap64 ((97 : Int) + r10.1)) % 256)])))))) ∧ (((v1.2.2.size + (strOf [((wrap64 ((97 : Int) + r10.1)) % 256)]).size ≤ 9223372036854775807) ∧ (nxT (LP130_1 b p n) m K (s130_1 b p n (wrap64 (v1.1 - Z1), r10.2, (v1.2.2 ++ (strOf [((wrap64 ((97 : Int) + r10.1)) % 256)])))))) ∧ ((v1.2.2.size + (strOf [((wrap64 ((97 : Int) + r10.1)) % 256)]).size ≤ 9223372036854775807) ∧ (nxT (LP130_1 b p n) m K (s130_1 b p n (wrap64 (v1.1 - Z1), r10.2, (v1.2.2 ++ (strOf [((wrap64 ((97 : Int) + r10.1)) % 256)]))))))))))) (K (.exit 1) (⟨[(0, .ptr 1000000 0), (1, dI n), (4, .ptr 4 0), (5, .ptr 5 0)], [(1000000, .box [.data (Ty.sl (Ty.int .u8)) b, dI v1.2.1]), (4, .box [dI Z0, dI Z0, .data Ty.str (⟨#[]⟩ : ByteArray)]), (5, .box [dI Z2, dI Z0, .data Ty.str v1.2.2])]⟩ : St))) := by kernel_rfl
theorem con130_ok : Con1 P 130 c130 := conR C130 func130 (kC con41_ok (kC con106_ok kN)) fun args hp K h0 => by
 unfold c130 at h0
 dsimp only at h0
 obtain ⟨b, p, rfl, h00⟩ := hpR_elim h0
 obtain ⟨a0, a1, rfl, _, h1⟩ := args2_elim h00
 obtain ⟨rfl, h2⟩ := withP_elim h1
 obtain ⟨n, rfl, h3⟩ := withD_elim h2
 obtain ⟨h_b, p0, p1, p2, hK⟩ := h3
 have h : ok (F.spec_l20Value b p n) (fun r => K (.data TValue r.1) [(1000000, .box [.data (Ty.sl (Ty.int .u8)) b, dI r.2])]) := ok_of_eq (F.spec_l20Value_eq b p n h_b p0 p1 p2) (hK _ rfl)
 refine ⟨rfl, ann130, (L130 b p n), (.dat TValue), (loopsN1 (i0 := 1) (by kernel_rfl) ?_), ?_⟩
 ·rintro _ _ K ⟨hc1, v1, rfl, hv1, h⟩
  exact cast (lvc130_0 _ _ _ _ _ _).symm (loopW_step h (fun m1 hm1 h => (oC h (fun _ h => ((fun (g3_0 : M.bytesOk b) => (fun (g3_1 : 0 ≤ v1.2.1) => (fun (g3_2 : v1.2.1 ≤ 1000000000000000) => (fun (g3_3 : v1.2.2.size + (strOf [((wrap64 ((97 : Int) + (M.pick b v1.2.1 Z3).1)) % 256)]).size ≤ 9223372036854775807) => ⟨⟨h_b, ⟨g3_0, have g1 := g3_0; ⟨g3_1, have g2 := g3_1; ⟨g3_2, have g3 := g3_2; (fun r10 er10 => (have g4 : v1.2.2.size + (strOf [((wrap64 ((97 : Int) + r10.1)) % 256)]).size ≤ 9223372036854775807 := (by rw [er10]; exact g3_3); ⟨g4, (have h := (ok_guard (ok_let (ok_guard (ok_guard (ok_guard h).2).2).2 r10 er10)).2; (loopW_next (fun _ hm => ⟨hc1, hm⟩) hm1 _ rfl trivial h))⟩))⟩⟩⟩⟩, ⟨h_b, ⟨g3_0, have g5 := g3_0; ⟨g3_1, have g6 := g3_1; ⟨g3_2, have g7 := g3_2; (fun r10 er10 => ⟨(have g8 : v1.2.2.size + (strOf [((wrap64 ((97 : Int) + r10.1)) % 256)]).size ≤ 9223372036854775807 := (by rw [er10]; exact g3_3); ⟨g8, (have h := (ok_guard (ok_let (ok_guard (ok_guard (ok_guard h).2).2).2 r10 er10)).2; (loopW_next (fun _ hm => ⟨hc1, hm⟩) hm1 _ rfl trivial h))⟩), ⟨(have g9 : v1.2.2.size + (strOf [((wrap64 ((97 : Int) + r10.1)) % 256)]).size ≤ 9223372036854775807 := (by rw [er10]; exact g3_3); ⟨g9, (have h := (ok_guard (ok_let (ok_guard (ok_guard (ok_guard h).2).2).2 r10 er10)).2; (loopW_next (fun _ hm => ⟨hc1, hm⟩) hm1 _ rfl trivial h))⟩), ⟨(have g10 : v1.2.2.size + (strOf [((wrap64 ((97 : Int) + r10.1)) % 256)]).size ≤ 9223372036854775807 := (by rw [er10]; exact g3_3); ⟨g10, (have h := (ok_guard (ok_let (ok_guard (ok_guard (ok_guard h).2).2).2 r10 er10)).2; (loopW_next (fun _ hm => ⟨hc1, hm⟩) hm1 _ rfl trivial h))⟩), (have g11 : v1.2.2.size + (strOf [((wrap64 ((97 : Int) + r10.1)) % 256)]).size ≤ 9223372036854775807 := (by rw [er10]; exact g3_3); ⟨g11, (have h := (ok_guard (ok_let (ok_guard (ok_guard (ok_guard h).2).2).2 r10 er10)).2; (loopW_next (fun _ hm => ⟨hc1, hm⟩) hm1 _ rfl trivial h))⟩)⟩⟩⟩)⟩⟩⟩⟩⟩) (ok_guard (ok_let (ok_guard (ok_guard (ok_guard h).2).2).2 _ rfl)).1) (ok_guard (ok_guard (ok_guard h).2).2).1) (ok_guard (ok_guard h).2).1) (ok_guard h).1)) fun _ h => ((ok_ret h :) trivial))))
 ·rw [vc130]
  exact ⟨h_b, ⟨p0, ⟨p1, (oG h fun _ h => (oL h fun _ _ h => (oC h (fun _ h => ⟨h_b, ⟨p0, (oG h fun _ h => (oG h fun _ h => (oL h fun _ _ h => (oC h (fun _ h => ⟨h_b, ⟨p0, (oG h fun _ h => (oG h fun _ h => (oL h fun _ _ h => (oC h (fun _ h => h) fun _ h => (oC h (fun _ h => (oG h fun _ h => h)) fun _ h => (oC h (fun _ h => ⟨h_b, ⟨p0, (oG h fun _ h => (oG h fun _ h => (oL h fun _ _ h => h)))⟩⟩) fun _ h => (oG h fun _ h => h)))))))⟩⟩) fun _ h => h))))⟩⟩) fun _ h => (oC h (fun b_15 h => (cond_t b_15 ⟨h_b, ⟨p0, (oG h fun _ h => (oG h fun _ h => (oL h fun _ _ h => ⟨h_b, ⟨p0, (oG h fun _ h => (oG h fun _ h => (oL h fun _ _ h => (oC h (fun _ h => ⟨h_b, ⟨p0, (oG h fun _ h => (oG h fun _ h => (oL h fun _ _ h => (oG h fun _ h => (oG h fun _ h => ⟨h_b, ⟨p0, (oG h fun _ h => (oG h fun _ h => (oL h fun _ _ h => (oC h (fun _ h => ⟨h_b, ⟨p0, (oG h fun _ h => (oG h fun _ h => (oL h fun _ _ h => (oC h (fun _ h => h) fun _ h => (oC h (fun _ h => (oG h fun _ h => h)) fun _ h => (oC h (fun _ h => ⟨h_b, ⟨p0, (oG h fun _ h => (oG h fun _ h => (oL h fun _ _ h => h)))⟩⟩) fun _ h => (oG h fun _ h => h)))))))⟩⟩) fun _ h => h))))⟩⟩)))))⟩⟩) fun _ h => ⟨h_b, ⟨p0, (oG h fun _ h => (oG h fun _ h => (oL h fun _ _ h => (oC h (fun _ h => ⟨h_b, ⟨p0, (oG h fun _ h => (oG h fun _ h => (oL h fun _ _ h => (oC h (fun _ h => h) fun _ h => (oC h (fun _ h => (oG h fun _ h => h)) fun _ h => (oC h (fun _ h => ⟨h_b, ⟨p0, (oG h fun _ h => (oG h fun _ h => (oL h fun _ _ h => h)))⟩⟩) fun _ h => (oG h fun _ h => h)))))))⟩⟩) fun _ h => h))))⟩⟩))))⟩⟩)))⟩⟩)) fun _ h => (oC h (fun b_107 h => (cond_t b_107 ⟨h_b, ⟨p0, (oG h fun _ h => (oG h fun _ h => (oL h fun _ _ h => ⟨h_b, ⟨p0, (oG h fun _ h => (oG h fun _ h => (oL h fun _ _ h => (oC h (fun _ h => ⟨h_b, ⟨p0, (oG h fun _ h => (oG h fun _ h => (oL h fun _ _ h => (oG h fun _ h => (oG h fun _ h => ⟨h_b, ⟨p0, (oG h fun _ h => (oG h fun _ h => (oL h fun _ _ h => (oC h (fun _ h => ⟨h_b, ⟨p0, (oG h fun _ h => (oG h fun _ h => (oL h fun _ _ h => (oC h (fun _ h => h) fun _ h => (oC h (fun _ h => (oG h fun _ h => h)) fun _ h => (oC h (fun _ h => ⟨h_b, ⟨p0, (oG h fun _ h => (oG h fun _ h => (oL h fun _ _ h => h)))⟩⟩) fun _ h => (oG h fun _ h => h)))))))⟩⟩) fun _ h => h))))⟩⟩)))))⟩⟩) fun _ h => ⟨h_b, ⟨p0, (oG h fun _ h => (oG h fun _ h => (oL h fun _ _ h => (oC h (fun _ h => ⟨h_b, ⟨p0, (oG h fun _ h => (oG h fun _ h => (oL h fun _ _ h => (oC h (fun _ h => h) fun _ h => (oC h (fun _ h => (oG h fun _ h => h)) fun _ h => (oC h (fun _ h => ⟨h_b, ⟨p0, (oG h fun _ h => (oG h fun _ h => (oL h fun _ _ h => h)))⟩⟩) fun _ h => (oG h fun _ h => h)))))))⟩⟩) fun _ h => h))))⟩⟩))))⟩⟩)))⟩⟩)) fun _ h => (oC h (fun _ h => ⟨h_b, ⟨p0, (oG h fun _ h => (oG h fun _ h => (oL h fun _ _ h => ⟨h_b, ⟨p0, (oG h fun _ h => (oG h fun _ h => (oL h fun _ _ h => (oC h (fun _ h => ⟨h_b, ⟨p0, (oG h fun _ h => (oG h fun _ h => (oL h fun _ _ h => (oG h fun _ h => (oG h fun _ h => ⟨h_b, ⟨p0, (oG h fun _ h => (oG h fun _ h => (oL h fun _ _ h => (oC h (fun _ h => ⟨h_b, ⟨p0, (oG h fun _ h => (oG h fun _ h => (oL h fun _ _ h => (oC h (fun _ h => h) fun _ h => (oC h (fun _ h => (oG h fun _ h => h)) fun _ h => (oC h (fun _ h => ⟨h_b, ⟨p0, (oG h fun _ h => (oG h fun _ h => (oL h fun _ _ h => h)))⟩⟩) fun _ h => (oG h fun _ h => h)))))))⟩⟩) fun _ h => h))))⟩⟩)))))⟩⟩) fun _ h => ⟨h_b, ⟨p0, (oG h fun _ h => (oG h fun _ h => (oL h fun _ _ h => (oC h (fun _ h => ⟨h_b, ⟨p0, (oG h fun _ h => (oG h fun _ h => (oL h fun _ _ h => (oC h (fun _ h => h) fun _ h => (oC h (fun _ h => (oG h fun _ h => h)) fun _ h => (oC h (fun _ h => ⟨h_b, ⟨p0, (oG h fun _ h => (oG h fun _ h => (oL h fun _ _ h => h)))⟩⟩) fun _ h => (oG h fun _ h => h)))))))⟩⟩) fun _ h => h))))⟩⟩))))⟩⟩)))⟩⟩) fun _ h => (oC h (fun b_176 h => (cond_t b_176 ⟨h_b, ⟨p0, (oG h fun _ h => (oG h fun _ h => (oL h fun _ _ h => (loopW_start (fun m hm => ⟨trivial, hm⟩) _ rfl trivial (ok_bind h (fun e1 h hv1 => ⟨h_b, ⟨p0, (oG h fun _ h => (oG h fun _ h => (oL h fun _ _ h => (oC h (fun _ h => ⟨h_b, ⟨p0, (oG h fun _ h => (oG h fun _ h => (oL h fun _ _ h => (oC h (fun _ h => h) fun _ h => (oC h (fun _ h => (oG h fun _ h => h)) fun _ h => (oC h (fun _ h => ⟨h_b, ⟨p0, (oG h fun _ h => (oG h fun _ h => (oL h fun _ _ h => h)))⟩⟩) fun _ h => (oG h fun _ h => h)))))))⟩⟩) fun _ h => h))))⟩⟩))))))⟩⟩)) fun _ h => (oC h (fun _ h => ⟨h_b, ⟨p0, (oG h fun _ h => (oG h fun _ h => (oL h fun _ _ h => (loopW_start (fun m hm => ⟨trivial, hm⟩) _ rfl trivial (ok_bind h (fun e1 h hv1 => ⟨h_b, ⟨p0, (oG h fun _ h => (oG h fun _ h => (oL h fun _ _ h => (oC h (fun _ h => ⟨h_b, ⟨p0, (oG h fun _ h => (oG h fun _ h => (oL h fun _ _ h => (oC h (fun _ h => h) fun _ h => (oC h (fun _ h => (oG h fun _ h => h)) fun _ h => (oC h (fun _ h => ⟨h_b, ⟨p0, (oG h fun _ h => (oG h fun _ h => (oL h fun _ _ h => h)))⟩⟩) fun _ h => (oG h fun _ h => h)))))))⟩⟩) fun _ h => h))))⟩⟩))))))⟩⟩) fun _ h => ⟨h_b, ⟨p0, (oG h fun _ h => (oG h fun _ h => (oL h fun _ _ h => ⟨h_b, ⟨p0, (oG h fun _ h => (oG h fun _ h => (oL h fun _ _ h => (oC h (fun _ h => ⟨h_b, ⟨p0, (oG h fun _ h => (oG h fun _ h => (oL h fun _ _ h => (oC h (fun _ h => h) fun _ h => (oC h (fun _ h => (oG h fun _ h => h)) fun _ h => (oC h (fun _ h => ⟨h_b, ⟨p0, (oG h fun _ h => (oG h fun _ h => (oL h fun _ _ h => h)))⟩⟩) fun _ h => (oG h fun _ h => h)))))))⟩⟩) fun _ h => h))))⟩⟩)))⟩⟩))))))))⟩⟩⟩
def c89 : Con := ⟨[.any, .dat TCS, .dat TInt], fun args hp K => hpR (fun b p => args3 (fun a0 a1 a2 => withP a0 (withD TCS a1 fun columns => withD TInt a2 fun n => (Sm (Ty.sl (Ty.int .u8)) b) ∧ (Sm TCS columns) ∧ (M.bytesOk b) ∧ (0 ≤ p) ∧ (p ≤ 997000000000000) ∧ (∀ r : LV × Int, r = (M.l20Fit b p columns n) → K (.own 0 none) [(0, .arr false TValue r.1), (1000000, .box [.data (Ty.sl (Ty.int .u8)) b, dI r.2])]))) args []) hp, .plain, true⟩
@[reducible] def C89 : Ctx := cx [(41, c41), (106, c106), (129, c129), (130, c130)] 59 [] 0 false
def ann89 := an [[kp 7], [kp 135], [kp 391], [kp 8583], [kp 391], [kp 391], [kp 134217857], [kp 536871041], [kp 128], [kp 550292684929], [kp 128], [.keep [0, 7, 45]], [.keep [0, 7, 49]], [kp 128], [kp 64]] [[kp 133]]
@[reducible] def s89_0 (b : (List Int)) (p : Int) (columns : LC) (n : Int) (i0 : Int) (v0 : Int × LV) : St := ⟨[(0, .ptr 1000000 0), (1, .data TCS columns), (2, dI n), (7, .own 9 none), (8, dI i0)], [(1000000, .box [.data (Ty.sl (Ty.int .u8)) b, dI v0.1]), (9, .arr false TValue v0.2)]⟩
@[reducible] def LP89_0 (b : (List Int)) (p : Int) (columns : LC) (n : Int) (m : Nat) (st_ : St) (K : KX) : Prop := True ∧ LoopE (t := TColumn) (s89_0 b p columns n) columns (F.spec_l20Fit_l0 b p columns n) (fun v0 : Int × LV => True) (outD (fun v0 : Int × LV => True → K (.exit 0) (⟨[(0, .ptr 1000000 0), (2, dI n), (7, .own 9 none)], [(1000000, .box [.data (Ty.sl (Ty.int .u8)) b, dI v0.1]), (9, .arr false TValue v0.2)]⟩ : St)) (fun _ => False)) m st_
def L89 (b : (List Int)) (p : Int) (columns : LC) (n : Int) : Loops := lp1 0 (LP89_0 b p columns n)
theorem vc89 (b : (List Int)) (p : Int) (columns : LC) (n : Int) (K : KA) : vcT C89 (L89 b p columns n) ann89 f89 [.ptr 1000000 0, .data TCS columns, dI n] [(1000000, .box [.data (Ty.sl (Ty.int .u8)) b, dI p])] .raw K =
 (∃ m_, True ∧ LoopE (t := TColumn) (s89_0 b p columns n) columns (F.spec_l20Fit_l0 b p columns n) (fun v0 : Int × LV => True) (outD (fun v0 : Int × LV => True → (Sm (Ty.sl (Ty.int .u8)) b) ∧ (M.bytesOk b) ∧ (0 ≤ v0.1) ∧ (v0.1 ≤ 999000000000000) ∧ (∀ r1 : Bool × Int, r1 = (M.odd b v0.1 n) → cond r1.1 ((Sm (Ty.sl (Ty.int .u8)) b) ∧ (M.bytesOk b) ∧ (0 ≤ r1.2) ∧ (r1.2 ≤ 1000000000000000) ∧ (∀ r2 : Int × Int, r2 = (M.pick b r1.2 Z3) → cond (decide (r2.1 = Z0)) (((v0.2.length + ([(Z0, (Z0, ((⟨#[]⟩ : ByteArray), ())))] : List TValue.D).length) * 32 ≤ lim) ∧ K (.own 0 none) [(0, .arr false TValue (v0.2 ++ [(Z0, (Z0, ((⟨#[]⟩ : ByteArray), ())))])), (1000000, .box [.data (Ty.sl (Ty.int .u8)) b, dI r2.2])]) (cond (decide (r2.1 = Z1)) (cond (decide (Z0 < (v0.2.length : Int))) ((Sm (Ty.sl (Ty.int .u8)) b) ∧ (M.bytesOk b) ∧ (0 ≤ r2.2) ∧ (r2.2 ≤ 1000000000000000) ∧ (∀ r3 : Int × Int, r3 = (M.pick b r2.2 (v0.2.length : Int)) → (Sm (Ty.sl (Ty.int .u8)) b) ∧ (M.bytesOk b) ∧ (0 ≤ r3.2) ∧ (r3.2 ≤ 998000000000000) ∧ (∀ r4 : TValue.D × Int, r4 = (M.l20Value b r3.2 Z3) → (0 ≤ r3.1) ∧ (r3.1 < (v0.2.length : Int)) ∧ K (.own 0 none) [(0, .arr false TValue (v0.2.set r3.1.toNat r4.1)), (1000000, .box [.data (Ty.sl (Ty.int .u8)) b, dI r4.2])]))) (K (.own 0 none) [(0, .arr false TValue v0.2), (1000000, .box [.data (Ty.sl (Ty.int .u8)) b, dI r2.2])])) ((Sm (Ty.sl (Ty.int .u8)) b) ∧ (M.bytesOk b) ∧ (0 ≤ r2.2) ∧ (r2.2 ≤ 998000000000000) ∧ (∀ r5 : TValue.D × Int, r5 = (M.l20Value b r2.2 Z0) → (Sm (Ty.sl (Ty.int .u8)) b) ∧ (M.bytesOk b) ∧ (0 ≤ r5.2) ∧ (r5.2 ≤ 998000000000000) ∧ (∀ r6 : TValue.D × Int, r6 = (M.l20Value b r5.2 Z0) → (Sm (Ty.sl (Ty.int .u8)) b) ∧ (M.bytesOk b) ∧ (0 ≤ r6.2) ∧ (r6.2 ≤ 998000000000000) ∧ (∀ r7 : TValue.D × Int, r7 = (M.l20Value b r6.2 Z0) → ((v0.2.length + [r5.1, r6.1, r7.1].length) * 32 ≤ lim) ∧ K (.own 0 none) [(0, .arr false TValue (v0.2 ++ [r5.1, r6.1, r7.1])), (1000000, .box [.data (Ty.sl (Ty.int .u8)) b, dI r7.2])]))))))) (K (.own 0 none) [(0, .arr false TValue v0.2), (1000000, .box [.data (Ty.sl (Ty.int .u8)) b, dI r1.2])]))) (fun _ => False)) m_ (s89_0 b p columns n Z0 (p, []))) := by kernel_rfl
theorem lvc89_0 (b : (List Int)) (p : Int) (columns : LC) (n : Int)  (i0 : Int) (v0 : Int × LV) (m : Nat) (K : KX) : lvT C89 (L89 b p columns n) ann89 f89 0 0 (s89_0 b p columns n i0 v0) m K =
 (cond (decide (i0 < (columns.length : Int))) ((0 ≤ i0) ∧ (i0 < (columns.length : Int)) ∧ (Sm (Ty.sl (Ty.int .u8)) b) ∧ (M.bytesOk b) ∧ (0 ≤ v0.1) ∧ (v0.1 ≤ 998000000000000) ∧ (∀ r8 : TValue.D × Int, r8 = (M.l20Like b v0.1 (nC columns i0)) → ((v0.2.length + [r8.1].length) * 32 ≤ lim) ∧ (nxT (LP89_0 b p columns n) m K (s89_0 b p columns n (wrap64 (i0 + Z1)) (r8.2, (v0.2 ++ [r8.1])))))) (K (.exit 0) (⟨[(0, .ptr 1000000 0), (2, dI n), (7, .own 9 none)], [(1000000, .box [.data (Ty.sl (Ty.int .u8)) b, dI v0.1]), (9, .arr false TValue v0.2)]⟩ : St))) := by kernel_rfl
theorem con89_ok : Con1 P 89 c89 := conR C89 func89 (kC con41_ok (kC con106_ok (kC con129_ok (kC con130_ok kN)))) fun args hp K h0 => by
 unfold c89 at h0
 dsimp only at h0
 obtain ⟨b, p, rfl, h00⟩ := hpR_elim h0
 obtain ⟨a0, a1, a2, rfl, _, h1⟩ := args3_elim h00
 obtain ⟨rfl, h2⟩ := withP_elim h1
 obtain ⟨columns, rfl, h3⟩ := withD_elim h2
 obtain ⟨n, rfl, h4⟩ := withD_elim h3
 obtain ⟨h_b, h_columns, p0, p1, p2, hK⟩ := h4
 have h : ok (F.spec_l20Fit b p columns n) (fun r => K (.own 0 none) [(0, .arr false TValue r.1), (1000000, .box [.data (Ty.sl (Ty.int .u8)) b, dI r.2])]) := ok_of_eq (F.spec_l20Fit_eq b p columns n h_b h_columns p0 p1 p2) (hK _ rfl)
 refine ⟨rfl, ann89, (L89 b p columns n), .raw, (loopsN1 (i0 := 0) (by kernel_rfl) ?_), ?_⟩
 ·rintro _ _ K ⟨hc0, i0, v0, rfl, hl0, rfl, hv0, h⟩
  exact cast (lvc89_0 _ _ _ _ _ _ _ _).symm (loopE_step (t := TColumn) hl0 h (fun ht0 h => ⟨hl0, ⟨ht0, ⟨h_b, (oG h fun _ h => (oG h fun _ h => (oG h fun _ h => (oL h fun _ _ h => (oG h fun _ h => (loopE_next (t := TColumn) (fun _ hm => ⟨hc0, hm⟩) _ rfl hl0 ht0 (sm_len h_columns) trivial h))))))⟩⟩⟩) fun h => (h trivial))
 ·rw [vc89]
  exact (loopE_start (t := TColumn) (fun m hm => ⟨trivial, hm⟩) _ rfl trivial (ok_then h (fun v0 h hv0 => ⟨h_b, ⟨p0, (oG h fun _ h => (oG h fun _ h => (oL h fun _ _ h => (oC h (fun _ h => ⟨h_b, ⟨p0, (oG h fun _ h => (oG h fun _ h => (oL h fun _ _ h => (oC h (fun _ h => (oG h fun _ h => h)) fun _ h => (oC h (fun _ h => (oC h (fun _ h => ⟨h_b, ⟨p0, (oG h fun _ h => (oG h fun _ h => (oL h fun _ _ h => ⟨h_b, ⟨p0, (oG h fun _ h => (oG h fun _ h => (oL h fun _ _ h => (oG h fun _ h => (oG h fun _ h => h)))))⟩⟩)))⟩⟩) fun _ h => h)) fun _ h => ⟨h_b, ⟨p0, (oG h fun _ h => (oG h fun _ h => (oL h fun _ _ h => ⟨h_b, ⟨p0, (oG h fun _ h => (oG h fun _ h => (oL h fun _ _ h => ⟨h_b, ⟨p0, (oG h fun _ h => (oG h fun _ h => (oL h fun _ _ h => (oG h fun _ h => h))))⟩⟩)))⟩⟩)))⟩⟩)))))⟩⟩) fun _ h => h))))⟩⟩) (fun _ h => h.elim)))
def c91 : Con := ⟨[.any, .dat TCS, .dat TInt], fun args hp K => hpR (fun b p => args3 (fun a0 a1 a2 => withP a0 (withD TCS a1 fun columns => withD TInt a2 fun kind => (Sm (Ty.sl (Ty.int .u8)) b) ∧ (Sm TCS columns) ∧ (M.bytesOk b) ∧ (0 ≤ p) ∧ (p ≤ 997000000000000) ∧ (∀ r : TPart.D × Int, r = (M.l20Leaf b p columns kind) → K (.data TPart r.1) [(1000000, .box [.data (Ty.sl (Ty.int .u8)) b, dI r.2])]))) args []) hp, .plain, true⟩
@[reducible] def C91 : Ctx := cx [(41, c41), (129, c129)] 41 [] 0 false
def ann91 := an [[kp 71], [kp 199], [kp 32967], [kp 199], [kp 455], [kp 8589935047], [kp 64], [kp 64]] [[kp 69]]
@[reducible] def s91_0 (b : (List Int)) (p : Int) (columns : LC) (kind : Int) (v0 : Int × Int) : St := ⟨[(0, .ptr 1000000 0), (1, .data TCS columns), (2, dI kind), (6, .ptr 6 0), (7, dI v0.1)], [(1000000, .box [.data (Ty.sl (Ty.int .u8)) b, dI v0.2]), (6, .box [dI Z0, dI Z0, dI Z0, dI Z0, .data Ty.str (⟨#[]⟩ : ByteArray)])]⟩
@[reducible] def LP91_0 (b : (List Int)) (p : Int) (columns : LC) (kind : Int) (m : Nat) (st_ : St) (K : KX) : Prop := True ∧ LoopW (s91_0 b p columns kind) (F.spec_l20Leaf_l0 b p columns kind) (fun v0 : Int × Int => True) (outD (fun e0 : Int => True → K (.exit 0) (⟨[(0, .ptr 1000000 0), (2, dI kind), (6, .ptr 6 0)], [(1000000, .box [.data (Ty.sl (Ty.int .u8)) b, dI e0]), (6, .box [dI Z0, dI Z0, dI Z0, dI Z0, .data Ty.str (⟨#[]⟩ : ByteArray)])]⟩ : St)) (fun q0 : Int × Int => K .ret (⟨[(6, .ptr 6 0)], [(1000000, .box [.data (Ty.sl (Ty.int .u8)) b, dI q0.1]), (6, .box [dI Z2, dI q0.2, dI Z0, dI Z0, .data Ty.str (⟨#[]⟩ : ByteArray)])]⟩ : St))) m st_
def L91 (b : (List Int)) (p : Int) (columns : LC) (kind : Int) : Loops := lp1 0 (LP91_0 b p columns kind)
theorem vc91 (b : (List Int)) (p : Int) (columns : LC) (kind : Int) (K : KA) : vcT C91 (L91 b p columns kind) ann91 f91 [.ptr 1000000 0, .data TCS columns, dI kind] [(1000000, .box [.data (Ty.sl (Ty.int .u8)) b, dI p])] (.dat TPart) K =
 (∃ m_, True ∧ LoopW (s91_0 b p columns kind) (F.spec_l20Leaf_l0 b p columns kind) (fun v0 : Int × Int => True) (outD (fun e0 : Int => True → (Sm (Ty.sl (Ty.int .u8)) b) ∧ (M.bytesOk b) ∧ (0 ≤ e0) ∧ (e0 ≤ 998000000000000) ∧ (∀ r1 : TValue.D × Int, r1 = (M.l20Like b e0 (kind, (false, ()))) → K (.data TPart (Z1, (Z0, (r1.1, ())))) [(1000000, .box [.data (Ty.sl (Ty.int .u8)) b, dI r1.2])])) (fun q0 : Int × Int => K (.data TPart (Z2, (q0.2, ((Z0, (Z0, ((⟨#[]⟩ : ByteArray), ()))), ())))) [(1000000, .box [.data (Ty.sl (Ty.int .u8)) b, dI q0.1])])) m_ (s91_0 b p columns kind (Z0, p))) := by kernel_rfl
@[reducible] def S91l0_0 (b : (List Int)) (p : Int) (columns : LC) (kind : Int)  (v0 : Int × Int) (m : Nat) (K : KX) : Prop := K (.exit 0) (⟨[(0, .ptr 1000000 0), (2, dI kind), (6, .ptr 6 0)], [(1000000, .box [.data (Ty.sl (Ty.int .u8)) b, dI v0.2]), (6, .box [dI Z0, dI Z0, dI Z0, dI Z0, .data Ty.str (⟨#[]⟩ : ByteArray)])]⟩ : St)
theorem lvc91_0 (b : (List Int)) (p : Int) (columns : LC) (kind : Int)  (v0 : Int × Int) (m : Nat) (K : KX) : lvT C91 (L91 b p columns kind) ann91 f91 0 0 (s91_0 b p columns kind v0) m K =
 (cond ((decide (v0.1 < Z4)) == true) (cond (decide (Z0 < (columns.length : Int))) ((Sm (Ty.sl (Ty.int .u8)) b) ∧ (M.bytesOk b) ∧ (0 ≤ v0.2) ∧ (v0.2 ≤ 1000000000000000) ∧ (∀ r2 : Int × Int, r2 = (M.pick b v0.2 (columns.length : Int)) → (0 ≤ r2.1) ∧ (r2.1 < (columns.length : Int)) ∧ cond ((decide ((nC columns r2.1).1 = kind)) == true) ((Sm (Ty.sl (Ty.int .u8)) b) ∧ (M.bytesOk b) ∧ (0 ≤ r2.2) ∧ (r2.2 ≤ 1000000000000000) ∧ (∀ r3 : Int × Int, r3 = (M.pick b r2.2 Z3) → cond (decide (Z0 < r3.1)) (K .ret (⟨[(6, .ptr 6 0)], [(1000000, .box [.data (Ty.sl (Ty.int .u8)) b, dI r3.2]), (6, .box [dI Z2, dI r2.1, dI Z0, dI Z0, .data Ty.str (⟨#[]⟩ : ByteArray)])]⟩ : St)) (nxT (LP91_0 b p columns kind) m K (s91_0 b p columns kind (wrap64 (v0.1 + Z1), r3.2))))) (nxT (LP91_0 b p columns kind) m K (s91_0 b p columns kind (wrap64 (v0.1 + Z1), r2.2))))) (S91l0_0  b p columns kind v0 m K)) (S91l0_0  b p columns kind v0 m K)) := by kernel_rfl
theorem con91_ok : Con1 P 91 c91 := conR C91 func91 (kC con41_ok (kC con129_ok kN)) fun args hp K h0 => by
 unfold c91 at h0
 dsimp only at h0
 obtain ⟨b, p, rfl, h00⟩ := hpR_elim h0
 obtain ⟨a0, a1, a2, rfl, _, h1⟩ := args3_elim h00
 obtain ⟨rfl, h2⟩ := withP_elim h1
 obtain ⟨columns, rfl, h3⟩ := withD_elim h2
 obtain ⟨kind, rfl, h4⟩ := withD_elim h3
 obtain ⟨h_b, h_columns, p0, p1, p2, hK⟩ := h4
 have h : ok (F.spec_l20Leaf b p columns kind) (fun r => K (.data TPart r.1) [(1000000, .box [.data (Ty.sl (Ty.int .u8)) b, dI r.2])]) := ok_of_eq (F.spec_l20Leaf_eq b p columns kind h_b h_columns p0 p1 p2) (hK _ rfl)
 refine ⟨rfl, ann91, (L91 b p columns kind), (.dat TPart), (loopsN1 (i0 := 0) (by kernel_rfl) ?_), ?_⟩
 ·rintro _ _ K ⟨hc0, v0, rfl, hv0, h⟩
  exact cast (lvc91_0 _ _ _ _ _ _ _).symm (loopW_step h (fun m1 hm0 h => (oC h (fun _ h => (oC h (fun _ h => ⟨h_b, (oG h fun g1 h => (oG h fun _ h => (oG h fun _ h => (oL h fun _ _ h => (oG h fun _ h => (oG h fun _ h => (oC h (fun _ h => ⟨h_b, ⟨g1, (oG h fun _ h => (oG h fun _ h => (oL h fun _ _ h => (oC h (fun _ h => h) fun _ h => (loopW_next (fun _ hm => ⟨hc0, hm⟩) hm0 _ rfl trivial h)))))⟩⟩) fun _ h => (loopW_next (fun _ hm => ⟨hc0, hm⟩) hm0 _ rfl trivial h))))))))⟩) fun _ h => ((ok_ret h :) trivial))) fun _ h => ((ok_ret h :) trivial))))
 ·rw [vc91]
  exact (loopW_start (fun m hm => ⟨trivial, hm⟩) _ rfl trivial (ok_then h (fun e0 h hv0 => ⟨h_b, ⟨p0, (oG h fun _ h => (oG h fun _ h => (oL h fun _ _ h => h)))⟩⟩) (fun q0 h => h)))
def c42r (n_ : Nat) : Con := ⟨[.any, .dat TCS, .dat TInt, .dat TInt], fun args hp K => hpR (fun b p => args4 (fun a0 a1 a2 a3 => withP a0 (withD TCS a1 fun columns => withD TInt a2 fun kind => withD TInt a3 fun deep => (Sm (Ty.sl (Ty.int .u8)) b) ∧ (Sm TCS columns) ∧ (M.bytesOk b) ∧ (0 ≤ p) ∧ (p + 40 * (M.eB deep : Int) ≤ 996000000000000) ∧ (deep ≤ 3) ∧ (deep.toNat < n_) ∧ (∀ r : LPt × Int, r = (M.l20Expr n_ b p columns kind deep) → K (.own 0 none) [(0, .arr false TPart r.1), (1000000, .box [.data (Ty.sl (Ty.int .u8)) b, dI r.2])]))) args []) hp, .plain, true⟩
@[reducible] def C42 (n_ : Nat) : Ctx := cx [(41, c41), (91, c91), (42, c42r n_)] 111 [] 0 false
def ann42 := an [[kp 15], [kp 65551], [kp 256], [kp 8388623], [kp 256], [kp 1099511627791], [kp 256], [kp 140737488355339], [kp 422212465065995], [kp 256], [.keep [0, 1, 3, 47, 67]], [kp 256], [.keep [0, 1, 3, 77]], [kp 256], [kp 523], [kp 256]] []
theorem vc42 (n_ : Nat) (b : (List Int)) (p : Int) (columns : LC) (kind : Int) (deep : Int) (K : KA) : vcT (C42 n_) noLoops ann42 f42 [.ptr 1000000 0, .data TCS columns, dI kind, dI deep] [(1000000, .box [.data (Ty.sl (Ty.int .u8)) b, dI p])] .raw K =
 (cond ((decide (deep < Z1)) == false) ((Sm (Ty.sl (Ty.int .u8)) b) ∧ (M.bytesOk b) ∧ (0 ≤ p) ∧ (p ≤ 1000000000000000) ∧ (∀ r1 : Int × Int, r1 = (M.pick b p Z4) → cond (decide (r1.1 = Z0)) ((Sm (Ty.sl (Ty.int .u8)) b) ∧ (Sm TCS columns) ∧ (M.bytesOk b) ∧ (0 ≤ r1.2) ∧ (r1.2 ≤ 997000000000000) ∧ (∀ r2 : TPart.D × Int, r2 = (M.l20Leaf b r1.2 columns kind) → K (.own 0 none) [(0, .arr false TPart [r2.1]), (1000000, .box [.data (Ty.sl (Ty.int .u8)) b, dI r2.2])])) (cond (decide (kind = Z1)) ((Sm (Ty.sl (Ty.int .u8)) b) ∧ (Sm TCS columns) ∧ (M.bytesOk b) ∧ (0 ≤ r1.2) ∧ (r1.2 + 40 * (M.eB (wrap64 (deep - Z1)) : Int) ≤ 996000000000000) ∧ ((wrap64 (deep - Z1)) ≤ 3) ∧ ((wrap64 (deep - Z1)).toNat < n_) ∧ (∀ r3 : LPt × Int, r3 = (M.l20Expr n_ b r1.2 columns kind (wrap64 (deep - Z1))) → (Sm (Ty.sl (Ty.int .u8)) b) ∧ (Sm TCS columns) ∧ (M.bytesOk b) ∧ (0 ≤ r3.2) ∧ (r3.2 ≤ 997000000000000) ∧ (∀ r4 : TPart.D × Int, r4 = (M.l20Leaf b r3.2 columns kind) → ((r3.1.length + [r4.1].length) * 48 ≤ lim) ∧ (((r3.1 ++ [r4.1]).length + ([(Z3, (Z0, ((Z0, (Z0, ((⟨#[]⟩ : ByteArray), ()))), ())))] : List TPart.D).length) * 48 ≤ lim) ∧ K (.own 0 none) [(0, .arr false TPart ((r3.1 ++ [r4.1]) ++ [(Z3, (Z0, ((Z0, (Z0, ((⟨#[]⟩ : ByteArray), ()))), ())))])), (1000000, .box [.data (Ty.sl (Ty.int .u8)) b, dI r4.2])]))) (cond (decide (kind = Z2)) ((Sm (Ty.sl (Ty.int .u8)) b) ∧ (Sm TCS columns) ∧ (M.bytesOk b) ∧ (0 ≤ r1.2) ∧ (r1.2 ≤ 997000000000000) ∧ (∀ r5 : TPart.D × Int, r5 = (M.l20Leaf b r1.2 columns kind) → K (.own 0 none) [(0, .arr false TPart [r5.1]), (1000000, .box [.data (Ty.sl (Ty.int .u8)) b, dI r5.2])])) ((Sm (Ty.sl (Ty.int .u8)) b) ∧ (M.bytesOk b) ∧ (0 ≤ r1.2) ∧ (r1.2 ≤ 1000000000000000) ∧ (∀ r6 : Int × Int, r6 = (M.pick b r1.2 Z6) → cond (decide (r6.1 = Z0)) ((Sm (Ty.sl (Ty.int .u8)) b) ∧ (Sm TCS columns) ∧ (M.bytesOk b) ∧ (0 ≤ r6.2) ∧ (r6.2 + 40 * (M.eB (wrap64 (deep - Z1)) : Int) ≤ 996000000000000) ∧ ((wrap64 (deep - Z1)) ≤ 3) ∧ ((wrap64 (deep - Z1)).toNat < n_) ∧ (∀ r7 : LPt × Int, r7 = (M.l20Expr n_ b r6.2 columns Z3 (wrap64 (deep - Z1))) → (Sm (Ty.sl (Ty.int .u8)) b) ∧ (Sm TCS columns) ∧ (M.bytesOk b) ∧ (0 ≤ r7.2) ∧ (r7.2 + 40 * (M.eB (wrap64 (deep - Z2)) : Int) ≤ 996000000000000) ∧ ((wrap64 (deep - Z2)) ≤ 3) ∧ ((wrap64 (deep - Z2)).toNat < n_) ∧ (∀ r8 : LPt × Int, r8 = (M.l20Expr n_ b r7.2 columns Z3 (wrap64 (deep - Z2))) → ((r7.1.length + r8.1.length) * 48 ≤ lim) ∧ (Sm (Ty.sl (Ty.int .u8)) b) ∧ (M.bytesOk b) ∧ (0 ≤ r8.2) ∧ (r8.2 ≤ 1000000000000000) ∧ (∀ r9 : Int × Int, r9 = (M.pick b r8.2 Z2) → (((r7.1 ++ r8.1).length + ([(wrap64 (Z5 + r9.1), (Z0, ((Z0, (Z0, ((⟨#[]⟩ : ByteArray), ()))), ())))] : List TPart.D).length) * 48 ≤ lim) ∧ K (.own 0 none) [(0, .arr false TPart ((r7.1 ++ r8.1) ++ [(wrap64 (Z5 + r9.1), (Z0, ((Z0, (Z0, ((⟨#[]⟩ : ByteArray), ()))), ())))])), (1000000, .box [.data (Ty.sl (Ty.int .u8)) b, dI r9.2])])))) (cond (decide (r6.1 = Z1)) ((Sm (Ty.sl (Ty.int .u8)) b) ∧ (Sm TCS columns) ∧ (M.bytesOk b) ∧ (0 ≤ r6.2) ∧ (r6.2 + 40 * (M.eB (wrap64 (deep - Z1)) : Int) ≤ 996000000000000) ∧ ((wrap64 (deep - Z1)) ≤ 3) ∧ ((wrap64 (deep - Z1)).toNat < n_) ∧ (∀ r10 : LPt × Int, r10 = (M.l20Expr n_ b r6.2 columns Z3 (wrap64 (deep - Z1))) → ((r10.1.length + ([((7 : Int), (Z0, ((Z0, (Z0, ((⟨#[]⟩ : ByteArray), ()))), ())))] : List TPart.D).length) * 48 ≤ lim) ∧ K (.own 0 none) [(0, .arr false TPart (r10.1 ++ [((7 : Int), (Z0, ((Z0, (Z0, ((⟨#[]⟩ : ByteArray), ()))), ())))])), (1000000, .box [.data (Ty.sl (Ty.int .u8)) b, dI r10.2])])) (cond (decide (r6.1 = Z2)) ((Sm (Ty.sl (Ty.int .u8)) b) ∧ (M.bytesOk b) ∧ (0 ≤ r6.2) ∧ (r6.2 ≤ 1000000000000000) ∧ (∀ r11 : Int × Int, r11 = (M.pick b r6.2 Z3) → (Sm (Ty.sl (Ty.int .u8)) b) ∧ (Sm TCS columns) ∧ (M.bytesOk b) ∧ (0 ≤ r11.2) ∧ (r11.2 + 40 * (M.eB (wrap64 (deep - Z1)) : Int) ≤ 996000000000000) ∧ ((wrap64 (deep - Z1)) ≤ 3) ∧ ((wrap64 (deep - Z1)).toNat < n_) ∧ (∀ r12 : LPt × Int, r12 = (M.l20Expr n_ b r11.2 columns (wrap64 (Z1 + r11.1)) (wrap64 (deep - Z1))) → ((r12.1.length + ([((8 : Int), (Z0, ((Z0, (Z0, ((⟨#[]⟩ : ByteArray), ()))), ())))] : List TPart.D).length) * 48 ≤ lim) ∧ K (.own 0 none) [(0, .arr false TPart (r12.1 ++ [((8 : Int), (Z0, ((Z0, (Z0, ((⟨#[]⟩ : ByteArray), ()))), ())))])), (1000000, .box [.data (Ty.sl (Ty.int .u8)) b, dI r12.2])]))) ((Sm (Ty.sl (Ty.int .u8)) b) ∧ (M.bytesOk b) ∧ (0 ≤ r6.2) ∧ (r6.2 ≤ 1000000000000000) ∧ (∀ r13 : Int × Int, r13 = (M.pick b r6.2 Z3) → (Sm (Ty.sl (Ty.int .u8)) b) ∧ (Sm TCS columns) ∧ (M.bytesOk b) ∧ (0 ≤ r13.2) ∧ (r13.2 + 40 * (M.eB (wrap64 (deep - Z1)) : Int) ≤ 996000000000000) ∧ ((wrap64 (deep - Z1)) ≤ 3) ∧ ((wrap64 (deep - Z1)).toNat < n_) ∧ (∀ r14 : LPt × Int, r14 = (M.l20Expr n_ b r13.2 columns (wrap64 (Z1 + r13.1)) (wrap64 (deep - Z1))) → (Sm (Ty.sl (Ty.int .u8)) b) ∧ (Sm TCS columns) ∧ (M.bytesOk b) ∧ (0 ≤ r14.2) ∧ (r14.2 ≤ 997000000000000) ∧ (∀ r15 : TPart.D × Int, r15 = (M.l20Leaf b r14.2 columns (wrap64 (Z1 + r13.1))) → ((r14.1.length + [r15.1].length) * 48 ≤ lim) ∧ (Sm (Ty.sl (Ty.int .u8)) b) ∧ (M.bytesOk b) ∧ (0 ≤ r15.2) ∧ (r15.2 ≤ 1000000000000000) ∧ (∀ r16 : Int × Int, r16 = (M.pick b r15.2 Z4) → (((r14.1 ++ [r15.1]).length + ([(Z4, (wrap64 (Z1 + r16.1), ((Z0, (Z0, ((⟨#[]⟩ : ByteArray), ()))), ())))] : List TPart.D).length) * 48 ≤ lim) ∧ K (.own 0 none) [(0, .arr false TPart ((r14.1 ++ [r15.1]) ++ [(Z4, (wrap64 (Z1 + r16.1), ((Z0, (Z0, ((⟨#[]⟩ : ByteArray), ()))), ())))])), (1000000, .box [.data (Ty.sl (Ty.int .u8)) b, dI r16.2])]))))))))))))) ((Sm (Ty.sl (Ty.int .u8)) b) ∧ (Sm TCS columns) ∧ (M.bytesOk b) ∧ (0 ≤ p) ∧ (p ≤ 997000000000000) ∧ (∀ r2 : TPart.D × Int, r2 = (M.l20Leaf b p columns kind) → K (.own 0 none) [(0, .arr false TPart [r2.1]), (1000000, .box [.data (Ty.sl (Ty.int .u8)) b, dI r2.2])]))) := by kernel_rfl
theorem con42r_ok : ∀ n_, Con1 P 42 (c42r n_)
 | 0 => conR (cx [] 111 [] 0 false) func42 kN fun args hp K h0 => by
  unfold c42r at h0
  dsimp only at h0
  obtain ⟨b, p, rfl, h00⟩ := hpR_elim h0
  obtain ⟨a0, a1, a2, a3, rfl, _, h1⟩ := args4_elim h00
  obtain ⟨rfl, h2⟩ := withP_elim h1
  obtain ⟨columns, rfl, h3⟩ := withD_elim h2
  obtain ⟨kind, rfl, h4⟩ := withD_elim h3
  obtain ⟨deep, rfl, h5⟩ := withD_elim h4
  obtain ⟨h_b, h_columns, p0, p1, p2, p3, p4, _⟩ := h5
  exact absurd p4 (Nat.not_lt_zero _)
 | n_ + 1 => (fun ih => conR (C42 n_) func42 (kC con41_ok (kC con91_ok (kC ih kN))) fun args hp K h0 => by
  unfold c42r at h0
  dsimp only at h0
  obtain ⟨b, p, rfl, h00⟩ := hpR_elim h0
  obtain ⟨a0, a1, a2, a3, rfl, _, h1⟩ := args4_elim h00
  obtain ⟨rfl, h2⟩ := withP_elim h1
  obtain ⟨columns, rfl, h3⟩ := withD_elim h2
  obtain ⟨kind, rfl, h4⟩ := withD_elim h3
  obtain ⟨deep, rfl, h5⟩ := withD_elim h4
  obtain ⟨h_b, h_columns, p0, p1, p2, p3, p4, hK⟩ := h5
  have h : ok (F.spec_l20Expr n_ b p columns kind deep) (fun r => K (.own 0 none) [(0, .arr false TPart r.1), (1000000, .box [.data (Ty.sl (Ty.int .u8)) b, dI r.2])]) := ok_of_eq (F.spec_l20Expr_eq n_ b p columns kind deep h_b h_columns p0 p1 p2 p3 p4) (hK _ rfl)
  refine ⟨rfl, ann42, noLoops, .raw, (no_loops (by kernel_rfl)), ?_⟩
  ·rw [vc42]
   exact (oC h (fun _ h => ⟨h_b, ⟨p0, ⟨p1, (oG h fun _ h => (oL h fun _ _ h => (oC h (fun _ h => ⟨h_b, ⟨h_columns, ⟨p0, (oG h fun _ h => (oG h fun _ h => (oL h fun _ _ h => h)))⟩⟩⟩) fun _ h => (oC h (fun _ h => ⟨h_b, ⟨h_columns, ⟨p0, (oG h fun _ h => (oG h fun _ h => (oG h fun _ h => (oG h fun _ h => (oL h fun _ _ h => ⟨h_b, ⟨h_columns, ⟨p0, (oG h fun _ h => (oG h fun _ h => (oL h fun _ _ h => (oG h fun _ h => (oG h fun _ h => h)))))⟩⟩⟩)))))⟩⟩⟩) fun _ h => (oC h (fun _ h => ⟨h_b, ⟨h_columns, ⟨p0, (oG h fun _ h => (oG h fun _ h => (oL h fun _ _ h => h)))⟩⟩⟩) fun _ h => ⟨h_b, ⟨p0, (oG h fun _ h => (oG h fun _ h => (oL h fun _ _ h => (oC h (fun _ h => ⟨h_b, ⟨h_columns, ⟨p0, (oG h fun _ h => (oG h fun _ h => (oG h fun _ h => (oG h fun _ h => (oL h fun _ _ h => ⟨h_b, ⟨h_columns, ⟨p0, (oG h fun _ h => (oG h fun _ h => (oG h fun _ h => (oG h fun _ h => (oL h fun _ _ h => (oG h fun _ h => ⟨h_b, ⟨p0, (oG h fun _ h => (oG h fun _ h => (oL h fun _ _ h => (oG h fun _ h => h))))⟩⟩))))))⟩⟩⟩)))))⟩⟩⟩) fun _ h => (oC h (fun _ h => ⟨h_b, ⟨h_columns, ⟨p0, (oG h fun _ h => (oG h fun _ h => (oG h fun _ h => (oG h fun _ h => (oL h fun _ _ h => (oG h fun _ h => h))))))⟩⟩⟩) fun _ h => (oC h (fun _ h => ⟨h_b, ⟨p0, (oG h fun _ h => (oG h fun _ h => (oL h fun _ _ h => ⟨h_b, ⟨h_columns, ⟨p0, (oG h fun _ h => (oG h fun _ h => (oG h fun _ h => (oG h fun _ h => (oL h fun _ _ h => (oG h fun _ h => h))))))⟩⟩⟩)))⟩⟩) fun _ h => ⟨h_b, ⟨p0, (oG h fun _ h => (oG h fun _ h => (oL h fun _ _ h => ⟨h_b, ⟨h_columns, ⟨p0, (oG h fun _ h => (oG h fun _ h => (oG h fun _ h => (oG h fun _ h => (oL h fun _ _ h => ⟨h_b, ⟨h_columns, ⟨p0, (oG h fun _ h => (oG h fun _ h => (oL h fun _ _ h => (oG h fun _ h => ⟨h_b, ⟨p0, (oG h fun _ h => (oG h fun _ h => (oL h fun _ _ h => (oG h fun _ h => h))))⟩⟩))))⟩⟩⟩)))))⟩⟩⟩)))⟩⟩))))))⟩⟩)))))⟩⟩⟩) fun _ h => ⟨h_b, ⟨h_columns, ⟨p0, ⟨p1, (oG h fun _ h => (oL h fun _ _ h => h))⟩⟩⟩⟩)) (con42r_ok n_)
def c42 : Con := c42r 64
theorem con42_ok : Con1 P 42 c42 := con42r_ok 64
def c90 : Con := ⟨[.any, .dat TCS, .dat TInt], fun args hp K => hpR (fun b p => args3 (fun a0 a1 a2 => withP a0 (withD TCS a1 fun columns => withD TInt a2 fun n => (Sm (Ty.sl (Ty.int .u8)) b) ∧ (Sm TCS columns) ∧ (M.bytesOk b) ∧ (0 ≤ p) ∧ (p ≤ 995000000000000) ∧ (∀ r : LPt × Int, r = (M.l20Wild b p columns n) → K (.own 0 none) [(0, .arr false TPart r.1), (1000000, .box [.data (Ty.sl (Ty.int .u8)) b, dI r.2])]))) args []) hp, .plain, true⟩
@[reducible] def C90 : Ctx := cx [(41, c41), (42, c42), (106, c106), (130, c130)] 49 [] 0 false
def ann90 := an [[kp 7], [kp 133], [kp 262273], [kp 1048705], [kp 128], [kp 135266433], [kp 128], [kp 34359738497], [kp 128], [kp 64]] []
theorem vc90 (b : (List Int)) (p : Int) (columns : LC) (n : Int) (K : KA) : vcT C90 noLoops ann90 f90 [.ptr 1000000 0, .data TCS columns, dI n] [(1000000, .box [.data (Ty.sl (Ty.int .u8)) b, dI p])] .raw K =
 ((Sm (Ty.sl (Ty.int .u8)) b) ∧ (M.bytesOk b) ∧ (0 ≤ p) ∧ (p ≤ 1000000000000000) ∧ (∀ r1 : Int × Int, r1 = (M.pick b p Z4) → (0 ≤ r1.1) ∧ (r1.1 < ([Z3, Z3, Z1, Z2].length : Int)) ∧ (Sm (Ty.sl (Ty.int .u8)) b) ∧ (Sm TCS columns) ∧ (M.bytesOk b) ∧ (0 ≤ r1.2) ∧ (r1.2 + 40 * (M.eB Z3 : Int) ≤ 996000000000000) ∧ (Z3 ≤ 3) ∧ (Z3.toNat < 64) ∧ (∀ r2 : LPt × Int, r2 = (M.l20Expr 64 b r1.2 columns (nI [Z3, Z3, Z1, Z2] r1.1) Z3) → (Sm (Ty.sl (Ty.int .u8)) b) ∧ (M.bytesOk b) ∧ (0 ≤ r2.2) ∧ (r2.2 ≤ 999000000000000) ∧ (∀ r3 : Bool × Int, r3 = (M.odd b r2.2 n) → cond r3.1 ((Sm (Ty.sl (Ty.int .u8)) b) ∧ (M.bytesOk b) ∧ (0 ≤ r3.2) ∧ (r3.2 ≤ 1000000000000000) ∧ (∀ r4 : Int × Int, r4 = (M.pick b r3.2 Z3) → cond (decide (r4.1 = Z0)) ((Sm (Ty.sl (Ty.int .u8)) b) ∧ (M.bytesOk b) ∧ (0 ≤ r4.2) ∧ (r4.2 ≤ 1000000000000000) ∧ (∀ r5 : Int × Int, r5 = (M.pick b r4.2 (r2.1.length : Int)) → (0 ≤ Z0) ∧ (Z0 ≤ r5.1) ∧ (r5.1 ≤ (r2.1.length : Int)) ∧ (r5.1 = r5.1) ∧ (Z0 = 0) ∧ K (.own 0 none) [(0, .arr false TPart (r2.1.take r5.1.toNat)), (1000000, .box [.data (Ty.sl (Ty.int .u8)) b, dI r5.2])])) (cond (decide (r4.1 = Z1)) ((Sm (Ty.sl (Ty.int .u8)) b) ∧ (M.bytesOk b) ∧ (0 ≤ r4.2) ∧ (r4.2 ≤ 1000000000000000) ∧ (∀ r6 : Int × Int, r6 = (M.pick b r4.2 (r2.1.length : Int)) → (Sm (Ty.sl (Ty.int .u8)) b) ∧ (M.bytesOk b) ∧ (0 ≤ r6.2) ∧ (r6.2 ≤ 1000000000000000) ∧ (∀ r7 : Int × Int, r7 = (M.pick b r6.2 (10 : Int)) → (Sm (Ty.sl (Ty.int .u8)) b) ∧ (M.bytesOk b) ∧ (0 ≤ r7.2) ∧ (r7.2 ≤ 1000000000000000) ∧ (∀ r8 : Int × Int, r8 = (M.pick b r7.2 Z5) → (0 ≤ r6.1) ∧ (r6.1 < (r2.1.length : Int)) ∧ (let y1 : LPt := (r2.1.set r6.1.toNat (r7.1, (r8.1, ((Z0, (Z0, ((⟨#[]⟩ : ByteArray), ()))), ())))); K (.own 0 none) [(0, .arr false TPart y1), (1000000, .box [.data (Ty.sl (Ty.int .u8)) b, dI r8.2])]))))) ((Sm (Ty.sl (Ty.int .u8)) b) ∧ (M.bytesOk b) ∧ (0 ≤ r4.2) ∧ (r4.2 ≤ 998000000000000) ∧ (∀ r9 : TValue.D × Int, r9 = (M.l20Value b r4.2 Z2) → ((r2.1.length + [(Z1, (Z0, (r9.1, ())))].length) * 48 ≤ lim) ∧ K (.own 0 none) [(0, .arr false TPart (r2.1 ++ [(Z1, (Z0, (r9.1, ())))])), (1000000, .box [.data (Ty.sl (Ty.int .u8)) b, dI r9.2])]))))) (K (.own 0 none) [(0, .arr false TPart r2.1), (1000000, .box [.data (Ty.sl (Ty.int .u8)) b, dI r3.2])]))))) := by kernel_rfl
theorem con90_ok : Con1 P 90 c90 := conR C90 func90 (kC con41_ok (kC con42_ok (kC con106_ok (kC con130_ok kN)))) fun args hp K h0 => by
 unfold c90 at h0
 dsimp only at h0
 obtain ⟨b, p, rfl, h00⟩ := hpR_elim h0
 obtain ⟨a0, a1, a2, rfl, _, h1⟩ := args3_elim h00
 obtain ⟨rfl, h2⟩ := withP_elim h1
 obtain ⟨columns, rfl, h3⟩ := withD_elim h2
 obtain ⟨n, rfl, h4⟩ := withD_elim h3
 obtain ⟨h_b, h_columns, p0, p1, p2, hK⟩ := h4
 have h : ok (F.spec_l20Wild b p columns n) (fun r => K (.own 0 none) [(0, .arr false TPart r.1), (1000000, .box [.data (Ty.sl (Ty.int .u8)) b, dI r.2])]) := ok_of_eq (F.spec_l20Wild_eq b p columns n h_b h_columns p0 p1 p2) (hK _ rfl)
 refine ⟨rfl, ann90, noLoops, .raw, (no_loops (by kernel_rfl)), ?_⟩
 ·rw [vc90]
  exact ⟨h_b, ⟨p0, ⟨p1, (oG h fun _ h => (oL h fun _ _ h => (oG h fun _ h => (oG h fun _ h => ⟨h_b, ⟨h_columns, ⟨p0, (oG h fun _ h => (oG h fun _ h => (oG h fun _ h => (oG h fun _ h => (oL h fun _ _ h => ⟨h_b, ⟨p0, (oG h fun _ h => (oG h fun _ h => (oL h fun _ _ h => (oC h (fun _ h => ⟨h_b, ⟨p0, (oG h fun _ h => (oG h fun _ h => (oL h fun _ _ h => (oC h (fun _ h => ⟨h_b, ⟨p0, (oG h fun _ h => (oG h fun _ h => (oL h fun _ _ h => ⟨(Int.natCast_nonneg 0), (oG h fun _ h => (oG h fun _ h => ⟨rfl, ⟨rfl, h⟩⟩))⟩)))⟩⟩) fun _ h => (oC h (fun _ h => ⟨h_b, ⟨p0, (oG h fun _ h => (oG h fun _ h => (oL h fun _ _ h => ⟨h_b, ⟨p0, (oG h fun _ h => (oG h fun _ h => (oL h fun _ _ h => ⟨h_b, ⟨p0, (oG h fun _ h => (oG h fun _ h => (oL h fun _ _ h => (oG h fun _ h => (oG h fun _ h => (have h := ok_let h _ rfl; h))))))⟩⟩)))⟩⟩)))⟩⟩) fun _ h => ⟨h_b, ⟨p0, (oG h fun _ h => (oG h fun _ h => (oL h fun _ _ h => (oG h fun _ h => h))))⟩⟩)))))⟩⟩) fun _ h => h))))⟩⟩)))))⟩⟩⟩))))⟩⟩⟩
def c40 : Con := ⟨[.any, .dat TInt], fun args hp K => hpR (fun b p => args2 (fun a0 a1 => withP a0 (withD TInt a1 fun n => (Sm (Ty.sl (Ty.int .u8)) b) ∧ (M.bytesOk b) ∧ (0 ≤ p) ∧ (p ≤ 994000000000000) ∧ (∀ r : LC × LV × LPt × Int, r = (M.l20Asked b p n) → K (.tup [.data TCS r.1, .data TVS r.2.1, .data TPS r.2.2.1]) [(1000000, .box [.data (Ty.sl (Ty.int .u8)) b, dI r.2.2.2])]))) args []) hp, .plain, true⟩
@[reducible] def C40 : Ctx := cx [(88, c88), (89, c89), (90, c90)] 22 [] 0 false
def ann40 := an [[kp 3], [kp 131], [kp 112]] []
theorem vc40 (b : (List Int)) (p : Int) (n : Int) (K : KA) : vcT C40 noLoops ann40 f40 [.ptr 1000000 0, dI n] [(1000000, .box [.data (Ty.sl (Ty.int .u8)) b, dI p])] (.tup [TCS, TVS, TPS]) K =
 ((Sm (Ty.sl (Ty.int .u8)) b) ∧ (M.bytesOk b) ∧ (0 ≤ p) ∧ (p ≤ 998000000000000) ∧ (∀ r1 : LC × Int, r1 = (M.l20Columns b p (wrap64 (Z3 * n))) → (Sm (Ty.sl (Ty.int .u8)) b) ∧ (Sm TCS r1.1) ∧ (M.bytesOk b) ∧ (0 ≤ r1.2) ∧ (r1.2 ≤ 997000000000000) ∧ (∀ r2 : LV × Int, r2 = (M.l20Fit b r1.2 r1.1 (wrap64 (Z3 * n))) → (Sm (Ty.sl (Ty.int .u8)) b) ∧ (Sm TCS r1.1) ∧ (M.bytesOk b) ∧ (0 ≤ r2.2) ∧ (r2.2 ≤ 995000000000000) ∧ (∀ r3 : LPt × Int, r3 = (M.l20Wild b r2.2 r1.1 n) → K (.tup [.data TCS r1.1, .data TVS r2.1, .data TPS r3.1]) [(1000000, .box [.data (Ty.sl (Ty.int .u8)) b, dI r3.2])])))) := by kernel_rfl
theorem con40_ok : Con1 P 40 c40 := conR C40 func40 (kC con88_ok (kC con89_ok (kC con90_ok kN))) fun args hp K h0 => by
 unfold c40 at h0
 dsimp only at h0
 obtain ⟨b, p, rfl, h00⟩ := hpR_elim h0
 obtain ⟨a0, a1, rfl, _, h1⟩ := args2_elim h00
 obtain ⟨rfl, h2⟩ := withP_elim h1
 obtain ⟨n, rfl, h3⟩ := withD_elim h2
 obtain ⟨h_b, p0, p1, p2, hK⟩ := h3
 have h : ok (F.spec_l20Asked b p n) (fun r => K (.tup [.data TCS r.1, .data TVS r.2.1, .data TPS r.2.2.1]) [(1000000, .box [.data (Ty.sl (Ty.int .u8)) b, dI r.2.2.2])]) := ok_of_eq (F.spec_l20Asked_eq b p n h_b p0 p1 p2) (hK _ rfl)
 refine ⟨rfl, ann40, noLoops, (.tup [TCS, TVS, TPS]), (no_loops (by kernel_rfl)), ?_⟩
 ·rw [vc40]
  exact ⟨h_b, ⟨p0, ⟨p1, (oG h fun _ h => (oL h fun _ _ h => ⟨h_b, (oG h fun g1 h => ⟨p0, (oG h fun _ h => (oG h fun _ h => (oL h fun _ _ h => ⟨h_b, ⟨g1, ⟨p0, (oG h fun _ h => (oG h fun _ h => (oL h fun _ _ h => h)))⟩⟩⟩)))⟩)⟩))⟩⟩⟩
def c9 : Con := ⟨[.dat (Ty.sl (Ty.int .u8))], fun args hp K => g1 (pD (Ty.sl (Ty.int .u8))) (fun code => (Sm (Ty.sl (Ty.int .u8)) code) ∧ (M.bytesOk code) ∧ (∀ r : LC × LV × LPt, r = (M.DrawFoldedRow code) → K (.tup [.data TCS r.1, .data TVS r.2.1, .data TPS r.2.2]) [])) args hp, .plain, false⟩
@[reducible] def C9 : Ctx := cx [(40, c40), (41, c41), (42, c42)] 29 [(39, T39)] 0 false
def ann9 := an [[kp 1], [kp 32], [kp 480], [kp 524768], [kp 448], [kp 28]] []
theorem vc9 (code : (List Int)) (K : KA) : vcT C9 noLoops ann9 f9 [.data (Ty.sl (Ty.int .u8)) code] [] (.tup [TCS, TVS, TPS]) K =
 (cond (decide ((2000 : Int) < (code.length : Int))) ((0 ≤ Z0) ∧ (Z0 ≤ (2000 : Int)) ∧ ((2000 : Int) ≤ (code.length : Int)) ∧ ((2000 : Int) = (2000 : Int)) ∧ (Sm (Ty.sl (Ty.int .u8)) (cutList code (some (Z0, (2000 : Int))))) ∧ (M.bytesOk (cutList code (some (Z0, (2000 : Int))))) ∧ (0 ≤ Z0) ∧ (Z0 ≤ 994000000000000) ∧ (∀ r1 : LC × LV × LPt × Int, r1 = (M.l20Asked (cutList code (some (Z0, (2000 : Int)))) Z0 (12 : Int)) → (Sm (Ty.sl (Ty.int .u8)) (cutList code (some (Z0, (2000 : Int))))) ∧ (M.bytesOk (cutList code (some (Z0, (2000 : Int))))) ∧ (0 ≤ r1.2.2.2) ∧ (r1.2.2.2 ≤ 1000000000000000) ∧ (∀ r2 : Int × Int, r2 = (M.pick (cutList code (some (Z0, (2000 : Int)))) r1.2.2.2 Z2) → cond (decide (r2.1 = Z0)) ((Sm (Ty.sl (Ty.int .u8)) (cutList code (some (Z0, (2000 : Int))))) ∧ (M.bytesOk (cutList code (some (Z0, (2000 : Int))))) ∧ (0 ≤ r2.2) ∧ (r2.2 ≤ 1000000000000000) ∧ (∀ r3 : Int × Int, r3 = (M.pick (cutList code (some (Z0, (2000 : Int)))) r2.2 Z3) → (Sm (Ty.sl (Ty.int .u8)) (cutList code (some (Z0, (2000 : Int))))) ∧ (Sm TCS []) ∧ (M.bytesOk (cutList code (some (Z0, (2000 : Int))))) ∧ (0 ≤ r3.2) ∧ (r3.2 + 40 * (M.eB Z3 : Int) ≤ 996000000000000) ∧ (Z3 ≤ 3) ∧ (Z3.toNat < 64) ∧ (∀ r4 : LPt × Int, r4 = (M.l20Expr 64 (cutList code (some (Z0, (2000 : Int)))) r3.2 [] (wrap64 (Z1 + r3.1)) Z3) → K (.tup [.data TCS r1.1, .data TVS r1.2.1, .data TPS r4.1]) []))) (K (.tup [.data TCS r1.1, .data TVS r1.2.1, .data TPS r1.2.2.1]) [])))) ((Sm (Ty.sl (Ty.int .u8)) code) ∧ (M.bytesOk code) ∧ (0 ≤ Z0) ∧ (Z0 ≤ 994000000000000) ∧ (∀ r1 : LC × LV × LPt × Int, r1 = (M.l20Asked code Z0 (12 : Int)) → (Sm (Ty.sl (Ty.int .u8)) code) ∧ (M.bytesOk code) ∧ (0 ≤ r1.2.2.2) ∧ (r1.2.2.2 ≤ 1000000000000000) ∧ (∀ r2 : Int × Int, r2 = (M.pick code r1.2.2.2 Z2) → cond (decide (r2.1 = Z0)) ((Sm (Ty.sl (Ty.int .u8)) code) ∧ (M.bytesOk code) ∧ (0 ≤ r2.2) ∧ (r2.2 ≤ 1000000000000000) ∧ (∀ r3 : Int × Int, r3 = (M.pick code r2.2 Z3) → (Sm (Ty.sl (Ty.int .u8)) code) ∧ (Sm TCS []) ∧ (M.bytesOk code) ∧ (0 ≤ r3.2) ∧ (r3.2 + 40 * (M.eB Z3 : Int) ≤ 996000000000000) ∧ (Z3 ≤ 3) ∧ (Z3.toNat < 64) ∧ (∀ r4 : LPt × Int, r4 = (M.l20Expr 64 code r3.2 [] (wrap64 (Z1 + r3.1)) Z3) → K (.tup [.data TCS r1.1, .data TVS r1.2.1, .data TPS r4.1]) []))) (K (.tup [.data TCS r1.1, .data TVS r1.2.1, .data TPS r1.2.2.1]) []))))) := by kernel_rfl
theorem con9_ok : Con1 P 9 c9 := conR C9 func9 (kC con40_ok (kC con41_ok (kC con42_ok (kI inlOk39 kN)))) fun args hp K h0 => by
 obtain ⟨code, rfl, rfl, h_code, p0, hK⟩ := g1e h0
 have h : ok (F.spec_DrawFoldedRow code) (fun r => K (.tup [.data TCS r.1, .data TVS r.2.1, .data TPS r.2.2]) []) := ok_of_eq (F.spec_DrawFoldedRow_eq code h_code p0) (hK _ rfl)
 refine ⟨rfl, ann9, noLoops, (.tup [TCS, TVS, TPS]), (no_loops (by kernel_rfl)), ?_⟩
 ·rw [vc9]
  exact (oC h (fun _ h => ⟨(Int.natCast_nonneg 0), (oG h fun _ h => (oG h fun _ h => ⟨rfl, ⟨(sm_cut h_code _), (oG h fun g1 h => (oG h fun _ h => (oG h fun _ h => (oL h fun _ _ h => ⟨(sm_cut h_code _), ⟨g1, (oG h fun _ h => (oG h fun _ h => (oL h fun _ _ h => (oC h (fun _ h => ⟨(sm_cut h_code _), ⟨g1, (oG h fun _ h => (oG h fun _ h => (oL h fun _ _ h => ⟨(sm_cut h_code _), ⟨(sm_nil TColumn), ⟨g1, (oG h fun _ h => (oG h fun _ h => (oG h fun _ h => (oG h fun _ h => (oL h fun _ _ h => h)))))⟩⟩⟩)))⟩⟩) fun _ h => h))))⟩⟩))))⟩⟩))⟩) fun _ h => ⟨h_code, ⟨p0, (oG h fun _ h => (oG h fun _ h => (oL h fun _ _ h => ⟨h_code, ⟨p0, (oG h fun _ h => (oG h fun _ h => (oL h fun _ _ h => (oC h (fun _ h => ⟨h_code, ⟨p0, (oG h fun _ h => (oG h fun _ h => (oL h fun _ _ h => ⟨h_code, ⟨(sm_nil TColumn), ⟨p0, (oG h fun _ h => (oG h fun _ h => (oG h fun _ h => (oG h fun _ h => (oL h fun _ _ h => h)))))⟩⟩⟩)))⟩⟩) fun _ h => h))))⟩⟩)))⟩⟩)
def c67 : Con := ⟨[.dat TInt, .dat TInt, .dat TInt], fun args hp K => g3 (pD TInt) (pD TInt) (pD TInt) (fun n low high => K (dB (M.inR n low high)) []) args hp, .plain, false⟩
@[reducible] def C67 : Ctx := cx [] 15 [] 0 false
def ann67 := an [[kp 7], [kp 64]] []
theorem vc67 (n : Int) (low : Int) (high : Int) (K : KA) : vcT C67 noLoops ann67 f67 [dI n, dI low, dI high] [] (.dat Ty.bool) K =
 (cond ((decide (low ≤ n)) == true) (K (dB (decide (n ≤ high))) []) (K (dB false) [])) := by kernel_rfl
theorem con67_ok : Con1 P 67 c67 := conR C67 func67 kN fun args hp K h0 => by
 obtain ⟨n, low, high, rfl, rfl, hK⟩ := g3e h0
 have h : ok (F.impl_between n low high) (fun r => K (dB r) []) := ok_of_eq (F.impl_between_eq n low high) hK
 refine ⟨rfl, ann67, noLoops, (.dat Ty.bool), (no_loops (by kernel_rfl)), ?_⟩
 ·rw [vc67]
  exact (oC h (fun _ h => h) fun _ h => h)
def c98 : Con := ⟨[.dat TColumn], fun args hp K => g1 (pD TColumn) (fun c => K (dB (!M.columnOk c)) []) args hp, .plain, false⟩
@[reducible] def C98 : Ctx := cx [(67, c67)] 7 [] 0 false
def ann98 := an [[.fixRow 1 TColumn, kp 2], [kp 4]] []
theorem vc98 (c : TColumn.D) (K : KA) : vcT C98 noLoops ann98 f98 [.data TColumn c] [] (.dat Ty.bool) K =
 (K (dB (!(M.inR c.1 Z1 Z3))) []) := by kernel_rfl
theorem con98_ok : Con1 P 98 c98 := conR C98 func98 (kC con67_ok kN) fun args hp K h0 => by
 obtain ⟨c, rfl, rfl, hK⟩ := g1e h0
 have h : ok (F.impl_ColumnsOk_1 c) (fun r => K (dB r) []) := ok_of_eq (F.impl_ColumnsOk_1_eq c) hK
 refine ⟨rfl, ann98, noLoops, (.dat Ty.bool), (no_loops (by kernel_rfl)), ?_⟩
 ·rw [vc98]
  exact h
def c146 : Con := ⟨[.lent TColumn, .any], fun args hp K => args2 (fun a0 a1 => withB TColumn a0 fun xs => withF 98 a1 (caps0 ((Sm TCS xs) ∧ K (dI (M.idx (t := TColumn) (fun e => !M.columnOk e) xs)) []))) args hp, .plain, false⟩
@[reducible] def C146 : Ctx := cx [(98, c98)] 19 [] 0 false
def ann146 := an [[kp 3], [kp 387], [kp 899], [kp 419], [kp 65955], [kp 16], [kp 387], [kp 16]] [[kp 0]]
@[reducible] def s146_0 (xs : LC) (i0 : Int) (v0 : Unit) : St := ⟨[(0, .brw TColumn xs), (1, .fn 98 []), (7, dI (xs.length : Int)), (8, dI i0)], []⟩
@[reducible] def LP146_0 (xs : LC) (m : Nat) (st_ : St) (K : KX) : Prop := True ∧ LoopI (s146_0 xs) Z0 (xs.length : Int) (F.IndexFunc_impl_ColumnsOk_1_l0 xs) (fun v0 : Unit => True) (outD (fun v0 : Unit => True → K (.exit 0) (⟨[], []⟩ : St)) (fun q0 : Int => K .ret (⟨[(4, dI q0)], []⟩ : St))) m st_
def L146 (xs : LC) : Loops := lp1 0 (LP146_0 xs)
theorem vc146 (xs : LC) (K : KA) : vcT C146 (L146 xs) ann146 f146 [.brw TColumn xs, .fn 98 []] [] (.dat TInt) K =
 (∃ m_, True ∧ LoopI (s146_0 xs) Z0 (xs.length : Int) (F.IndexFunc_impl_ColumnsOk_1_l0 xs) (fun v0 : Unit => True) (outD (fun v0 : Unit => True → K (dI (-1 : Int)) []) (fun q0 : Int => K (dI q0) [])) m_ (s146_0 xs Z0 ())) := by kernel_rfl
theorem lvc146_0 (xs : LC)  (i0 : Int) (v0 : Unit) (m : Nat) (K : KX) : lvT C146 (L146 xs) ann146 f146 0 0 (s146_0 xs i0 v0) m K =
 (cond (decide (i0 < (xs.length : Int))) ((0 ≤ i0) ∧ (i0 < (xs.length : Int)) ∧ cond (!M.columnOk (nC xs i0)) (K .ret (⟨[(4, dI i0)], []⟩ : St)) (nxT (LP146_0 xs) m K (s146_0 xs (wrap64 (i0 + Z1)) ()))) (K (.exit 0) (⟨[], []⟩ : St))) := by kernel_rfl
theorem con146_ok : Con1 P 146 c146 := conR C146 func146 (kC con98_ok kN) fun args hp K h0 => by
 obtain ⟨a0, a1, rfl, rfl, h1⟩ := args2_elim h0
 obtain ⟨xs, rfl, h2⟩ := withB_elim h1
 obtain ⟨cs1, rfl, h3⟩ := withF_elim h2
 obtain ⟨rfl, h4⟩ := caps0_elim h3
 obtain ⟨h_xs, hK⟩ := h4
 have h : ok (F.IndexFunc_impl_ColumnsOk_1 xs) (fun r => K (dI r) []) := ok_of_eq (F.IndexFunc_impl_ColumnsOk_1_eq xs h_xs) hK
 refine ⟨rfl, ann146, (L146 xs), (.dat TInt), (loopsN1 (i0 := 0) (by kernel_rfl) ?_), ?_⟩
 ·rintro _ _ K ⟨hc0, i0, v0, rfl, hl0, rfl, hv0, h⟩
  exact cast (lvc146_0 _ _ _ _ _).symm (loopI_step h (fun ht0 h => ⟨hl0, ⟨ht0, (oC h (fun _ h => h) fun _ h => (loopI_next (fun _ hm => ⟨hc0, hm⟩) _ rfl hl0 low0 ht0 (sm_len h_xs) trivial h))⟩⟩) fun h => (h trivial))
 ·rw [vc146]
  exact (loopI_start (fun m hm => ⟨trivial, hm⟩) Z0 _ rfl (Int.natCast_nonneg 0) trivial (ok_then h (fun v0 h hv0 => h) (fun q0 h => h)))
def c97 : Con := ⟨[.lent TColumn, .any], fun args hp K => args2 (fun a0 a1 => withB TColumn a0 fun xs => withF 98 a1 (caps0 ((Sm TCS xs) ∧ K (dB (List.any xs (fun e => !M.columnOk e))) []))) args hp, .plain, false⟩
@[reducible] def C97 : Ctx := cx [(98, c98), (146, c146)] 9 [] 0 false
def ann97 := an [[kp 3], [kp 16]] []
theorem vc97 (xs : LC) (K : KA) : vcT C97 noLoops ann97 f97 [.brw TColumn xs, .fn 98 []] [] (.dat Ty.bool) K =
 ((Sm TCS xs) ∧ K (dB (decide (Z0 ≤ (M.idx (t := TColumn) (fun e => !M.columnOk e) xs)))) []) := by kernel_rfl
theorem con97_ok : Con1 P 97 c97 := conR C97 func97 (kC con98_ok (kC con146_ok kN)) fun args hp K h0 => by
 obtain ⟨a0, a1, rfl, rfl, h1⟩ := args2_elim h0
 obtain ⟨xs, rfl, h2⟩ := withB_elim h1
 obtain ⟨cs1, rfl, h3⟩ := withF_elim h2
 obtain ⟨rfl, h4⟩ := caps0_elim h3
 obtain ⟨h_xs, hK⟩ := h4
 have h : ok (F.ContainsFunc_impl_ColumnsOk_1 xs) (fun r => K (dB r) []) := ok_of_eq (F.ContainsFunc_impl_ColumnsOk_1_eq xs h_xs) hK
 refine ⟨rfl, ann97, noLoops, (.dat Ty.bool), (no_loops (by kernel_rfl)), ?_⟩
 ·rw [vc97]
  exact ⟨h_xs, h⟩
def c49 : Con := ⟨[.dat TCS], fun args hp K => g1 (pD TCS) (fun columns => (Sm TCS columns) ∧ K (dB (M.columnsOk columns)) []) args hp, .plain, false⟩
@[reducible] def C49 : Ctx := cx [(97, c97)] 11 [] 0 false
def ann49 := an [[kp 1], [kp 4]] []
theorem vc49 (columns : LC) (K : KA) : vcT C49 noLoops ann49 f49 [.data TCS columns] [] (.dat Ty.bool) K =
 (cond ((decide ((columns.length : Int) ≤ Z4)) == true) ((Sm TCS columns) ∧ K (dB (!(List.any columns (fun e => !M.columnOk e)))) []) (K (dB false) [])) := by kernel_rfl
theorem con49_ok : Con1 P 49 c49 := conR C49 func49 (kC con97_ok kN) fun args hp K h0 => by
 obtain ⟨columns, rfl, rfl, h_columns, hK⟩ := g1e h0
 have h : ok (F.impl_ColumnsOk columns) (fun r => K (dB r) []) := ok_of_eq (F.impl_ColumnsOk_eq columns h_columns) hK
 refine ⟨rfl, ann49, noLoops, (.dat Ty.bool), (no_loops (by kernel_rfl)), ?_⟩
 ·rw [vc49]
  exact (oC h (fun _ h => ⟨h_columns, h⟩) fun _ h => h)
def c50 : Con := ⟨[.dat TPart], fun args hp K => g1 (pD TPart) (fun p => (Sm TPart p) ∧ K (dI (M.takes p)) []) args hp, .plain, false⟩
@[reducible] def C50 : Ctx := cx [] 13 [] 0 false
def ann50 := an [[.fixRow 1 TPart, kp 2], [kp 16], [kp 48], [kp 48], [kp 48], [kp 48], [kp 4], [kp 1040], [kp 1024], [kp 4], [kp 4]] []
@[reducible] def S50_0 (p : TPart.D) (K : KA) : Prop := cond (decide (p.1 = (7 : Int))) (cond (decide (p.1 = (7 : Int))) (K (dI Z1) []) (K (dI Z0) [])) (cond (decide (p.1 = (8 : Int))) (K (dI Z1) []) (K (dI Z0) []))
theorem vc50 (p : TPart.D) (K : KA) : vcT C50 noLoops ann50 f50 [.data TPart p] [] (.dat TInt) K =
 (cond (decide (p.1 = Z3)) (cond (decide (p.1 = Z3)) (K (dI Z2) []) (S50_0 p K)) (cond (decide (p.1 = Z4)) (cond (decide (p.1 = Z4)) (K (dI Z2) []) (S50_0 p K)) (cond (decide (p.1 = Z5)) (cond (decide (p.1 = Z5)) (K (dI Z2) []) (S50_0 p K)) (cond (decide (p.1 = Z6)) (K (dI Z2) []) (S50_0 p K))))) := by kernel_rfl
theorem con50_ok : Con1 P 50 c50 := conR C50 func50 kN fun args hp K h0 => by
 obtain ⟨p, rfl, rfl, h_p, hK⟩ := g1e h0
 have h : ok (F.impl_Part_takes p) (fun r => K (dI r) []) := ok_of_eq (F.impl_Part_takes_eq p h_p) hK
 refine ⟨rfl, ann50, noLoops, (.dat TInt), (no_loops (by kernel_rfl)), ?_⟩
 ·rw [vc50]
  exact (oC h (fun b_1 h => (cond_t b_1 h)) fun _ h => (oC h (fun b_6 h => (cond_t b_6 h)) fun _ h => (oC h (fun b_8 h => (cond_t b_8 h)) fun _ h => (oC h (fun _ h => h) fun _ h => (oC h (fun b_11 h => (cond_t b_11 h)) fun _ h => (oC h (fun _ h => h) fun _ h => h))))))
def c147 : Con := ⟨[.dat Ty.str], fun args hp K => g1 (pD Ty.str) (fun s => (Sm Ty.str s) ∧ K (dB (M.lower (byteInts s))) []) args hp, .plain, false⟩
@[reducible] def C147 : Ctx := cx [(67, c67)] 17 [] 0 false
def ann147 := an [[kp 1], [kp 448], [kp 960], [kp 464], [kp 33216], [kp 4], [kp 448], [kp 4]] [[kp 0]]
@[reducible] def s147_0 (s : ByteArray) (i0 : Int) (v0 : Unit) : St := ⟨[(6, .data (Ty.sl (Ty.int .u8)) (byteInts s)), (7, dI ((byteInts s).length : Int)), (8, dI i0)], []⟩
@[reducible] def LP147_0 (s : ByteArray) (m : Nat) (st_ : St) (K : KX) : Prop := True ∧ LoopE (t := (Ty.int .u8)) (s147_0 s) (byteInts s) (F.impl_letters_l0 s) (fun v0 : Unit => True) (outD (fun v0 : Unit => True → K (.exit 0) (⟨[], []⟩ : St)) (fun q0 : Unit => K .ret (⟨[(2, dB false)], []⟩ : St))) m st_
def L147 (s : ByteArray) : Loops := lp1 0 (LP147_0 s)
theorem vc147 (s : ByteArray) (K : KA) : vcT C147 (L147 s) ann147 f147 [.data Ty.str s] [] (.dat Ty.bool) K =
 (∃ m_, True ∧ LoopE (t := (Ty.int .u8)) (s147_0 s) (byteInts s) (F.impl_letters_l0 s) (fun v0 : Unit => True) (outD (fun v0 : Unit => True → K (dB true) []) (fun q0 : Unit => K (dB false) [])) m_ (s147_0 s Z0 ())) := by kernel_rfl
theorem lvc147_0 (s : ByteArray)  (i0 : Int) (v0 : Unit) (m : Nat) (K : KX) : lvT C147 (L147 s) ann147 f147 0 0 (s147_0 s i0 v0) m K =
 (cond (decide (i0 < ((byteInts s).length : Int))) ((0 ≤ i0) ∧ (i0 < ((byteInts s).length : Int)) ∧ cond (!(M.inR (wrap64 (nth (t := (Ty.int .u8)) (byteInts s) i0)) (97 : Int) (122 : Int))) (K .ret (⟨[(2, dB false)], []⟩ : St)) (nxT (LP147_0 s) m K (s147_0 s (wrap64 (i0 + Z1)) ()))) (K (.exit 0) (⟨[], []⟩ : St))) := by kernel_rfl
theorem con147_ok : Con1 P 147 c147 := conR C147 func147 (kC con67_ok kN) fun args hp K h0 => by
 obtain ⟨s, rfl, rfl, h_s, hK⟩ := g1e h0
 have h : ok (F.impl_letters s) (fun r => K (dB r) []) := ok_of_eq (F.impl_letters_eq s h_s) hK
 refine ⟨rfl, ann147, (L147 s), (.dat Ty.bool), (loopsN1 (i0 := 0) (by kernel_rfl) ?_), ?_⟩
 ·rintro _ _ K ⟨hc0, i0, v0, rfl, hl0, rfl, hv0, h⟩
  exact cast (lvc147_0 _ _ _ _ _).symm (loopE_step (t := (Ty.int .u8)) hl0 h (fun ht0 h => ⟨hl0, ⟨ht0, (oC h (fun _ h => h) fun _ h => (loopE_next (t := (Ty.int .u8)) (fun _ hm => ⟨hc0, hm⟩) _ rfl hl0 ht0 (sm_len (sm_bytes h_s)) trivial h))⟩⟩) fun h => (h trivial))
 ·rw [vc147]
  exact (loopE_start (t := (Ty.int .u8)) (fun m hm => ⟨trivial, hm⟩) _ rfl trivial (ok_then h (fun v0 h hv0 => h) (fun q0 h => h)))
def c99 : Con := ⟨[.dat TValue], fun args hp K => g1 (pD TValue) (fun v => (Sm TValue v) ∧ K (dB (M.valueOk v)) []) args hp, .plain, false⟩
@[reducible] def C99 : Ctx := cx [(67, c67), (147, c147)] 46 [] 0 false
def ann99 := an [[.fixRow 1 TValue, kp 2], [kp 18], [kp 50], [kp 4], [kp 1042], [kp 4], [kp 1048594], [kp 4], [.keep [1, 36]], [kp 4], [kp 4]] []
theorem vc99 (v : TValue.D) (K : KA) : vcT C99 noLoops ann99 f99 [.data TValue v] [] (.dat Ty.bool) K =
 (cond (decide (v.1 = Z0)) (K (dB (Ty.beq TValue v (Z0, (Z0, ((⟨#[]⟩ : ByteArray), ()))))) []) (cond (decide (v.1 = Z1)) (cond ((decide (v.2.2.1 = (⟨#[]⟩ : ByteArray))) == true) (K (dB (M.inR v.2.1 (-9999 : Int) (9999 : Int))) []) (K (dB false) [])) (cond (decide (v.1 = Z2)) (cond ((decide (v.2.1 = Z0)) == true) (cond ((decide ((v.2.2.1.size : Int) ≤ Z6)) == true) ((Sm Ty.str v.2.2.1) ∧ K (dB (M.lower (byteInts v.2.2.1))) []) (K (dB false) [])) (K (dB false) [])) (cond (decide (v.1 = Z3)) (cond ((decide (v.2.2.1 = (⟨#[]⟩ : ByteArray))) == true) (K (dB (M.inR v.2.1 Z0 Z1)) []) (K (dB false) [])) (K (dB false) []))))) := by kernel_rfl
theorem con99_ok : Con1 P 99 c99 := conR C99 func99 (kC con67_ok (kC con147_ok kN)) fun args hp K h0 => by
 obtain ⟨v, rfl, rfl, h_v, hK⟩ := g1e h0
 have h : ok (F.impl_Value_ok v) (fun r => K (dB r) []) := ok_of_eq (F.impl_Value_ok_eq v h_v) hK
 refine ⟨rfl, ann99, noLoops, (.dat Ty.bool), (no_loops (by kernel_rfl)), ?_⟩
 ·rw [vc99]
  exact (oC h (fun _ h => h) fun _ h => (oC h (fun _ h => (oC h (fun _ h => h) fun _ h => h)) fun _ h => (oC h (fun _ h => (oC h (fun _ h => (oC h (fun _ h => ⟨h_v.2.2.1, h⟩) fun _ h => h)) fun _ h => h)) fun _ h => (oC h (fun _ h => (oC h (fun _ h => h) fun _ h => h)) fun _ h => h))))
def c51 : Con := ⟨[.dat TPart, .dat TCS], fun args hp K => g2 (pD TPart) (pD TCS) (fun p columns => (Sm TPart p) ∧ (Sm TCS columns) ∧ K (dB (M.tells p columns)) []) args hp, .plain, false⟩
@[reducible] def C51 : Ctx := cx [(67, c67), (99, c99)] 63 [] 0 false
def ann51 := an [[.fixRow 2 TPart, kp 6], [kp 70], [kp 198], [kp 16], [kp 8388678], [kp 16], [kp 137438953540], [kp 16], [.keep [2, 6, 48]], [.keep [2, 6, 48]], [.keep [2, 6, 48]], [.keep [2, 6, 48]], [.keep [2, 48]], [kp 16], [kp 16]] []
@[reducible] def S51_0 (p : TPart.D) (columns : LC) (K : KA) : Prop := cond ((decide (p.2.1 = Z0)) == true) (K (dB (Ty.beq TValue p.2.2.1 (Z0, (Z0, ((⟨#[]⟩ : ByteArray), ()))))) []) (K (dB false) [])
theorem vc51 (p : TPart.D) (columns : LC) (K : KA) : vcT C51 noLoops ann51 f51 [.data TPart p, .data TCS columns] [] (.dat Ty.bool) K =
 (cond (decide (p.1 = Z1)) (cond ((decide (p.2.1 = Z0)) == true) ((Sm TValue p.2.2.1) ∧ cond ((M.valueOk p.2.2.1) == true) (K (dB (!decide (p.2.2.1.1 = Z0))) []) (K (dB false) [])) (K (dB false) [])) (cond (decide (p.1 = Z2)) (cond ((M.inR p.2.1 Z0 (wrap64 ((columns.length : Int) - Z1))) == true) (K (dB (Ty.beq TValue p.2.2.1 (Z0, (Z0, ((⟨#[]⟩ : ByteArray), ()))))) []) (K (dB false) [])) (cond (decide (p.1 = Z4)) (cond ((M.inR p.2.1 Z1 Z4) == true) (K (dB (Ty.beq TValue p.2.2.1 (Z0, (Z0, ((⟨#[]⟩ : ByteArray), ()))))) []) (K (dB false) [])) (cond (decide (p.1 = Z3)) (cond (decide (p.1 = Z3)) (S51_0 p columns K) (K (dB false) [])) (cond (decide (p.1 = Z5)) (cond (decide (p.1 = Z5)) (S51_0 p columns K) (K (dB false) [])) (cond (decide (p.1 = Z6)) (cond (decide (p.1 = Z6)) (S51_0 p columns K) (K (dB false) [])) (cond (decide (p.1 = (7 : Int))) (cond (decide (p.1 = (7 : Int))) (S51_0 p columns K) (K (dB false) [])) (cond (decide (p.1 = (8 : Int))) (S51_0 p columns K) (K (dB false) []))))))))) := by kernel_rfl
theorem con51_ok : Con1 P 51 c51 := conR C51 func51 (kC con67_ok (kC con99_ok kN)) fun args hp K h0 => by
 obtain ⟨p, columns, rfl, rfl, h_p, h_columns, hK⟩ := g2e h0
 have h : ok (F.impl_Part_tells p columns) (fun r => K (dB r) []) := ok_of_eq (F.impl_Part_tells_eq p columns h_p h_columns) hK
 refine ⟨rfl, ann51, noLoops, (.dat Ty.bool), (no_loops (by kernel_rfl)), ?_⟩
 ·rw [vc51]
  exact (oC h (fun _ h => (oC h (fun _ h => ⟨h_p.2.2.1, (oC h (fun _ h => h) fun _ h => h)⟩) fun _ h => h)) fun _ h => (oC h (fun _ h => (oC h (fun _ h => h) fun _ h => h)) fun _ h => (oC h (fun _ h => (oC h (fun _ h => h) fun _ h => h)) fun _ h => (oC h (fun b_8 h => (cond_t b_8 (oC h (fun _ h => h) fun _ h => h))) fun _ h => (oC h (fun b_11 h => (cond_t b_11 (oC h (fun _ h => h) fun _ h => h))) fun _ h => (oC h (fun b_14 h => (cond_t b_14 (oC h (fun _ h => h) fun _ h => h))) fun _ h => (oC h (fun b_17 h => (cond_t b_17 (oC h (fun _ h => h) fun _ h => h))) fun _ h => (oC h (fun _ h => (oC h (fun _ h => h) fun _ h => h)) fun _ h => h))))))))
def c102 : Con := ⟨[.dat TInt, .any], fun args hp K => g2 (pD TInt) (pR TInt) (fun k kind => K (dB (!decide (k = kind))) []) args hp, .plain, false⟩
@[reducible] def C102 : Ctx := cx [] 7 [] 0 false
def ann102 := an [[kp 3], [kp 8]] []
theorem vc102 (k : Int) (kind : Int) (K : KA) : vcT C102 noLoops ann102 f102 [dI k, .ref (dI kind)] [] (.dat Ty.bool) K =
 (K (dB (!decide (k = kind))) []) := by kernel_rfl
theorem con102_ok : Con1 P 102 c102 := conR C102 func102 kN fun args hp K h0 => by
 obtain ⟨k, kind, rfl, rfl, hK⟩ := g2e h0
 have h : ok (F.impl_Part_kind_1_1 k kind) (fun r => K (dB r) []) := ok_of_eq (F.impl_Part_kind_1_1_eq k kind) hK
 refine ⟨rfl, ann102, noLoops, (.dat Ty.bool), (no_loops (by kernel_rfl)), ?_⟩
 ·rw [vc102]
  exact h
def c148 : Con := ⟨[.lent TInt, .any], fun args hp K => args2 (fun a0 a1 => withB TInt a0 fun xs => withF 102 a1 (caps1 (fun b1_0 => withR TInt b1_0 fun k0 => (Sm (Ty.sl TInt) xs) ∧ K (dI (M.idx (t := TInt) (fun e => !decide (e = k0)) xs)) []))) args hp, .plain, false⟩
@[reducible] def C148 : Ctx := cx [(102, c102)] 19 [] 0 false
def ann148 := an [[kp 3], [kp 387], [kp 899], [kp 419], [kp 65955], [kp 16], [kp 387], [kp 16]] [[kp 0]]
@[reducible] def s148_0 (xs : (List Int)) (k0 : Int) (i0 : Int) (v0 : Unit) : St := ⟨[(0, .brw TInt xs), (1, .fn 102 [.ref (dI k0)]), (7, dI (xs.length : Int)), (8, dI i0)], []⟩
@[reducible] def LP148_0 (xs : (List Int)) (k0 : Int) (m : Nat) (st_ : St) (K : KX) : Prop := True ∧ LoopI (s148_0 xs k0) Z0 (xs.length : Int) (F.IndexFunc_impl_Part_kind_1_1_l0 xs k0) (fun v0 : Unit => True) (outD (fun v0 : Unit => True → K (.exit 0) (⟨[], []⟩ : St)) (fun q0 : Int => K .ret (⟨[(4, dI q0)], []⟩ : St))) m st_
def L148 (xs : (List Int)) (k0 : Int) : Loops := lp1 0 (LP148_0 xs k0)
theorem vc148 (xs : (List Int)) (k0 : Int) (K : KA) : vcT C148 (L148 xs k0) ann148 f148 [.brw TInt xs, .fn 102 [.ref (dI k0)]] [] (.dat TInt) K =
 (∃ m_, True ∧ LoopI (s148_0 xs k0) Z0 (xs.length : Int) (F.IndexFunc_impl_Part_kind_1_1_l0 xs k0) (fun v0 : Unit => True) (outD (fun v0 : Unit => True → K (dI (-1 : Int)) []) (fun q0 : Int => K (dI q0) [])) m_ (s148_0 xs k0 Z0 ())) := by kernel_rfl
theorem lvc148_0 (xs : (List Int)) (k0 : Int)  (i0 : Int) (v0 : Unit) (m : Nat) (K : KX) : lvT C148 (L148 xs k0) ann148 f148 0 0 (s148_0 xs k0 i0 v0) m K =
 (cond (decide (i0 < (xs.length : Int))) ((0 ≤ i0) ∧ (i0 < (xs.length : Int)) ∧ cond (!decide ((nI xs i0) = k0)) (K .ret (⟨[(4, dI i0)], []⟩ : St)) (nxT (LP148_0 xs k0) m K (s148_0 xs k0 (wrap64 (i0 + Z1)) ()))) (K (.exit 0) (⟨[], []⟩ : St))) := by kernel_rfl
theorem con148_ok : Con1 P 148 c148 := conR C148 func148 (kC con102_ok kN) fun args hp K h0 => by
 obtain ⟨a0, a1, rfl, rfl, h1⟩ := args2_elim h0
 obtain ⟨xs, rfl, h2⟩ := withB_elim h1
 obtain ⟨cs1, rfl, h3⟩ := withF_elim h2
 obtain ⟨b1_0, rfl, h4⟩ := caps1_elim h3
 obtain ⟨k0, rfl, h5⟩ := withR_elim h4
 obtain ⟨h_xs, hK⟩ := h5
 have h : ok (F.IndexFunc_impl_Part_kind_1_1 xs k0) (fun r => K (dI r) []) := ok_of_eq (F.IndexFunc_impl_Part_kind_1_1_eq xs k0 h_xs) hK
 refine ⟨rfl, ann148, (L148 xs k0), (.dat TInt), (loopsN1 (i0 := 0) (by kernel_rfl) ?_), ?_⟩
 ·rintro _ _ K ⟨hc0, i0, v0, rfl, hl0, rfl, hv0, h⟩
  exact cast (lvc148_0 _ _ _ _ _ _).symm (loopI_step h (fun ht0 h => ⟨hl0, ⟨ht0, (oC h (fun _ h => h) fun _ h => (loopI_next (fun _ hm => ⟨hc0, hm⟩) _ rfl hl0 low0 ht0 (sm_len h_xs) trivial h))⟩⟩) fun h => (h trivial))
 ·rw [vc148]
  exact (loopI_start (fun m hm => ⟨trivial, hm⟩) Z0 _ rfl (Int.natCast_nonneg 0) trivial (ok_then h (fun v0 h hv0 => h) (fun q0 h => h)))
def c101 : Con := ⟨[.lent TInt, .any], fun args hp K => args2 (fun a0 a1 => withB TInt a0 fun xs => withF 102 a1 (caps1 (fun b1_0 => withR TInt b1_0 fun k0 => (Sm (Ty.sl TInt) xs) ∧ K (dB (List.any xs (fun e => !decide (e = k0)))) []))) args hp, .plain, false⟩
@[reducible] def C101 : Ctx := cx [(102, c102), (148, c148)] 9 [] 0 false
def ann101 := an [[kp 3], [kp 16]] []
theorem vc101 (xs : (List Int)) (k0 : Int) (K : KA) : vcT C101 noLoops ann101 f101 [.brw TInt xs, .fn 102 [.ref (dI k0)]] [] (.dat Ty.bool) K =
 ((Sm (Ty.sl TInt) xs) ∧ K (dB (decide (Z0 ≤ (M.idx (t := TInt) (fun e => !decide (e = k0)) xs)))) []) := by kernel_rfl
theorem con101_ok : Con1 P 101 c101 := conR C101 func101 (kC con102_ok (kC con148_ok kN)) fun args hp K h0 => by
 obtain ⟨a0, a1, rfl, rfl, h1⟩ := args2_elim h0
 obtain ⟨xs, rfl, h2⟩ := withB_elim h1
 obtain ⟨cs1, rfl, h3⟩ := withF_elim h2
 obtain ⟨b1_0, rfl, h4⟩ := caps1_elim h3
 obtain ⟨k0, rfl, h5⟩ := withR_elim h4
 obtain ⟨h_xs, hK⟩ := h5
 have h : ok (F.ContainsFunc_impl_Part_kind_1_1 xs k0) (fun r => K (dB r) []) := ok_of_eq (F.ContainsFunc_impl_Part_kind_1_1_eq xs k0 h_xs) hK
 refine ⟨rfl, ann101, noLoops, (.dat Ty.bool), (no_loops (by kernel_rfl)), ?_⟩
 ·rw [vc101]
  exact ⟨h_xs, h⟩
def c100 : Con := ⟨[.dat TInt, .any], fun args hp K => g2 (pD TInt) (pQ TInt) (fun kind ins => (Sm (Ty.sl TInt) ins) ∧ K (dB (List.all ins (fun k => decide (k = kind)))) []) args hp, .plain, false⟩
@[reducible] def C100 : Ctx := cx [(101, c101), (102, c102)] 8 [] 0 false
def ann100 := an [[.fixBox 2, kp 6], [kp 8]] []
theorem vc100 (kind : Int) (ins : (List Int)) (K : KA) : vcT C100 noLoops ann100 f100 [dI kind, .ref (.brw TInt ins)] [] (.dat Ty.bool) K =
 ((Sm (Ty.sl TInt) ins) ∧ K (dB (!(List.any ins (fun e => !decide (e = kind))))) []) := by kernel_rfl
theorem con100_ok : Con1 P 100 c100 := conR C100 func100 (kC con101_ok (kC con102_ok kN)) fun args hp K h0 => by
 obtain ⟨kind, ins, rfl, rfl, h_ins, hK⟩ := g2e h0
 have h : ok (F.impl_Part_kind_1 kind ins) (fun r => K (dB r) []) := ok_of_eq (F.impl_Part_kind_1_eq kind ins h_ins) hK
 refine ⟨rfl, ann100, noLoops, (.dat Ty.bool), (no_loops (by kernel_rfl)), ?_⟩
 ·rw [vc100]
  exact ⟨h_ins, h⟩
def c52 : Con := ⟨[.dat TPart, .dat TCS, .lent TInt], fun args hp K => g3 (pD TPart) (pD TCS) (pB TInt) (fun p columns inp => (Sm TPart p) ∧ (Sm TCS columns) ∧ (Sm (Ty.sl TInt) inp) ∧ (M.tells p columns = true) ∧ ((inp.length : Int) = M.takes p) ∧ (∀ r : Int × Bool, r = (M.partKind p columns inp) → K (.tup [dI r.1, dB r.2]) [])) args hp, .plain, false⟩
@[reducible] def C52 : Ctx := cx [(100, c100)] 42 [] 0 false
def ann52 := an [[.fixRow 3 TPart, .fixBox 5, kp 42], [kp 298], [kp 2346], [kp 6442], [kp 192], [kp 133418], [kp 192], [kp 33556768], [kp 192], [kp 536873248], [kp 192], [.keep [8, 38]], [kp 192], [kp 192]] []
theorem vc52 (p : TPart.D) (columns : LC) (inp : (List Int)) (K : KA) : vcT C52 noLoops ann52 f52 [.data TPart p, .data TCS columns, .brw TInt inp] [] (.tup [TInt, Ty.bool]) K =
 (cond (decide (p.1 = Z1)) (K (.tup [dI p.2.2.1.1, dB true]) []) (cond (decide (p.1 = Z2)) ((0 ≤ p.2.1) ∧ (p.2.1 < (columns.length : Int)) ∧ K (.tup [dI (nC columns p.2.1).1, dB true]) []) (cond (decide (p.1 = Z3)) ((Sm (Ty.sl TInt) inp) ∧ K (.tup [dI Z1, dB (List.all inp (fun k => decide (k = Z1)))]) []) (cond (decide (p.1 = Z4)) ((0 ≤ Z0) ∧ (Z0 < (inp.length : Int)) ∧ (0 ≤ Z1) ∧ (Z1 < (inp.length : Int)) ∧ K (.tup [dI Z3, dB (decide ((nI inp Z0) = (nI inp Z1)))]) []) (cond (decide (p.1 = (8 : Int))) (K (.tup [dI Z3, dB true]) []) ((Sm (Ty.sl TInt) inp) ∧ K (.tup [dI Z3, dB (List.all inp (fun k => decide (k = Z3)))]) [])))))) := by kernel_rfl
theorem con52_ok : Con1 P 52 c52 := conR C52 func52 (kC con100_ok kN) fun args hp K h0 => by
 obtain ⟨p, columns, inp, rfl, rfl, h_p, h_columns, h_inp, p0, p1, hK⟩ := g3e h0
 have h : ok (F.impl_Part_kind p columns inp) (fun r => K (.tup [dI r.1, dB r.2]) []) := ok_of_eq (F.impl_Part_kind_eq p columns inp h_p h_columns h_inp p0 p1) (hK _ rfl)
 refine ⟨rfl, ann52, noLoops, (.tup [TInt, Ty.bool]), (no_loops (by kernel_rfl)), ?_⟩
 ·rw [vc52]
  exact (oC h (fun _ h => h) fun _ h => (oC h (fun _ h => (oG h fun _ h => (oG h fun _ h => h))) fun _ h => (oC h (fun _ h => ⟨h_inp, h⟩) fun _ h => (oC h (fun _ h => ⟨(Int.natCast_nonneg 0), (oG h fun _ h => ⟨(Int.natCast_nonneg 1), (oG h fun _ h => h)⟩)⟩) fun _ h => (oC h (fun _ h => h) fun _ h => ⟨h_inp, h⟩)))))
def c13 : Con := ⟨[.dat TCS, .dat TPS], fun args hp K => g2 (pD TCS) (pD TPS) (fun columns e => (Sm TCS columns) ∧ (Sm TPS e) ∧ K (dI (M.exprKind columns e)) []) args hp, .plain, false⟩
@[reducible] def C13 : Ctx := cx [(49, c49), (50, c50), (51, c51), (52, c52)] 67 [] 0 false
def ann13 := an [[kp 3], [kp 262147], [kp 16], [kp 35], [kp 3670049], [kp 7864353], [.fixRow 7 TPart, kp 3670177], [kp 3670433], [kp 68723147169], [kp 16], [kp 3671841], [kp 1125899910513441], [kp 16], [kp 3670049], [kp 3670049], [.keep [5, 63]], [kp 16], [kp 16]] [[kp 32]]
@[reducible] def s13_0 (columns : LC) (e : LPt) (i0 : Int) (v0 : (List Int)) : St := ⟨[(0, .data TCS columns), (5, .own 5 none), (19, .data TPS e), (20, dI (e.length : Int)), (21, dI i0)], [(5, .arr false TInt v0)]⟩
@[reducible] def LP13_0 (columns : LC) (e : LPt) (m : Nat) (st_ : St) (K : KX) : Prop := True ∧ LoopE (t := TPart) (s13_0 columns e) e (F.impl_ExprKind_l0 columns e) (fun v0 : (List Int) => True) (outD (fun v0 : (List Int) => True → K (.exit 0) (⟨[(5, .own 5 none)], [(5, .arr false TInt v0)]⟩ : St)) (fun q0 : Unit => K .ret (⟨[(4, dI (-1 : Int))], []⟩ : St))) m st_
def L13 (columns : LC) (e : LPt) : Loops := lp1 0 (LP13_0 columns e)
theorem vc13 (columns : LC) (e : LPt) (K : KA) : vcT C13 (L13 columns e) ann13 f13 [.data TCS columns, .data TPS e] [] (.dat TInt) K =
 ((Sm TCS columns) ∧ cond ((!(M.columnsOk columns)) == false) (cond (decide ((12 : Int) < (e.length : Int))) (K (dI (-1 : Int)) []) (∃ m_, True ∧ LoopE (t := TPart) (s13_0 columns e) e (F.impl_ExprKind_l0 columns e) (fun v0 : (List Int) => True) (outD (fun v0 : (List Int) => True → cond (!decide ((v0.length : Int) = Z1)) (K (dI (-1 : Int)) []) ((0 ≤ Z0) ∧ (Z0 < (v0.length : Int)) ∧ K (dI (nI v0 Z0)) [])) (fun q0 : Unit => K (dI (-1 : Int)) [])) m_ (s13_0 columns e Z0 []))) (K (dI (-1 : Int)) [])) := by kernel_rfl
theorem lvc13_0 (columns : LC) (e : LPt)  (i0 : Int) (v0 : (List Int)) (m : Nat) (K : KX) : lvT C13 (L13 columns e) ann13 f13 0 0 (s13_0 columns e i0 v0) m K =
 (cond (decide (i0 < (e.length : Int))) ((0 ≤ i0) ∧ (i0 < (e.length : Int)) ∧ (Sm TPart (nP e i0)) ∧ (Sm TPart (nP e i0)) ∧ (Sm TCS columns) ∧ cond ((!(M.tells (nP e i0) columns)) == false) (cond (decide ((v0.length : Int) < (M.takes (nP e i0)))) (K .ret (⟨[(4, dI (-1 : Int))], []⟩ : St)) ((0 ≤ wrap64 ((v0.length : Int) - (M.takes (nP e i0)))) ∧ (wrap64 ((v0.length : Int) - (M.takes (nP e i0))) ≤ (v0.length : Int)) ∧ ((v0.length : Int) ≤ (v0.length : Int)) ∧ ((v0.length : Int) = (v0.length : Int)) ∧ (Sm TPart (nP e i0)) ∧ (Sm TCS columns) ∧ (Sm (Ty.sl TInt) (cutList v0 (some (wrap64 ((v0.length : Int) - (M.takes (nP e i0))), (v0.length : Int))))) ∧ (M.tells (nP e i0) columns = true) ∧ (((cutList v0 (some (wrap64 ((v0.length : Int) - (M.takes (nP e i0))), (v0.length : Int)))).length : Int) = M.takes (nP e i0)) ∧ (∀ r1 : Int × Bool, r1 = (M.partKind (nP e i0) columns (cutList v0 (some (wrap64 ((v0.length : Int) - (M.takes (nP e i0))), (v0.length : Int))))) → cond (!r1.2) (K .ret (⟨[(4, dI (-1 : Int))], []⟩ : St)) ((0 ≤ Z0) ∧ (Z0 ≤ wrap64 ((v0.length : Int) - (M.takes (nP e i0)))) ∧ (wrap64 ((v0.length : Int) - (M.takes (nP e i0))) ≤ (v0.length : Int)) ∧ (wrap64 ((v0.length : Int) - (M.takes (nP e i0))) = wrap64 ((v0.length : Int) - (M.takes (nP e i0)))) ∧ (Z0 = 0) ∧ (((wrap64 ((v0.length : Int) - (M.takes (nP e i0)))).toNat + [r1.1].length) * 8 ≤ lim) ∧ (nxT (LP13_0 columns e) m K (s13_0 columns e (wrap64 (i0 + Z1)) (v0.take (wrap64 ((v0.length : Int) - (M.takes (nP e i0)))).toNat ++ [r1.1]))))))) (K .ret (⟨[(4, dI (-1 : Int))], []⟩ : St))) (K (.exit 0) (⟨[(5, .own 5 none)], [(5, .arr false TInt v0)]⟩ : St))) := by kernel_rfl
theorem con13_ok : Con1 P 13 c13 := conR C13 func13 (kC con49_ok (kC con50_ok (kC con51_ok (kC con52_ok kN)))) fun args hp K h0 => by
 obtain ⟨columns, e, rfl, rfl, h_columns, h_e, hK⟩ := g2e h0
 have h : ok (F.impl_ExprKind columns e) (fun r => K (dI r) []) := ok_of_eq (F.impl_ExprKind_eq columns e h_columns h_e) hK
 refine ⟨rfl, ann13, (L13 columns e), (.dat TInt), (loopsN1 (i0 := 0) (by kernel_rfl) ?_), ?_⟩
 ·rintro _ _ K ⟨hc0, i0, v0, rfl, hl0, rfl, hv0, h⟩
  exact cast (lvc13_0 _ _ _ _ _ _).symm (loopE_step (t := TPart) hl0 h (fun ht0 h => ⟨hl0, ⟨ht0, ⟨(sm_nth h_e i0), ⟨(sm_nth h_e i0), ⟨h_columns, (oC h (fun b_37 h => (oC h (fun _ h => h) fun _ h => (oG h fun _ h => (oG h fun g1 h => ⟨(Int.le_refl _), ⟨rfl, ⟨(sm_nth h_e i0), ⟨h_columns, (oG h fun _ h => ⟨(bnf (bgt b_37)), (oG h fun _ h => (oL h fun _ _ h => (oC h (fun _ h => h) fun _ h => ⟨(Int.natCast_nonneg 0), (oG h fun _ h => ⟨g1, ⟨rfl, ⟨rfl, (oG h fun _ h => (loopE_next (t := TPart) (fun _ hm => ⟨hc0, hm⟩) _ rfl hl0 ht0 (sm_len h_e) trivial h))⟩⟩⟩)⟩)))⟩)⟩⟩⟩⟩)))) fun _ h => h)⟩⟩⟩⟩⟩) fun h => (h trivial))
 ·rw [vc13]
  exact ⟨h_columns, (oC h (fun _ h => (oC h (fun _ h => h) fun _ h => (loopE_start (t := TPart) (fun m hm => ⟨trivial, hm⟩) _ rfl trivial (ok_then h (fun v0 h hv0 => (oC h (fun _ h => h) fun _ h => ⟨(Int.natCast_nonneg 0), (oG h fun _ h => h)⟩)) (fun q0 h => h))))) fun _ h => h)⟩
def c200 : Con := ⟨[.dat TInt], fun args hp K => g1 (pD TInt) (fun x => K (dB false) []) args hp, .plain, false⟩
@[reducible] def C200 : Ctx := cx [] 6 [] 0 false
def ann200 := an [[kp 1], [kp 4]] []
theorem vc200 (x : Int) (K : KA) : vcT C200 noLoops ann200 f200 [dI x] [] (.dat Ty.bool) K =
 (K (dB (!decide (x = x))) []) := by kernel_rfl
theorem con200_ok : Con1 P 200 c200 := conR C200 func200 kN fun args hp K h0 => by
 obtain ⟨x, rfl, rfl, hK⟩ := g1e h0
 have h : ok (F.cmp_isNaN_int x) (fun r => K (dB r) []) := ok_of_eq (F.cmp_isNaN_int_eq x) hK
 refine ⟨rfl, ann200, noLoops, (.dat Ty.bool), (no_loops (by kernel_rfl)), ?_⟩
 ·rw [vc200]
  exact h
def c170 : Con := ⟨[.dat TInt, .dat TInt], fun args hp K => g2 (pD TInt) (pD TInt) (fun x y => K (dB (decide (x < y))) []) args hp, .plain, false⟩
@[reducible] def C170 : Ctx := cx [(200, c200)] 17 [] 0 false
def ann170 := an [[kp 3], [kp 16]] []
theorem vc170 (x : Int) (y : Int) (K : KA) : vcT C170 noLoops ann170 f170 [dI x, dI y] [] (.dat Ty.bool) K =
 (cond (false == true) (cond ((!false) == false) (K (dB (decide (x < y))) []) (K (dB true) [])) (K (dB (decide (x < y))) [])) := by kernel_rfl
theorem con170_ok : Con1 P 170 c170 := conR C170 func170 (kC con200_ok kN) fun args hp K h0 => by
 obtain ⟨x, y, rfl, rfl, hK⟩ := g2e h0
 have h : ok (F.cmp_Less_int x y) (fun r => K (dB r) []) := ok_of_eq (F.cmp_Less_int_eq x y) hK
 refine ⟨rfl, ann170, noLoops, (.dat Ty.bool), (no_loops (by kernel_rfl)), ?_⟩
 ·rw [vc170]
  exact (oC h (fun b_1 h => (cond_t (ugt (unf (bet b_1))) h)) fun _ h => h)
def c164 : Con := ⟨[.dat TInt, .dat TInt], fun args hp K => hpN 1000000 false TInt (fun xs => args3 (fun a0 a1 a2 => withC 1000000 (xs.length : Int) a0 (withD TInt a1 fun a => withD TInt a2 fun b => (Sm (Ty.sl TInt) xs) ∧ (a = 0) ∧ (b = (xs.length : Int)) ∧ (∀ r : (List Int), r = (M.isort xs) → K (.tup []) [(1000000, .arr false TInt r)]))) args []) hp, .io, false⟩
@[reducible] def C164 : Ctx := cx [(170, c170)] 49 [] 0 false
def ann164 := an [[kp 71], [kp 4167], [kp 71], [kp 199], [kp 1073742023], [kp 199], [kp 199]] [[kp 0], [], [kp 71]]
@[reducible] def s164_0 (xs : (List Int)) (a : Int) (b : Int) (i0 : Int) (v0 : (List Int)) : St := ⟨[(0, .clp 1000000 (xs.length : Int)), (1, dI a), (2, dI b), (6, dI i0)], [(1000000, .arr false TInt v0)]⟩
@[reducible] def LP164_0 (xs : (List Int)) (a : Int) (b : Int) (m : Nat) (st_ : St) (K : KX) : Prop := (b ≤ top63 ∧ True) ∧ LoopI (s164_0 xs a b) Z0 b (F.slices_insertionSort_l0 xs a b) (fun v0 : (List Int) => True) (outD (fun v0 : (List Int) => True → K (.exit 0) (⟨[], [(1000000, .arr false TInt v0)]⟩ : St)) (fun _ => False)) m st_
@[reducible] def s164_2 (xs : (List Int)) (a : Int) (b : Int) (c2_0 : Int) (v2 : Int × (List Int)) : St := ⟨[(0, .clp 1000000 (xs.length : Int)), (1, dI a), (2, dI b), (6, dI c2_0), (7, dI v2.1)], [(1000000, .arr false TInt v2.2)]⟩
@[reducible] def LP164_2 (xs : (List Int)) (a : Int) (b : Int) (m : Nat) (st_ : St) (K : KX) : Prop := ∃ c2_0 : Int, True ∧ LoopW (s164_2 xs a b c2_0) (F.slices_insertionSort_l2 xs a b c2_0) (fun v2 : Int × (List Int) => True) (fun e2 : (List Int) => True → K (.exit 2) (⟨[(0, .clp 1000000 (xs.length : Int)), (1, dI a), (2, dI b), (6, dI c2_0)], [(1000000, .arr false TInt e2)]⟩ : St)) m st_
def L164 (xs : (List Int)) (a : Int) (b : Int) : Loops := lp2 0 (LP164_0 xs a b) 2 (LP164_2 xs a b)
theorem vc164 (xs : (List Int)) (a : Int) (b : Int) (K : KA) : vcT C164 (L164 xs a b) ann164 f164 [.clp 1000000 (xs.length : Int), dI a, dI b] [(1000000, .arr false TInt xs)] .raw K =
 (∃ m_, (b ≤ top63 ∧ True) ∧ LoopI (s164_0 xs a b) Z0 b (F.slices_insertionSort_l0 xs a b) (fun v0 : (List Int) => True) (outD (fun v0 : (List Int) => True → K (.tup []) [(1000000, .arr false TInt v0)]) (fun _ => False)) m_ (s164_0 xs a b (wrap64 (a + Z1)) xs)) := by kernel_rfl
theorem lvc164_0 (xs : (List Int)) (a : Int) (b : Int)  (i0 : Int) (v0 : (List Int)) (m : Nat) (K : KX) : lvT C164 (L164 xs a b) ann164 f164 0 0 (s164_0 xs a b i0 v0) m K =
 (cond (decide (i0 < b)) (∃ m_, ∃ c2_0 : Int, True ∧ LoopW (s164_2 xs a b c2_0) (F.slices_insertionSort_l2 xs a b c2_0) (fun v2 : Int × (List Int) => True) (fun e2 : (List Int) => True → (nxT (LP164_0 xs a b) m K (s164_0 xs a b (wrap64 (c2_0 + Z1)) e2))) m_ (s164_2 xs a b i0 (i0, v0))) (K (.exit 0) (⟨[], [(1000000, .arr false TInt v0)]⟩ : St))) := by kernel_rfl
@[reducible] def S164l2_0 (xs : (List Int)) (a : Int) (b : Int) (c2_0 : Int) (v2 : Int × (List Int)) (m : Nat) (K : KX) : Prop := K (.exit 2) (⟨[(0, .clp 1000000 (xs.length : Int)), (1, dI a), (2, dI b), (6, dI c2_0)], [(1000000, .arr false TInt v2.2)]⟩ : St)
theorem lvc164_1 (xs : (List Int)) (a : Int) (b : Int) (c2_0 : Int) (v2 : Int × (List Int)) (m : Nat) (K : KX) : lvT C164 (L164 xs a b) ann164 f164 1 2 (s164_2 xs a b c2_0 v2) m K =
 (cond ((decide (a < v2.1)) == true) ((0 ≤ v2.1) ∧ (v2.1 < (xs.length : Int)) ∧ (0 ≤ wrap64 (v2.1 - Z1)) ∧ (wrap64 (v2.1 - Z1) < (xs.length : Int)) ∧ cond (decide ((nI v2.2 v2.1) < (nI v2.2 (wrap64 (v2.1 - Z1))))) ((0 ≤ wrap64 (v2.1 - Z1)) ∧ (wrap64 (v2.1 - Z1) < (xs.length : Int)) ∧ (0 ≤ v2.1) ∧ (v2.1 < (xs.length : Int)) ∧ (0 ≤ v2.1) ∧ (v2.1 < (xs.length : Int)) ∧ (0 ≤ wrap64 (v2.1 - Z1)) ∧ (wrap64 (v2.1 - Z1) < (xs.length : Int)) ∧ (let y1 : (List Int) := ((v2.2.set v2.1.toNat (nI v2.2 (wrap64 (v2.1 - Z1)))).set (wrap64 (v2.1 - Z1)).toNat (nI v2.2 v2.1)); (nxT (LP164_2 xs a b) m K (s164_2 xs a b c2_0 (wrap64 (v2.1 - Z1), y1))))) (S164l2_0  xs a b c2_0 v2 m K)) (S164l2_0  xs a b c2_0 v2 m K)) := by kernel_rfl
theorem con164_ok : Con1 P 164 c164 := conR C164 func164 (kC con170_ok kN) fun args hp K h0 => by
 unfold c164 at h0
 dsimp only at h0
 obtain ⟨xs, rfl, h00⟩ := hpN_elim (n := 1000000) (d := false) (t := TInt) h0
 obtain ⟨a0, a1, a2, rfl, _, h1⟩ := args3_elim h00
 obtain ⟨rfl, h2⟩ := withC_elim h1
 obtain ⟨a, rfl, h3⟩ := withD_elim h2
 obtain ⟨b, rfl, h4⟩ := withD_elim h3
 obtain ⟨h_xs, p0, p1, hK⟩ := h4
 have h : ok (F.slices_insertionSort xs a b) (fun r => K (.tup []) [(1000000, .arr false TInt r)]) := ok_of_eq (F.slices_insertionSort_eq xs a b h_xs p0 p1) (hK _ rfl)
 refine ⟨rfl, ann164, (L164 xs a b), .raw, (loopsN2 (i0 := 0) (i1 := 2) (by kernel_rfl) ?_ ?_), ?_⟩
 ·rintro _ _ K ⟨hc0, i0, v0, rfl, hl0, rfl, hv0, h⟩
  exact cast (lvc164_0 _ _ _ _ _ _ _).symm (loopI_step h (fun ht0 h => (loopW_start (fun m hm => ⟨i0, trivial, hm⟩) _ rfl trivial (ok_bind h (fun e2 h hv2 => (loopI_next (fun _ hm => ⟨hc0, hm⟩) _ rfl hl0 low0 ht0 hc0.1 trivial h))))) fun h => (h trivial))
 ·rintro _ _ K ⟨c2_0, hc2, v2, rfl, hv2, h⟩
  exact cast (lvc164_1 _ _ _ _ _ _ _).symm (loopW_step h (fun m1 hm2 h => (oC h (fun _ h => (oG h fun g1 h => (oG h fun g2 h => (oG h fun g3 h => (oG h fun g4 h => (oC h (fun _ h => ⟨g3, ⟨g4, ⟨g1, ⟨g2, ⟨g1, ⟨g2, ⟨g3, ⟨g4, (have h := ok_let h _ rfl; (loopW_next (fun _ hm => ⟨c2_0, hc2, hm⟩) hm2 _ rfl trivial h))⟩⟩⟩⟩⟩⟩⟩⟩) fun _ h => ((ok_ret h :) trivial))))))) fun _ h => ((ok_ret h :) trivial))))
 ·rw [vc164]
  exact (have hi_0 := (ok_guard h).1; have hlo := (ok_guard (ok_guard h).2).1; have h := (ok_guard (ok_guard h).2).2; (loopI_start (fun m hm => ⟨⟨hi_0, trivial⟩, hm⟩) (wrap64 (a + Z1)) _ rfl hlo trivial (ok_then h (fun v0 h hv0 => h) (fun _ h => h.elim))))
def c114 : Con := ⟨[.dat TInt, .dat TInt, .dat TInt], fun args hp K => hpN 1000000 false TInt (fun xs => args4 (fun a0 a1 a2 a3 => withC 1000000 (xs.length : Int) a0 (withD TInt a1 fun a => withD TInt a2 fun b => withD TInt a3 fun limit => (Sm (Ty.sl TInt) xs) ∧ (a = 0) ∧ (b = (xs.length : Int)) ∧ (xs.length ≤ 12) ∧ (∀ r : (List Int), r = (M.isort xs) → K (.tup []) [(1000000, .arr false TInt r)]))) args []) hp, .io, false⟩
@[reducible] def C114 : Ctx := cx [(164, c164)] 134 [] 0 false
def ann114 := an [[kp 7], [kp 7], [kp 1031], [kp 8388615], [kp 0]] [[kp 0]]
@[reducible] def s114_0 (xs : (List Int)) (a : Int) (b : Int) (limit : Int) (v0 : Unit) : St := ⟨[(0, .clp 1000000 (xs.length : Int)), (1, dI a), (2, dI b)], [(1000000, .arr false TInt xs)]⟩
@[reducible] def LP114_0 (xs : (List Int)) (a : Int) (b : Int) (limit : Int) (m : Nat) (st_ : St) (K : KX) : Prop := True ∧ LoopW (s114_0 xs a b limit) (F.slices_pdqsort_l0 xs a b limit) (fun v0 : Unit => True) (fun q0 : (List Int) => K .ret (⟨[], [(1000000, .arr false TInt q0)]⟩ : St)) m st_
def L114 (xs : (List Int)) (a : Int) (b : Int) (limit : Int) : Loops := lp1 0 (LP114_0 xs a b limit)
theorem vc114 (xs : (List Int)) (a : Int) (b : Int) (limit : Int) (K : KA) : vcT C114 (L114 xs a b limit) ann114 (cutF [(23, false)] f114) [.clp 1000000 (xs.length : Int), dI a, dI b, dI limit] [(1000000, .arr false TInt xs)] .raw K =
 (∃ m_, True ∧ LoopW (s114_0 xs a b limit) (F.slices_pdqsort_l0 xs a b limit) (fun v0 : Unit => True) (fun q0 : (List Int) => K (.tup []) [(1000000, .arr false TInt q0)]) m_ (s114_0 xs a b limit ())) := by kernel_rfl
theorem lvc114_0 (xs : (List Int)) (a : Int) (b : Int) (limit : Int)  (v0 : Unit) (m : Nat) (K : KX) : lvT C114 (L114 xs a b limit) ann114 (cutF [(23, false)] f114) 0 0 (s114_0 xs a b limit v0) m K =
 (cond (decide (wrap64 (b - a) ≤ (12 : Int))) (((xs.length : Int) = (xs.length : Int)) ∧ ((xs.length : Int) = (xs.length : Int)) ∧ (Sm (Ty.sl TInt) xs) ∧ (a = 0) ∧ (b = (xs.length : Int)) ∧ (∀ r1 : (List Int), r1 = (M.isort xs) → (r1.length = xs.length) ∧ K .ret (⟨[], [(1000000, .arr false TInt r1)]⟩ : St))) False) := by kernel_rfl
theorem con114_ok : Con1 P 114 c114 := conRc [(23, false)] C114 func114 (kC con164_ok kN) fun args hp K h0 => by
 unfold c114 at h0
 dsimp only at h0
 obtain ⟨xs, rfl, h00⟩ := hpN_elim (n := 1000000) (d := false) (t := TInt) h0
 obtain ⟨a0, a1, a2, a3, rfl, _, h1⟩ := args4_elim h00
 obtain ⟨rfl, h2⟩ := withC_elim h1
 obtain ⟨a, rfl, h3⟩ := withD_elim h2
 obtain ⟨b, rfl, h4⟩ := withD_elim h3
 obtain ⟨limit, rfl, h5⟩ := withD_elim h4
 obtain ⟨h_xs, p0, p1, p2, hK⟩ := h5
 have h : ok (F.slices_pdqsort xs a b limit) (fun r => K (.tup []) [(1000000, .arr false TInt r)]) := ok_of_eq (F.slices_pdqsort_eq xs a b limit h_xs p0 p1 p2) (hK _ rfl)
 refine ⟨rfl, ann114, (L114 xs a b limit), .raw, (loopsN1 (i0 := 0) (by kernel_rfl) ?_), ?_⟩
 ·rintro _ _ K ⟨hc0, v0, rfl, hv0, h⟩
  exact cast (lvc114_0 _ _ _ _ _ _ _).symm (loopW_step h (fun m1 hm0 h => (oC h (fun _ h => ⟨rfl, ⟨rfl, ⟨h_xs, (oG h fun _ h => (oG h fun _ h => (oL h fun _ er1 h => ⟨(by rw [er1]; exact (M.isort_length _)), h⟩)))⟩⟩⟩) fun _ h => h)))
 ·rw [vc114]
  exact (loopW_start (fun m hm => ⟨trivial, hm⟩) _ rfl trivial (ok_bind h (fun q0 h => h)))
def c174 : Con := ⟨[.dat (Ty.int .u64)], fun args hp K => g1 (pD (Ty.int .u64)) (fun x => (0 ≤ x) ∧ (x ≤ 12) ∧ K (dI (M.len64 x)) []) args hp, .plain, false⟩
@[reducible] def C174 : Ctx := cx [] 25 [] 0 false
def ann174 := an [[kp 5], [kp 21], [], [], [kp 261], [], [], [kp 16389], [], [], [kp 4]] []
theorem vc174 (x : Int) (K : KA) : vcT C174 noLoops ann174 (cutF [(4, true), (8, true), (14, true)] f174) [.data (Ty.int .u64) x] [] .raw K =
 (cond (decide ((4294967296 : Int) ≤ x)) False (cond (decide ((65536 : Int) ≤ x)) False (cond (decide ((256 : Int) ≤ x)) False ((0 ≤ (x % 256)) ∧ ((x % 256) < ((⟨#[0, 1, 2, 2, 3, 3, 3, 3, 4, 4, 4, 4, 4, 4, 4, 4, 5, 5, 5, 5, 5, 5, 5, 5, 5, 5, 5, 5, 5, 5, 5, 5, 6, 6, 6, 6, 6, 6, 6, 6, 6, 6, 6, 6, 6, 6, 6, 6, 6, 6, 6, 6, 6, 6, 6, 6, 6, 6, 6, 6, 6, 6, 6, 6, 7, 7, 7, 7, 7, 7, 7, 7, 7, 7, 7, 7, 7, 7, 7, 7, 7, 7, 7, 7, 7, 7, 7, 7, 7, 7, 7, 7, 7, 7, 7, 7, 7, 7, 7, 7, 7, 7, 7, 7, 7, 7, 7, 7, 7, 7, 7, 7, 7, 7, 7, 7, 7, 7, 7, 7, 7, 7, 7, 7, 7, 7, 7, 7, 8, 8, 8, 8, 8, 8, 8, 8, 8, 8, 8, 8, 8, 8, 8, 8, 8, 8, 8, 8, 8, 8, 8, 8, 8, 8, 8, 8, 8, 8, 8, 8, 8, 8, 8, 8, 8, 8, 8, 8, 8, 8, 8, 8, 8, 8, 8, 8, 8, 8, 8, 8, 8, 8, 8, 8, 8, 8, 8, 8, 8, 8, 8, 8, 8, 8, 8, 8, 8, 8, 8, 8, 8, 8, 8, 8, 8, 8, 8, 8, 8, 8, 8, 8, 8, 8, 8, 8, 8, 8, 8, 8, 8, 8, 8, 8, 8, 8, 8, 8, 8, 8, 8, 8, 8, 8, 8, 8, 8, 8, 8, 8, 8, 8, 8, 8, 8, 8, 8, 8, 8, 8, 8, 8, 8, 8, 8, 8]⟩ : ByteArray).size : Int)) ∧ K (dI (wrap64 (Z0 + wrap64 (((⟨#[0, 1, 2, 2, 3, 3, 3, 3, 4, 4, 4, 4, 4, 4, 4, 4, 5, 5, 5, 5, 5, 5, 5, 5, 5, 5, 5, 5, 5, 5, 5, 5, 6, 6, 6, 6, 6, 6, 6, 6, 6, 6, 6, 6, 6, 6, 6, 6, 6, 6, 6, 6, 6, 6, 6, 6, 6, 6, 6, 6, 6, 6, 6, 6, 7, 7, 7, 7, 7, 7, 7, 7, 7, 7, 7, 7, 7, 7, 7, 7, 7, 7, 7, 7, 7, 7, 7, 7, 7, 7, 7, 7, 7, 7, 7, 7, 7, 7, 7, 7, 7, 7, 7, 7, 7, 7, 7, 7, 7, 7, 7, 7, 7, 7, 7, 7, 7, 7, 7, 7, 7, 7, 7, 7, 7, 7, 7, 7, 8, 8, 8, 8, 8, 8, 8, 8, 8, 8, 8, 8, 8, 8, 8, 8, 8, 8, 8, 8, 8, 8, 8, 8, 8, 8, 8, 8, 8, 8, 8, 8, 8, 8, 8, 8, 8, 8, 8, 8, 8, 8, 8, 8, 8, 8, 8, 8, 8, 8, 8, 8, 8, 8, 8, 8, 8, 8, 8, 8, 8, 8, 8, 8, 8, 8, 8, 8, 8, 8, 8, 8, 8, 8, 8, 8, 8, 8, 8, 8, 8, 8, 8, 8, 8, 8, 8, 8, 8, 8, 8, 8, 8, 8, 8, 8, 8, 8, 8, 8, 8, 8, 8, 8, 8, 8, 8, 8, 8, 8, 8, 8, 8, 8, 8, 8, 8, 8, 8, 8, 8, 8, 8, 8, 8, 8, 8, 8]⟩ : ByteArray).get! (x % 256).toNat).toNat : Int)))) [])))) := by kernel_rfl
theorem con174_ok : Con1 P 174 c174 := conRc [(4, true), (8, true), (14, true)] C174 func174 kN fun args hp K h0 => by
 obtain ⟨x, rfl, rfl, p0, p1, hK⟩ := g1e h0
 have h : ok (F.bits_Len64 x) (fun r => K (dI r) []) := ok_of_eq (F.bits_Len64_eq x p0 p1) hK
 refine ⟨rfl, ann174, noLoops, .raw, (no_loops (by kernel_rfl)), ?_⟩
 ·rw [vc174]
  exact (oC h (fun _ h => h) fun _ h => (oC h (fun _ h => h) fun _ h => (oC h (fun _ h => h) fun _ h => (oG h fun _ h => (oG h fun _ h => h)))))
def c115 : Con := ⟨[.dat (Ty.int .u64)], fun args hp K => g1 (pD (Ty.int .u64)) (fun x => (0 ≤ x) ∧ (x ≤ 12) ∧ K (dI (M.len64 x)) []) args hp, .plain, false⟩
@[reducible] def C115 : Ctx := cx [(174, c174)] 8 [] 0 false
def ann115 := an [[kp 1], [kp 4], [kp 4]] []
theorem vc115 (x : Int) (K : KA) : vcT C115 noLoops ann115 f115 [.data (Ty.int .u64) x] [] .raw K =
 ((0 ≤ x) ∧ (x ≤ 12) ∧ K (dI (M.len64 x)) []) := by kernel_rfl
theorem con115_ok : Con1 P 115 c115 := conR C115 func115 (kC con174_ok kN) fun args hp K h0 => by
 obtain ⟨x, rfl, rfl, p0, p1, hK⟩ := g1e h0
 have h : ok (F.bits_Len x) (fun r => K (dI r) []) := ok_of_eq (F.bits_Len_eq x p0 p1) hK
 refine ⟨rfl, ann115, noLoops, .raw, (no_loops (by kernel_rfl)), ?_⟩
 ·rw [vc115]
  exact ⟨p0, ⟨p1, h⟩⟩
def c63 : Con := ⟨[], fun args hp K => hpN 1000000 false TInt (fun xs => args1 (fun a0 => withC 1000000 (xs.length : Int) a0 ((Sm (Ty.sl TInt) xs) ∧ (xs.length ≤ 12) ∧ (∀ r : (List Int), r = (M.isort xs) → K (.tup []) [(1000000, .arr false TInt r)]))) args []) hp, .io, false⟩
@[reducible] def C63 : Ctx := cx [(114, c114), (115, c115)] 11 [] 0 false
def ann63 := an [[kp 5], [kp 0]] []
theorem vc63 (xs : (List Int)) (K : KA) : vcT C63 noLoops ann63 f63 [.clp 1000000 (xs.length : Int)] [(1000000, .arr false TInt xs)] .raw K =
 ((0 ≤ (wrapK .u64 (xs.length : Int))) ∧ ((wrapK .u64 (xs.length : Int)) ≤ 12) ∧ ((xs.length : Int) = (xs.length : Int)) ∧ ((xs.length : Int) = (xs.length : Int)) ∧ (Sm (Ty.sl TInt) xs) ∧ (Z0 = 0) ∧ ((xs.length : Int) = (xs.length : Int)) ∧ (xs.length ≤ 12) ∧ (∀ r1 : (List Int), r1 = (M.isort xs) → (r1.length = xs.length) ∧ K (.tup []) [(1000000, .arr false TInt r1)])) := by kernel_rfl
theorem con63_ok : Con1 P 63 c63 := conR C63 func63 (kC con114_ok (kC con115_ok kN)) fun args hp K h0 => by
 unfold c63 at h0
 dsimp only at h0
 obtain ⟨xs, rfl, h00⟩ := hpN_elim (n := 1000000) (d := false) (t := TInt) h0
 obtain ⟨a0, rfl, _, h1⟩ := args1_elim h00
 obtain ⟨rfl, h2⟩ := withC_elim h1
 obtain ⟨h_xs, p0, hK⟩ := h2
 have h : ok (F.slices_Sort xs) (fun r => K (.tup []) [(1000000, .arr false TInt r)]) := ok_of_eq (F.slices_Sort_eq xs h_xs p0) (hK _ rfl)
 refine ⟨rfl, ann63, noLoops, .raw, (no_loops (by kernel_rfl)), ?_⟩
 ·rw [vc63]
  exact (oG h fun _ h => (oG h fun _ h => ⟨rfl, ⟨rfl, ⟨h_xs, (oG h fun _ h => (oG h fun _ h => ⟨p0, (oL h fun _ er1 h => ⟨(by rw [er1]; exact (M.isort_length _)), h⟩)⟩))⟩⟩⟩))
@[reducible] def C116 : Ctx := cx [] 9 [] 400000 true
def T116 : Inl := inlT C116 (fun _ => []) (bodyOf f116) f116.results.toList
theorem inlOk116 : Inl1 P 116 T116 := inlR C116 func116 kN
def c64 : Con := ⟨[.dat (Ty.sl TInt)], fun args hp K => g1 (pD (Ty.sl TInt)) (fun xs => (Sm (Ty.sl TInt) xs) ∧ (∀ r : (List Int), r = xs → K (.clp 0 (r.length : Int)) [(0, .arr false TInt r)])) args hp, .bor, false⟩
@[reducible] def C64 : Ctx := cx [] 9 [(116, T116)] 0 true
def ann64 := an [[kp 1], [kp 33], [.clip 2, kp 4], [kp 4]] []
theorem vc64 (xs : (List Int)) (K : KA) : vcT C64 noLoops ann64 f64 [.data (Ty.sl TInt) xs] [] .raw K =
 (cond (decide ((xs.length : Int) = Z0)) (K (.clp 0 (([] : List TInt.D).length : Int)) [(0, .arr false TInt ([] : List TInt.D))]) ((xs.length * 8 ≤ lim) ∧ (0 ≤ Z0) ∧ (Z0 ≤ (xs.length : Int)) ∧ ((xs.length : Int) ≤ (xs.length : Int)) ∧ ((xs.length : Int) = (xs.length : Int)) ∧ (Z0 = 0) ∧ K (.clp 0 ((xs.take (xs.length : Int).toNat).length : Int)) [(0, .arr false TInt (xs.take (xs.length : Int).toNat))])) := by kernel_rfl
theorem con64_ok : Con1 P 64 c64 := conR C64 func64 (kI inlOk116 kN) fun args hp K h0 => by
 obtain ⟨xs, rfl, rfl, h_xs, hK⟩ := g1e h0
 have h : ok (F.clone_Inti64 xs) (fun r => K (.clp 0 (r.length : Int)) [(0, .arr false TInt r)]) := ok_of_eq (F.clone_Inti64_eq xs h_xs) (hK _ rfl)
 refine ⟨rfl, ann64, noLoops, .raw, (no_loops (by kernel_rfl)), ?_⟩
 ·rw [vc64]
  exact (oC h (fun _ h => h) fun _ h => ⟨(sm_lim h_xs rfl), ⟨(Int.natCast_nonneg 0), ⟨(Int.natCast_nonneg _), ⟨(Int.le_refl _), ⟨rfl, ⟨rfl, h⟩⟩⟩⟩⟩⟩)
def c65 : Con := ⟨[.mv], fun args hp K => hpN 0 false TInt (fun xs => args1 (fun a0 => withO 0 a0 ((Sm (Ty.sl TInt) xs) ∧ (∀ r : (List Int), r = (M.compact xs) → K (.own 0 none) [(0, .arr false TInt r)]))) args []) hp, .mv, false⟩
@[reducible] def C65 : Ctx := cx [] 61 [] 0 false
def ann65 := an [[kp 1], [kp 257], [kp 4], [kp 9], [kp 8201], [kp 9], [kp 33554441], [kp 25], [kp 57], [kp 4294967353], [kp 57], [kp 17592186044473], [kp 57], [kp 57], [kp 9], [kp 4], [kp 4]] [[kp 1], [], [kp 9]]
@[reducible] def s65_0 (xs : (List Int)) (i0 : Int) (v0 : Unit) : St := ⟨[(0, .own 0 none), (3, dI i0)], [(0, .arr false TInt xs)]⟩
@[reducible] def LP65_0 (xs : (List Int)) (m : Nat) (st_ : St) (K : KX) : Prop := True ∧ LoopI (s65_0 xs) Z0 (xs.length : Int) (F.slices_Compact_l0 xs) (fun v0 : Unit => True) (outD (fun v0 : Unit => True → K (.exit 0) (⟨[(0, .own 0 none)], [(0, .arr false TInt xs)]⟩ : St)) (fun q0 : Int × (List Int) => K .ret (⟨[(2, .own 0 (some (Z0, q0.1)))], [(0, .arr false TInt q0.2)]⟩ : St))) m st_
@[reducible] def s65_2 (xs : (List Int)) (c2_0 : Int) (i2 : Int) (v2 : Int × (List Int)) : St := ⟨[(0, .own 0 none), (3, dI v2.1), (4, .own 0 (some (c2_0, (xs.length : Int)))), (5, dI i2)], [(0, .arr false TInt v2.2)]⟩
@[reducible] def LP65_2 (xs : (List Int)) (m : Nat) (st_ : St) (K : KX) : Prop := ∃ c2_0 : Int, (((xs.length : Int) - Z1) ≤ top63 ∧ ((xs.length : Int) - c2_0) ≤ top63 ∧ True) ∧ LoopI (s65_2 xs c2_0) Z0 ((xs.length : Int) - c2_0) (F.slices_Compact_l2 xs c2_0) (fun v2 : Int × (List Int) => True) (outD (fun v2 : Int × (List Int) => True → K (.exit 2) (⟨[(0, .own 0 none), (3, dI v2.1)], [(0, .arr false TInt v2.2)]⟩ : St)) (fun _ => False)) m st_
def L65 (xs : (List Int)) : Loops := lp2 0 (LP65_0 xs) 2 (LP65_2 xs)
theorem vc65 (xs : (List Int)) (K : KA) : vcT C65 (L65 xs) ann65 f65 [.own 0 none] [(0, .arr false TInt xs)] .raw K =
 (cond (decide ((xs.length : Int) < Z2)) (K (.own 0 none) [(0, .arr false TInt xs)]) (∃ m_, True ∧ LoopI (s65_0 xs) Z0 (xs.length : Int) (F.slices_Compact_l0 xs) (fun v0 : Unit => True) (outD (fun v0 : Unit => True → K (.own 0 none) [(0, .arr false TInt xs)]) (fun q0 : Int × (List Int) => (Z0 = 0) ∧ K (.own 0 none) [(0, .arr false TInt (q0.2.take q0.1.toNat))])) m_ (s65_0 xs Z1 ()))) := by kernel_rfl
theorem lvc65_0 (xs : (List Int))  (i0 : Int) (v0 : Unit) (m : Nat) (K : KX) : lvT C65 (L65 xs) ann65 f65 0 0 (s65_0 xs i0 v0) m K =
 (cond (decide (i0 < (xs.length : Int))) ((0 ≤ i0) ∧ (i0 < (xs.length : Int)) ∧ (0 ≤ wrap64 (i0 - Z1)) ∧ (wrap64 (i0 - Z1) < (xs.length : Int)) ∧ cond (decide ((nI xs i0) = (nI xs (wrap64 (i0 - Z1))))) ((0 ≤ i0) ∧ (i0 ≤ (xs.length : Int)) ∧ ((xs.length : Int) ≤ (xs.length : Int)) ∧ ((xs.length : Int) = (xs.length : Int)) ∧ (∃ m_, ∃ c2_0 : Int, (((xs.length : Int) - Z1) ≤ top63 ∧ ((xs.length : Int) - c2_0) ≤ top63 ∧ True) ∧ LoopI (s65_2 xs c2_0) Z0 ((xs.length : Int) - c2_0) (F.slices_Compact_l2 xs c2_0) (fun v2 : Int × (List Int) => True) (outD (fun v2 : Int × (List Int) => True → (0 ≤ v2.1) ∧ (v2.1 ≤ (v2.2.length : Int)) ∧ ((v2.2.length : Int) ≤ (v2.2.length : Int)) ∧ ((v2.2.length : Int) = (v2.2.length : Int)) ∧ (0 ≤ Z0) ∧ (Z0 ≤ v2.1) ∧ (v2.1 ≤ ((v2.2.take v2.1.toNat ++ (List.replicate ((v2.2.length : Int) - v2.1).toNat Z0 ++ v2.2.drop (v2.2.length : Int).toNat)).length : Int)) ∧ (v2.1 = v2.1) ∧ K .ret (⟨[(2, .own 0 (some (Z0, v2.1)))], [(0, .arr false TInt (v2.2.take v2.1.toNat ++ (List.replicate ((v2.2.length : Int) - v2.1).toNat Z0 ++ v2.2.drop (v2.2.length : Int).toNat)))]⟩ : St)) (fun _ => False)) m_ (s65_2 xs i0 Z1 (i0, xs)))) (nxT (LP65_0 xs) m K (s65_0 xs (wrap64 (i0 + Z1)) ()))) (K (.exit 0) (⟨[(0, .own 0 none)], [(0, .arr false TInt xs)]⟩ : St))) := by kernel_rfl
theorem lvc65_1 (xs : (List Int)) (c2_0 : Int) (i2 : Int) (v2 : Int × (List Int)) (m : Nat) (K : KX) : lvT C65 (L65 xs) ann65 f65 1 2 (s65_2 xs c2_0 i2 v2) m K =
 (cond (decide (i2 < ((xs.length : Int) - c2_0))) ((0 ≤ i2) ∧ (i2 < (xs.length : Int) - c2_0) ∧ (0 ≤ wrap64 (i2 - Z1)) ∧ (wrap64 (i2 - Z1) < (xs.length : Int) - c2_0) ∧ cond (!decide ((nI v2.2 (c2_0 + i2)) = (nI v2.2 (c2_0 + wrap64 (i2 - Z1))))) ((0 ≤ i2) ∧ (i2 < (xs.length : Int) - c2_0) ∧ (0 ≤ v2.1) ∧ (v2.1 < (v2.2.length : Int)) ∧ (nxT (LP65_2 xs) m K (s65_2 xs c2_0 (wrap64 (i2 + Z1)) (wrap64 (v2.1 + Z1), (v2.2.set v2.1.toNat (nI v2.2 (c2_0 + i2))))))) (nxT (LP65_2 xs) m K (s65_2 xs c2_0 (wrap64 (i2 + Z1)) (v2.1, v2.2)))) (K (.exit 2) (⟨[(0, .own 0 none), (3, dI v2.1)], [(0, .arr false TInt v2.2)]⟩ : St))) := by kernel_rfl
theorem con65_ok : Con1 P 65 c65 := conR C65 func65 kN fun args hp K h0 => by
 unfold c65 at h0
 dsimp only at h0
 obtain ⟨xs, rfl, h00⟩ := hpN_elim (n := 0) (d := false) (t := TInt) h0
 obtain ⟨a0, rfl, _, h1⟩ := args1_elim h00
 obtain ⟨rfl, h2⟩ := withO_elim h1
 obtain ⟨h_xs, hK⟩ := h2
 have h : ok (F.slices_Compact xs) (fun r => K (.own 0 none) [(0, .arr false TInt r)]) := ok_of_eq (F.slices_Compact_eq xs h_xs) (hK _ rfl)
 refine ⟨rfl, ann65, (L65 xs), .raw, (loopsN2 (i0 := 0) (i1 := 2) (by kernel_rfl) ?_ ?_), ?_⟩
 ·rintro _ _ K ⟨hc0, i0, v0, rfl, hl0, rfl, hv0, h⟩
  exact cast (lvc65_0 _ _ _ _ _).symm (loopI_step h (fun ht0 h => ⟨hl0, ⟨ht0, (oG h fun _ h => (oG h fun _ h => (oC h (fun _ h => ⟨hl0, (oG h fun _ h => ⟨(Int.le_refl _), ⟨rfl, (have hi_0 := (ok_guard h).1; have hi_1 := (ok_guard (ok_guard h).2).1; have h := (ok_guard (ok_guard h).2).2; (loopI_start (fun m hm => ⟨i0, ⟨hi_0, hi_1, trivial⟩, hm⟩) Z1 _ rfl (Int.natCast_nonneg 1) trivial (ok_then h (fun v2 h hv2 => (oG h fun _ h => (oG h fun _ h => ⟨(Int.le_refl _), ⟨rfl, ⟨(Int.natCast_nonneg 0), (oG h fun _ h => (oG h fun _ h => ⟨rfl, h⟩))⟩⟩⟩))) (fun _ h => h.elim))))⟩⟩)⟩) fun _ h => (loopI_next (fun _ hm => ⟨hc0, hm⟩) _ rfl hl0 low0 ht0 (sm_len h_xs) trivial h))))⟩⟩) fun h => (h trivial))
 ·rintro _ _ K ⟨c2_0, hc2, i2, v2, rfl, hl2, rfl, hv2, h⟩
  exact cast (lvc65_1 _ _ _ _ _ _).symm (loopI_step h (fun ht2 h => ⟨hl2, (oG h fun g1 h => (oG h fun _ h => (oG h fun _ h => (oC h (fun _ h => ⟨hl2, ⟨g1, (oG h fun _ h => (oG h fun _ h => (loopI_next (fun _ hm => ⟨c2_0, hc2, hm⟩) _ rfl hl2 low0 ht2 hc2.2.1 trivial h)))⟩⟩) fun _ h => (loopI_next (fun _ hm => ⟨c2_0, hc2, hm⟩) _ rfl hl2 low0 ht2 hc2.2.1 trivial h)))))⟩) fun h => (h trivial))
 ·rw [vc65]
  exact (oC h (fun _ h => h) fun _ h => (loopI_start (fun m hm => ⟨trivial, hm⟩) Z1 _ rfl (Int.natCast_nonneg 1) trivial (ok_then h (fun v0 h hv0 => h) (fun q0 h => ⟨rfl, h⟩))))
def c43 : Con := ⟨[.dat TPS], fun args hp K => g1 (pD TPS) (fun e => (Sm TPS e) ∧ (e.length ≤ 12) ∧ (∀ r : (List Int), r = (M.exprCols e) → K (.clp 0 (r.length : Int)) [(0, .arr false TInt r)])) args hp, .bor, false⟩
@[reducible] def C43 : Ctx := cx [(63, c63), (64, c64), (65, c65)] 26 [] 0 false
def ann43 := an [[kp 1], [kp 9], [kp 456], [kp 968], [.fixRow 5 TPart, kp 488], [kp 16872], [kp 456], [kp 456], [kp 8], [kp 4]] [[kp 8]]
@[reducible] def s43_0 (e : LPt) (i0 : Int) (v0 : (List Int)) : St := ⟨[(3, .own 3 none), (6, .data TPS e), (7, dI (e.length : Int)), (8, dI i0)], [(3, .arr false TInt v0)]⟩
@[reducible] def LP43_0 (e : LPt) (m : Nat) (st_ : St) (K : KX) : Prop := True ∧ LoopE (t := TPart) (s43_0 e) e (F.impl_exprColumns_l0 e) (fun v0 : (List Int) => True) (outD (fun v0 : (List Int) => True → K (.exit 0) (⟨[(3, .own 3 none)], [(3, .arr false TInt v0)]⟩ : St)) (fun _ => False)) m st_
def L43 (e : LPt) : Loops := lp1 0 (LP43_0 e)
theorem vc43 (e : LPt) (K : KA) : vcT C43 (L43 e) ann43 f43 [.data TPS e] [] .raw K =
 (∃ m_, True ∧ LoopE (t := TPart) (s43_0 e) e (F.impl_exprColumns_l0 e) (fun v0 : (List Int) => True) (outD (fun v0 : (List Int) => True → ((v0.length : Int) = (v0.length : Int)) ∧ (Sm (Ty.sl TInt) v0) ∧ (v0.length ≤ 12) ∧ (∀ r1 : (List Int), r1 = (M.isort v0) → (r1.length = v0.length) ∧ (Sm (Ty.sl TInt) r1) ∧ (∀ r2 : (List Int), r2 = (M.compact r1) → (Sm (Ty.sl TInt) r2) ∧ (∀ r3 : (List Int), r3 = r2 → K (.clp 0 ((r3.take (r3.length : Int).toNat).length : Int)) [(0, .arr false TInt (r3.take (r3.length : Int).toNat))])))) (fun _ => False)) m_ (s43_0 e Z0 [])) := by kernel_rfl
theorem lvc43_0 (e : LPt)  (i0 : Int) (v0 : (List Int)) (m : Nat) (K : KX) : lvT C43 (L43 e) ann43 f43 0 0 (s43_0 e i0 v0) m K =
 (cond (decide (i0 < (e.length : Int))) ((0 ≤ i0) ∧ (i0 < (e.length : Int)) ∧ cond (decide ((nP e i0).1 = Z2)) (((v0.length + [(nP e i0).2.1].length) * 8 ≤ lim) ∧ (nxT (LP43_0 e) m K (s43_0 e (wrap64 (i0 + Z1)) (v0 ++ [(nP e i0).2.1])))) (nxT (LP43_0 e) m K (s43_0 e (wrap64 (i0 + Z1)) v0))) (K (.exit 0) (⟨[(3, .own 3 none)], [(3, .arr false TInt v0)]⟩ : St))) := by kernel_rfl
theorem con43_ok : Con1 P 43 c43 := conR C43 func43 (kC con63_ok (kC con64_ok (kC con65_ok kN))) fun args hp K h0 => by
 obtain ⟨e, rfl, rfl, h_e, p0, hK⟩ := g1e h0
 have h : ok (F.impl_exprColumns e) (fun r => K (.clp 0 (r.length : Int)) [(0, .arr false TInt r)]) := ok_of_eq (F.impl_exprColumns_eq e h_e p0) (hK _ rfl)
 refine ⟨rfl, ann43, (L43 e), .raw, (loopsN1 (i0 := 0) (by kernel_rfl) ?_), ?_⟩
 ·rintro _ _ K ⟨hc0, i0, v0, rfl, hl0, rfl, hv0, h⟩
  exact cast (lvc43_0 _ _ _ _ _).symm (loopE_step (t := TPart) hl0 h (fun ht0 h => ⟨hl0, ⟨ht0, (oC h (fun _ h => (oG h fun _ h => (loopE_next (t := TPart) (fun _ hm => ⟨hc0, hm⟩) _ rfl hl0 ht0 (sm_len h_e) trivial h))) fun _ h => (loopE_next (t := TPart) (fun _ hm => ⟨hc0, hm⟩) _ rfl hl0 ht0 (sm_len h_e) trivial h))⟩⟩) fun h => (h trivial))
 ·rw [vc43]
  exact (loopE_start (t := TPart) (fun m hm => ⟨trivial, hm⟩) _ rfl trivial (ok_then h (fun v0 h hv0 => ⟨rfl, (oG h fun _ h => (oG h fun _ h => (oL h fun _ er1 h => ⟨(by rw [er1]; exact (M.isort_length _)), (oG h fun _ h => (oL h fun _ _ h => (oG h fun _ h => (oL h fun _ _ h => h))))⟩)))⟩) (fun _ h => h.elim)))
def c128 : Con := ⟨[.dat TInt], fun args hp K => g1 (pD TInt) (fun truth => (∀ r : TValue.D, r = (M.valueOf truth) → K (.data TValue r) [])) args hp, .plain, false⟩
@[reducible] def C128 : Ctx := cx [(67, c67)] 9 [] 0 false
def ann128 := an [[kp 5], [kp 37], [kp 4], [kp 4]] []
theorem vc128 (truth : Int) (K : KA) : vcT C128 noLoops ann128 f128 [dI truth] [] (.dat TValue) K =
 (cond (!(M.inR truth Z0 Z1)) (K (.data TValue (Z0, (Z0, ((⟨#[]⟩ : ByteArray), ())))) []) (K (.data TValue (Z3, (truth, ((⟨#[]⟩ : ByteArray), ())))) [])) := by kernel_rfl
theorem con128_ok : Con1 P 128 c128 := conR C128 func128 (kC con67_ok kN) fun args hp K h0 => by
 obtain ⟨truth, rfl, rfl, hK⟩ := g1e h0
 have h : ok (F.impl_ValueOf truth) (fun r => K (.data TValue r) []) := ok_of_eq (F.impl_ValueOf_eq truth) (hK _ rfl)
 refine ⟨rfl, ann128, noLoops, (.dat TValue), (no_loops (by kernel_rfl)), ?_⟩
 ·rw [vc128]
  exact (oC h (fun _ h => h) fun _ h => h)
def c136 : Con := ⟨[.dat Ty.bool], fun args hp K => g1 (pD Ty.bool) (fun b => K (dI (M.bool b)) []) args hp, .plain, false⟩
@[reducible] def C136 : Ctx := cx [] 4 [] 0 false
def ann136 := an [[kp 1], [kp 8], [kp 4], [kp 4]] []
theorem vc136 (b : Bool) (K : KA) : vcT C136 noLoops ann136 f136 [dB b] [] (.dat TInt) K =
 (cond b (K (dI Z1) []) (K (dI Z0) [])) := by kernel_rfl
theorem con136_ok : Con1 P 136 c136 := conR C136 func136 kN fun args hp K h0 => by
 obtain ⟨b, rfl, rfl, hK⟩ := g1e h0
 have h : ok (F.impl_truthIf b) (fun r => K (dI r) []) := ok_of_eq (F.impl_truthIf_eq b) hK
 refine ⟨rfl, ann136, noLoops, (.dat TInt), (no_loops (by kernel_rfl)), ?_⟩
 ·rw [vc136]
  exact (oC h (fun _ h => h) fun _ h => h)
def c202 : Con := ⟨[.dat (Ty.sl TInt)], fun args hp K => g1 (pD (Ty.sl TInt)) (fun vals => (Sm (Ty.sl TInt) vals) ∧ K (dI (M.orI vals)) []) args hp, .plain, false⟩
@[reducible] def C202 : Ctx := cx [] 18 [] 0 false
def ann202 := an [[kp 1], [kp 9], [kp 456], [kp 968], [kp 488], [kp 16872], [kp 4], [kp 456], [kp 4]] [[kp 8]]
@[reducible] def s202_0 (vals : (List Int)) (i0 : Int) (v0 : Unit) : St := ⟨[(3, dI Z0), (6, .data (Ty.sl TInt) vals), (7, dI (vals.length : Int)), (8, dI i0)], []⟩
@[reducible] def LP202_0 (vals : (List Int)) (m : Nat) (st_ : St) (K : KX) : Prop := True ∧ LoopE (t := TInt) (s202_0 vals) vals (F.cmp_Or_int_l0 vals) (fun v0 : Unit => True) (outD (fun v0 : Unit => True → K (.exit 0) (⟨[(3, dI Z0)], []⟩ : St)) (fun q0 : Int => K .ret (⟨[(2, dI q0)], []⟩ : St))) m st_
def L202 (vals : (List Int)) : Loops := lp1 0 (LP202_0 vals)
theorem vc202 (vals : (List Int)) (K : KA) : vcT C202 (L202 vals) ann202 f202 [.data (Ty.sl TInt) vals] [] (.dat TInt) K =
 (∃ m_, True ∧ LoopE (t := TInt) (s202_0 vals) vals (F.cmp_Or_int_l0 vals) (fun v0 : Unit => True) (outD (fun v0 : Unit => True → K (dI Z0) []) (fun q0 : Int => K (dI q0) [])) m_ (s202_0 vals Z0 ())) := by kernel_rfl
theorem lvc202_0 (vals : (List Int))  (i0 : Int) (v0 : Unit) (m : Nat) (K : KX) : lvT C202 (L202 vals) ann202 f202 0 0 (s202_0 vals i0 v0) m K =
 (cond (decide (i0 < (vals.length : Int))) ((0 ≤ i0) ∧ (i0 < (vals.length : Int)) ∧ cond (!decide ((nI vals i0) = Z0)) (K .ret (⟨[(2, dI (nI vals i0))], []⟩ : St)) (nxT (LP202_0 vals) m K (s202_0 vals (wrap64 (i0 + Z1)) ()))) (K (.exit 0) (⟨[(3, dI Z0)], []⟩ : St))) := by kernel_rfl
theorem con202_ok : Con1 P 202 c202 := conR C202 func202 kN fun args hp K h0 => by
 obtain ⟨vals, rfl, rfl, h_vals, hK⟩ := g1e h0
 have h : ok (F.cmp_Or_int vals) (fun r => K (dI r) []) := ok_of_eq (F.cmp_Or_int_eq vals h_vals) hK
 refine ⟨rfl, ann202, (L202 vals), (.dat TInt), (loopsN1 (i0 := 0) (by kernel_rfl) ?_), ?_⟩
 ·rintro _ _ K ⟨hc0, i0, v0, rfl, hl0, rfl, hv0, h⟩
  exact cast (lvc202_0 _ _ _ _ _).symm (loopE_step (t := TInt) hl0 h (fun ht0 h => ⟨hl0, ⟨ht0, (oC h (fun _ h => h) fun _ h => (loopE_next (t := TInt) (fun _ hm => ⟨hc0, hm⟩) _ rfl hl0 ht0 (sm_len h_vals) trivial h))⟩⟩) fun h => (h trivial))
 ·rw [vc202]
  exact (loopE_start (t := TInt) (fun m hm => ⟨trivial, hm⟩) _ rfl trivial (ok_then h (fun v0 h hv0 => h) (fun q0 h => h)))
def c203 : Con := ⟨[.dat TInt, .dat TInt], fun args hp K => g2 (pD TInt) (pD TInt) (fun x y => K (dI (M.cmpI x y)) []) args hp, .plain, false⟩
@[reducible] def C203 : Ctx := cx [(200, c200)] 20 [] 0 false
def ann203 := an [[kp 3], [kp 35], [kp 99], [kp 2115], [kp 4096], [kp 16], [kp 16], [kp 8195], [kp 16], [kp 65539], [kp 16], [kp 524288], [kp 16], [kp 16]] []
theorem vc203 (x : Int) (y : Int) (K : KA) : vcT C203 noLoops ann203 f203 [dI x, dI y] [] (.dat TInt) K =
 (cond false (cond false (K (dI Z0) []) (K (dI (-1 : Int)) [])) (cond false (K (dI Z1) []) (cond (decide (x < y)) (K (dI (-1 : Int)) []) (cond (decide (y < x)) (K (dI Z1) []) (K (dI Z0) []))))) := by kernel_rfl
theorem con203_ok : Con1 P 203 c203 := conR C203 func203 (kC con200_ok kN) fun args hp K h0 => by
 obtain ⟨x, y, rfl, rfl, hK⟩ := g2e h0
 have h : ok (F.cmp_Compare_int x y) (fun r => K (dI r) []) := ok_of_eq (F.cmp_Compare_int_eq x y) hK
 refine ⟨rfl, ann203, noLoops, (.dat TInt), (no_loops (by kernel_rfl)), ?_⟩
 ·rw [vc203]
  exact (oC h (fun b_1 h => (cond_t b_1 h)) fun b_1 h => (cond_f b_1 (oC h (fun _ h => h) fun _ h => (oC h (fun _ h => h) fun _ h => h))))
def c214 : Con := ⟨[.dat Ty.str], fun args hp K => g1 (pD Ty.str) (fun x => (Sm Ty.str x) ∧ K (dB false) []) args hp, .plain, false⟩
@[reducible] def C214 : Ctx := cx [] 6 [] 0 false
def ann214 := an [[kp 1], [kp 4]] []
theorem vc214 (x : ByteArray) (K : KA) : vcT C214 noLoops ann214 f214 [.data Ty.str x] [] (.dat Ty.bool) K =
 (K (dB (!decide (x = x))) []) := by kernel_rfl
theorem con214_ok : Con1 P 214 c214 := conR C214 func214 kN fun args hp K h0 => by
 obtain ⟨x, rfl, rfl, h_x, hK⟩ := g1e h0
 have h : ok (F.cmp_isNaN_string x) (fun r => K (dB r) []) := ok_of_eq (F.cmp_isNaN_string_eq x h_x) hK
 refine ⟨rfl, ann214, noLoops, (.dat Ty.bool), (no_loops (by kernel_rfl)), ?_⟩
 ·rw [vc214]
  exact h
def c204 : Con := ⟨[.dat Ty.str, .dat Ty.str], fun args hp K => g2 (pD Ty.str) (pD Ty.str) (fun x y => (Sm Ty.str x) ∧ (Sm Ty.str y) ∧ K (dI (M.cmpS x y)) []) args hp, .plain, false⟩
@[reducible] def C204 : Ctx := cx [(214, c214)] 20 [] 0 false
def ann204 := an [[kp 3], [kp 35], [kp 99], [kp 2115], [kp 4096], [kp 16], [kp 16], [kp 8195], [kp 16], [kp 65539], [kp 16], [kp 524288], [kp 16], [kp 16]] []
theorem vc204 (x : ByteArray) (y : ByteArray) (K : KA) : vcT C204 noLoops ann204 f204 [.data Ty.str x, .data Ty.str y] [] (.dat TInt) K =
 ((Sm Ty.str x) ∧ (Sm Ty.str y) ∧ cond false (cond false (K (dI Z0) []) (K (dI (-1 : Int)) [])) (cond false (K (dI Z1) []) (cond (Op.bytesLess x.toList y.toList) (K (dI (-1 : Int)) []) (cond (!(Op.bytesLess x.toList y.toList || decide (x = y))) (K (dI Z1) []) (K (dI Z0) []))))) := by kernel_rfl
theorem con204_ok : Con1 P 204 c204 := conR C204 func204 (kC con214_ok kN) fun args hp K h0 => by
 obtain ⟨x, y, rfl, rfl, h_x, h_y, hK⟩ := g2e h0
 have h : ok (F.cmp_Compare_string x y) (fun r => K (dI r) []) := ok_of_eq (F.cmp_Compare_string_eq x y h_x h_y) hK
 refine ⟨rfl, ann204, noLoops, (.dat TInt), (no_loops (by kernel_rfl)), ?_⟩
 ·rw [vc204]
  exact ⟨h_x, ⟨h_y, (oC h (fun b_1 h => (cond_t b_1 h)) fun b_1 h => (cond_f b_1 (oC h (fun _ h => h) fun _ h => (oC h (fun _ h => h) fun _ h => h))))⟩⟩
def c178 : Con := ⟨[.dat TValue, .dat TValue], fun args hp K => g2 (pD TValue) (pD TValue) (fun v w => (Sm TValue v) ∧ (Sm TValue w) ∧ K (dI (M.order v w)) []) args hp, .plain, false⟩
@[reducible] def C178 : Ctx := cx [(202, c202), (203, c203), (204, c204)] 22 [] 0 false
def ann178 := an [[.fixRow 2 TValue, .fixRow 3 TValue, kp 12], [kp 16]] []
theorem vc178 (v : TValue.D) (w : TValue.D) (K : KA) : vcT C178 noLoops ann178 f178 [.data TValue v, .data TValue w] [] (.dat TInt) K =
 ((Sm Ty.str v.2.2.1) ∧ (Sm Ty.str w.2.2.1) ∧ (Sm (Ty.sl TInt) [(M.cmpI v.1 w.1), (M.cmpI v.2.1 w.2.1), (M.cmpS v.2.2.1 w.2.2.1)]) ∧ K (dI (M.orI [(M.cmpI v.1 w.1), (M.cmpI v.2.1 w.2.1), (M.cmpS v.2.2.1 w.2.2.1)])) []) := by kernel_rfl
theorem con178_ok : Con1 P 178 c178 := conR C178 func178 (kC con202_ok (kC con203_ok (kC con204_ok kN))) fun args hp K h0 => by
 obtain ⟨v, w, rfl, rfl, h_v, h_w, hK⟩ := g2e h0
 have h : ok (F.impl_Value_order v w) (fun r => K (dI r) []) := ok_of_eq (F.impl_Value_order_eq v w h_v h_w) hK
 refine ⟨rfl, ann178, noLoops, (.dat TInt), (no_loops (by kernel_rfl)), ?_⟩
 ·rw [vc178]
  exact ⟨h_v.2.2.1, ⟨h_w.2.2.1, (oG h fun _ h => h)⟩⟩
def c131 : Con := ⟨[.dat TInt, .dat TValue, .dat TValue], fun args hp K => g3 (pD TInt) (pD TValue) (pD TValue) (fun kind a b => (Sm TValue a) ∧ (Sm TValue b) ∧ K (dI (M.compare kind a b)) []) args hp, .plain, false⟩
@[reducible] def C131 : Ctx := cx [(67, c67), (99, c99), (136, c136), (178, c178)] 71 [] 0 false
def ann131 := an [[.fixRow 4 TValue, .fixRow 5 TValue, kp 49], [kp 305], [kp 64], [kp 4194353], [kp 64], [kp 2147483697], [kp 64], [kp 129], [kp 64]] []
@[reducible] def S131_0 (kind : Int) (a : TValue.D) (b : TValue.D) (K : KA) : Prop := cond ((decide (kind = Z4)) == true) (K (dI (M.bool (decide ((M.order a b) ≤ Z0)))) []) (K (dI (M.bool false)) [])
@[reducible] def S131_1 (kind : Int) (a : TValue.D) (b : TValue.D) (K : KA) : Prop := cond ((decide (kind = Z3)) == true) (cond ((decide ((M.order a b) < Z0)) == false) (S131_0 kind a b K) (K (dI (M.bool true)) [])) (S131_0 kind a b K)
@[reducible] def S131_2 (kind : Int) (a : TValue.D) (b : TValue.D) (K : KA) : Prop := cond ((decide (kind = Z2)) == true) (cond ((!decide ((M.order a b) = Z0)) == false) (S131_1 kind a b K) (K (dI (M.bool true)) [])) (S131_1 kind a b K)
theorem vc131 (kind : Int) (a : TValue.D) (b : TValue.D) (K : KA) : vcT C131 noLoops ann131 f131 [dI kind, .data TValue a, .data TValue b] [] (.dat TInt) K =
 (cond ((!(M.inR kind Z1 Z4)) == false) ((Sm TValue a) ∧ cond ((!(M.valueOk a)) == false) ((Sm TValue b) ∧ cond (!(M.valueOk b)) (K (dI (-1 : Int)) []) (cond ((decide (a.1 = Z0)) == false) (cond (decide (b.1 = Z0)) (K (dI Z2) []) (cond (!decide (a.1 = b.1)) (K (dI (-1 : Int)) []) ((Sm TValue a) ∧ (Sm TValue b) ∧ cond ((decide (kind = Z1)) == true) (cond ((decide ((M.order a b) = Z0)) == false) (S131_2 kind a b K) (K (dI (M.bool true)) [])) (S131_2 kind a b K)))) (K (dI Z2) []))) (K (dI (-1 : Int)) [])) (K (dI (-1 : Int)) [])) := by kernel_rfl
theorem con131_ok : Con1 P 131 c131 := conR C131 func131 (kC con67_ok (kC con99_ok (kC con136_ok (kC con178_ok kN)))) fun args hp K h0 => by
 obtain ⟨kind, a, b, rfl, rfl, h_a, h_b, hK⟩ := g3e h0
 have h : ok (F.impl_Compare kind a b) (fun r => K (dI r) []) := ok_of_eq (F.impl_Compare_eq kind a b h_a h_b) hK
 refine ⟨rfl, ann131, noLoops, (.dat TInt), (no_loops (by kernel_rfl)), ?_⟩
 ·rw [vc131]
  exact (oC h (fun _ h => ⟨h_a, (oC h (fun _ h => ⟨h_b, (oC h (fun _ h => h) fun _ h => (oC h (fun _ h => (oC h (fun _ h => h) fun _ h => (oC h (fun _ h => h) fun _ h => ⟨h_a, ⟨h_b, (oC h (fun b_7 h => (oC h (fun _ h => (cond_f (uef (dec_ne (bet b_7) (by decide))) (cond_f (uef (dec_ne (bet b_7) (by decide))) (cond_f (uef (dec_ne (bet b_7) (by decide))) h)))) fun _ h => h)) fun _ h => (oC h (fun b_19 h => (oC h (fun _ h => (cond_f (uef (dec_ne (bet b_19) (by decide))) (cond_f (uef (dec_ne (bet b_19) (by decide))) h))) fun _ h => h)) fun _ h => (oC h (fun b_25 h => (oC h (fun _ h => (cond_f (uef (dec_ne (bet b_25) (by decide))) h)) fun _ h => h)) fun _ h => (oC h (fun _ h => h) fun _ h => h))))⟩⟩))) fun _ h => h))⟩) fun _ h => h)⟩) fun _ h => h)
def c205 : Con := ⟨[.dat TInt], fun args hp K => g1 (pD TInt) (fun n => K (dB (M.inR n 0 2)) []) args hp, .plain, false⟩
@[reducible] def C205 : Ctx := cx [(67, c67)] 5 [] 0 false
def ann205 := an [[kp 1], [kp 4]] []
theorem vc205 (n : Int) (K : KA) : vcT C205 noLoops ann205 f205 [dI n] [] (.dat Ty.bool) K =
 (K (dB (M.inR n Z0 Z2)) []) := by kernel_rfl
theorem con205_ok : Con1 P 205 c205 := conR C205 func205 (kC con67_ok kN) fun args hp K h0 => by
 obtain ⟨n, rfl, rfl, hK⟩ := g1e h0
 have h : ok (F.impl_TruthOk n) (fun r => K (dB r) []) := ok_of_eq (F.impl_TruthOk_eq n) hK
 refine ⟨rfl, ann205, noLoops, (.dat Ty.bool), (no_loops (by kernel_rfl)), ?_⟩
 ·rw [vc205]
  exact h
def c179 : Con := ⟨[.dat TInt, .dat TInt, .dat TInt], fun args hp K => g3 (pD TInt) (pD TInt) (pD TInt) (fun a b alone => (0 ≤ alone ∧ alone ≤ 1) ∧ K (dI (M.fold a b alone)) []) args hp, .plain, false⟩
@[reducible] def C179 : Ctx := cx [(205, c205)] 35 [] 0 false
def ann179 := an [[kp 7], [kp 135], [kp 64], [kp 65543], [kp 64], [kp 67108868], [kp 64], [kp 64]] []
theorem vc179 (a : Int) (b : Int) (alone : Int) (K : KA) : vcT C179 noLoops ann179 f179 [dI a, dI b, dI alone] [] (.dat TInt) K =
 (cond ((!(M.inR a 0 2)) == false) (cond (!(M.inR b 0 2)) (K (dI (-1 : Int)) []) (cond ((decide (a = alone)) == false) (cond (decide (b = alone)) (K (dI alone) []) (cond ((decide (a = Z2)) == false) (cond (decide (b = Z2)) (K (dI Z2) []) (K (dI (wrap64 (Z1 - alone))) [])) (K (dI Z2) []))) (K (dI alone) []))) (K (dI (-1 : Int)) [])) := by kernel_rfl
theorem con179_ok : Con1 P 179 c179 := conR C179 func179 (kC con205_ok kN) fun args hp K h0 => by
 obtain ⟨a, b, alone, rfl, rfl, p0, hK⟩ := g3e h0
 have h : ok (F.impl_fold a b alone) (fun r => K (dI r) []) := ok_of_eq (F.impl_fold_eq a b alone p0) hK
 refine ⟨rfl, ann179, noLoops, (.dat TInt), (no_loops (by kernel_rfl)), ?_⟩
 ·rw [vc179]
  exact (oC h (fun _ h => (oC h (fun _ h => h) fun _ h => (oC h (fun _ h => (oC h (fun _ h => h) fun _ h => (oC h (fun _ h => (oC h (fun _ h => h) fun _ h => h)) fun _ h => h))) fun _ h => h))) fun _ h => h)
def c132 : Con := ⟨[.dat TInt, .dat TInt], fun args hp K => g2 (pD TInt) (pD TInt) (fun a b => K (dI (M.andOf a b)) []) args hp, .plain, false⟩
@[reducible] def C132 : Ctx := cx [(179, c179)] 8 [] 0 false
def ann132 := an [[kp 3], [kp 16]] []
theorem vc132 (a : Int) (b : Int) (K : KA) : vcT C132 noLoops ann132 f132 [dI a, dI b] [] (.dat TInt) K =
 ((0 ≤ Z0 ∧ Z0 ≤ 1) ∧ K (dI (M.fold a b Z0)) []) := by kernel_rfl
theorem con132_ok : Con1 P 132 c132 := conR C132 func132 (kC con179_ok kN) fun args hp K h0 => by
 obtain ⟨a, b, rfl, rfl, hK⟩ := g2e h0
 have h : ok (F.impl_AndOf a b) (fun r => K (dI r) []) := ok_of_eq (F.impl_AndOf_eq a b) hK
 refine ⟨rfl, ann132, noLoops, (.dat TInt), (no_loops (by kernel_rfl)), ?_⟩
 ·rw [vc132]
  exact (oG h fun _ h => h)
def c133 : Con := ⟨[.dat TValue], fun args hp K => g1 (pD TValue) (fun v => (Sm TValue v) ∧ K (dI (M.truthOf v)) []) args hp, .plain, false⟩
@[reducible] def C133 : Ctx := cx [(99, c99)] 17 [] 0 false
def ann133 := an [[.fixRow 1 TValue, kp 2], [kp 10], [kp 4], [kp 130], [kp 4], [kp 2050], [kp 4], [kp 4]] []
theorem vc133 (v : TValue.D) (K : KA) : vcT C133 noLoops ann133 f133 [.data TValue v] [] (.dat TInt) K =
 ((Sm TValue v) ∧ cond (!(M.valueOk v)) (K (dI (-1 : Int)) []) (cond (decide (v.1 = Z0)) (K (dI Z2) []) (cond (decide (v.1 = Z3)) (K (dI v.2.1) []) (K (dI (-1 : Int)) [])))) := by kernel_rfl
theorem con133_ok : Con1 P 133 c133 := conR C133 func133 (kC con99_ok kN) fun args hp K h0 => by
 obtain ⟨v, rfl, rfl, h_v, hK⟩ := g1e h0
 have h : ok (F.impl_TruthOf v) (fun r => K (dI r) []) := ok_of_eq (F.impl_TruthOf_eq v h_v) hK
 refine ⟨rfl, ann133, noLoops, (.dat TInt), (no_loops (by kernel_rfl)), ?_⟩
 ·rw [vc133]
  exact ⟨h_v, (oC h (fun _ h => h) fun _ h => (oC h (fun _ h => h) fun _ h => (oC h (fun _ h => h) fun _ h => h)))⟩
def c134 : Con := ⟨[.dat TInt, .dat TInt], fun args hp K => g2 (pD TInt) (pD TInt) (fun a b => K (dI (M.orOf a b)) []) args hp, .plain, false⟩
@[reducible] def C134 : Ctx := cx [(179, c179)] 8 [] 0 false
def ann134 := an [[kp 3], [kp 16]] []
theorem vc134 (a : Int) (b : Int) (K : KA) : vcT C134 noLoops ann134 f134 [dI a, dI b] [] (.dat TInt) K =
 ((0 ≤ Z1 ∧ Z1 ≤ 1) ∧ K (dI (M.fold a b Z1)) []) := by kernel_rfl
theorem con134_ok : Con1 P 134 c134 := conR C134 func134 (kC con179_ok kN) fun args hp K h0 => by
 obtain ⟨a, b, rfl, rfl, hK⟩ := g2e h0
 have h : ok (F.impl_OrOf a b) (fun r => K (dI r) []) := ok_of_eq (F.impl_OrOf_eq a b) hK
 refine ⟨rfl, ann134, noLoops, (.dat TInt), (no_loops (by kernel_rfl)), ?_⟩
 ·rw [vc134]
  exact (oG h fun _ h => h)
def c135 : Con := ⟨[.dat TInt], fun args hp K => g1 (pD TInt) (fun a => K (dI (M.notOf a)) []) args hp, .plain, false⟩
@[reducible] def C135 : Ctx := cx [] 10 [] 0 false
def ann135 := an [[kp 1], [kp 8], [kp 24], [kp 4], [kp 72], [kp 4], [kp 256], [kp 4], [kp 4]] []
theorem vc135 (a : Int) (K : KA) : vcT C135 noLoops ann135 f135 [dI a] [] (.dat TInt) K =
 (cond (decide (a = Z0)) (K (dI Z1) []) (cond (decide (a = Z1)) (K (dI Z0) []) (cond (decide (a = Z2)) (K (dI Z2) []) (K (dI (-1 : Int)) [])))) := by kernel_rfl
theorem con135_ok : Con1 P 135 c135 := conR C135 func135 kN fun args hp K h0 => by
 obtain ⟨a, rfl, rfl, hK⟩ := g1e h0
 have h : ok (F.impl_NotOf a) (fun r => K (dI r) []) := ok_of_eq (F.impl_NotOf_eq a) hK
 refine ⟨rfl, ann135, noLoops, (.dat TInt), (no_loops (by kernel_rfl)), ?_⟩
 ·rw [vc135]
  exact (oC h (fun _ h => h) fun _ h => (oC h (fun _ h => h) fun _ h => (oC h (fun _ h => h) fun _ h => h)))
def c92 : Con := ⟨[.dat TPart, .dat TVS, .lent TValue], fun args hp K => g3 (pD TPart) (pD TVS) (pB TValue) (fun p row inp => (Sm TPart p) ∧ (Sm TVS row) ∧ (Sm TVS inp) ∧ ((inp.length : Int) = M.takes p) ∧ (M.colIn p row.length) ∧ (1 ≤ p.1 ∧ p.1 ≤ 8) ∧ (∀ r : TValue.D, r = (M.partValue p row inp) → K (.data TValue r) [])) args hp, .plain, false⟩
@[reducible] def C92 : Ctx := cx [(99, c99), (128, c128), (131, c131), (132, c132), (133, c133), (134, c134), (135, c135), (136, c136)] 103 [] 0 false
def ann92 := an [[.fixRow 3 TPart, kp 78], [kp 590], [kp 1614], [kp 64], [kp 16974], [kp 64], [kp 2097740], [.fixRow 7 TValue, kp 196], [.keep [6, 7, 49]], [kp 64], [kp 64], [kp 4503599627371084], [kp 64], [.keep [2, 6, 9, 64]], [kp 64], [.keep [2, 6, 9, 76]], [kp 64], [.keep [2, 6, 88]], [kp 64], [kp 64]] []
theorem vc92 (p : TPart.D) (row : LV) (inp : LV) (K : KA) : vcT C92 noLoops ann92 f92 [.data TPart p, .data TVS row, .brw TValue inp] [] (.dat TValue) K =
 (cond (decide (p.1 = Z1)) (K (.data TValue p.2.2.1) []) (cond (decide (p.1 = Z2)) ((0 ≤ p.2.1) ∧ (p.2.1 < (row.length : Int)) ∧ K (.data TValue (nV row p.2.1)) []) (cond (decide (p.1 = Z3)) ((0 ≤ Z0) ∧ (Z0 < (inp.length : Int)) ∧ (0 ≤ Z1) ∧ (Z1 < (inp.length : Int)) ∧ (0 ≤ Z0) ∧ (Z0 < (inp.length : Int)) ∧ cond ((decide ((nV inp Z0).1 = Z0)) == false) ((0 ≤ Z1) ∧ (Z1 < (inp.length : Int)) ∧ cond ((decide ((nV inp Z1).1 = Z0)) == false) ((Sm TValue (Z1, (wrap64 ((nV inp Z0).2.1 + (nV inp Z1).2.1), ((⟨#[]⟩ : ByteArray), ())))) ∧ cond (!(M.valueOk (Z1, (wrap64 ((nV inp Z0).2.1 + (nV inp Z1).2.1), ((⟨#[]⟩ : ByteArray), ()))))) (K (.data TValue (Z0, (Z0, ((⟨#[]⟩ : ByteArray), ())))) []) (K (.data TValue (Z1, (wrap64 ((nV inp Z0).2.1 + (nV inp Z1).2.1), ((⟨#[]⟩ : ByteArray), ())))) [])) (K (.data TValue (Z0, (Z0, ((⟨#[]⟩ : ByteArray), ())))) [])) (K (.data TValue (Z0, (Z0, ((⟨#[]⟩ : ByteArray), ())))) [])) (cond (decide (p.1 = Z4)) ((0 ≤ Z0) ∧ (Z0 < (inp.length : Int)) ∧ (0 ≤ Z1) ∧ (Z1 < (inp.length : Int)) ∧ (Sm TValue (nV inp Z0)) ∧ (Sm TValue (nV inp Z1)) ∧ (∀ r1 : TValue.D, r1 = (M.valueOf (M.compare p.2.1 (nV inp Z0) (nV inp Z1))) → K (.data TValue r1) [])) (cond (decide (p.1 = Z5)) ((0 ≤ Z0) ∧ (Z0 < (inp.length : Int)) ∧ (0 ≤ Z1) ∧ (Z1 < (inp.length : Int)) ∧ (Sm TValue (nV inp Z0)) ∧ (Sm TValue (nV inp Z1)) ∧ (∀ r2 : TValue.D, r2 = (M.valueOf (M.andOf (M.truthOf (nV inp Z0)) (M.truthOf (nV inp Z1)))) → K (.data TValue r2) [])) (cond (decide (p.1 = Z6)) ((0 ≤ Z0) ∧ (Z0 < (inp.length : Int)) ∧ (0 ≤ Z1) ∧ (Z1 < (inp.length : Int)) ∧ (Sm TValue (nV inp Z0)) ∧ (Sm TValue (nV inp Z1)) ∧ (∀ r3 : TValue.D, r3 = (M.valueOf (M.orOf (M.truthOf (nV inp Z0)) (M.truthOf (nV inp Z1)))) → K (.data TValue r3) [])) (cond (decide (p.1 = (7 : Int))) ((0 ≤ Z0) ∧ (Z0 < (inp.length : Int)) ∧ (Sm TValue (nV inp Z0)) ∧ (∀ r4 : TValue.D, r4 = (M.valueOf (M.notOf (M.truthOf (nV inp Z0)))) → K (.data TValue r4) [])) ((0 ≤ Z0) ∧ (Z0 < (inp.length : Int)) ∧ (∀ r5 : TValue.D, r5 = (M.valueOf (M.bool (decide ((nV inp Z0).1 = Z0)))) → K (.data TValue r5) []))))))))) := by kernel_rfl
theorem con92_ok : Con1 P 92 c92 := conR C92 func92 (kC con99_ok (kC con128_ok (kC con131_ok (kC con132_ok (kC con133_ok (kC con134_ok (kC con135_ok (kC con136_ok kN)))))))) fun args hp K h0 => by
 obtain ⟨p, row, inp, rfl, rfl, h_p, h_row, h_inp, p0, p1, p2, hK⟩ := g3e h0
 have h : ok (F.impl_Part_value p row inp) (fun r => K (.data TValue r) []) := ok_of_eq (F.impl_Part_value_eq p row inp h_p h_row h_inp p0 p1 p2) (hK _ rfl)
 refine ⟨rfl, ann92, noLoops, (.dat TValue), (no_loops (by kernel_rfl)), ?_⟩
 ·rw [vc92]
  exact (oC h (fun _ h => h) fun _ h => (oC h (fun _ h => (oG h fun _ h => (oG h fun _ h => h))) fun _ h => (oC h (fun _ h => ⟨(Int.natCast_nonneg 0), (oG h fun g1 h => ⟨(Int.natCast_nonneg 1), (oG h fun g2 h => ⟨(Int.natCast_nonneg 0), ⟨g1, (oC h (fun _ h => ⟨(Int.natCast_nonneg 1), ⟨g2, (oC h (fun _ h => ⟨(show Sm TValue _ from ⟨trivial, (show Sm (Ty.pair TInt (Ty.pair Ty.str Ty.unit)) _ from ⟨trivial, (show Sm (Ty.pair Ty.str Ty.unit) _ from ⟨(Nat.le_of_ble_eq_true rfl), trivial⟩)⟩)⟩), (oC h (fun _ h => h) fun _ h => h)⟩) fun _ h => h)⟩⟩) fun _ h => h)⟩⟩)⟩)⟩) fun _ h => (oC h (fun _ h => ⟨(Int.natCast_nonneg 0), (oG h fun _ h => ⟨(Int.natCast_nonneg 1), (oG h fun _ h => ⟨(sm_nth h_inp Z0), ⟨(sm_nth h_inp Z1), (oL h fun _ _ h => h)⟩⟩)⟩)⟩) fun _ h => (oC h (fun _ h => ⟨(Int.natCast_nonneg 0), (oG h fun _ h => ⟨(Int.natCast_nonneg 1), (oG h fun _ h => ⟨(sm_nth h_inp Z0), ⟨(sm_nth h_inp Z1), (oL h fun _ _ h => h)⟩⟩)⟩)⟩) fun _ h => (oC h (fun _ h => ⟨(Int.natCast_nonneg 0), (oG h fun _ h => ⟨(Int.natCast_nonneg 1), (oG h fun _ h => ⟨(sm_nth h_inp Z0), ⟨(sm_nth h_inp Z1), (oL h fun _ _ h => h)⟩⟩)⟩)⟩) fun _ h => (oC h (fun _ h => ⟨(Int.natCast_nonneg 0), (oG h fun _ h => ⟨(sm_nth h_inp Z0), (oL h fun _ _ h => h)⟩)⟩) fun _ h => ⟨(Int.natCast_nonneg 0), (oG h fun _ h => (oL h fun _ _ h => h))⟩)))))))
def c44 : Con := ⟨[.dat TVS, .dat TPS], fun args hp K => g2 (pD TVS) (pD TPS) (fun row e => (Sm TVS row) ∧ (Sm TPS e) ∧ (M.exprSafe row.length e) ∧ (∀ r : TValue.D, r = (M.exprValue row e) → K (.data TValue r) [])) args hp, .plain, false⟩
@[reducible] def C44 : Ctx := cx [(50, c50), (92, c92)] 37 [] 0 false
def ann44 := an [[kp 19], [kp 51], [kp 7217], [kp 15409], [.fixRow 7 TPart, kp 7345], [kp 7601], [.fixRow 9 TValue, kp 7985], [kp 7217], [kp 7217], [kp 16]] [[kp 48]]
@[reducible] def s44_0 (row : LV) (e : LPt) (i0 : Int) (v0 : LV) : St := ⟨[(0, .data TVS row), (4, .ptr 4 0), (5, .own 5 none), (10, .data TPS e), (11, dI (e.length : Int)), (12, dI i0)], [(4, .box [dI Z0, dI Z0, .data Ty.str (⟨#[]⟩ : ByteArray)]), (5, .arr false TValue v0)]⟩
@[reducible] def LP44_0 (row : LV) (e : LPt) (m : Nat) (st_ : St) (K : KX) : Prop := True ∧ LoopE (t := TPart) (s44_0 row e) e (F.impl_exprValue_l0 row e) (fun v0 : LV => True) (outD (fun v0 : LV => True → K (.exit 0) (⟨[(4, .ptr 4 0), (5, .own 5 none)], [(4, .box [dI Z0, dI Z0, .data Ty.str (⟨#[]⟩ : ByteArray)]), (5, .arr false TValue v0)]⟩ : St)) (fun _ => False)) m st_
def L44 (row : LV) (e : LPt) : Loops := lp1 0 (LP44_0 row e)
theorem vc44 (row : LV) (e : LPt) (K : KA) : vcT C44 (L44 row e) ann44 f44 [.data TVS row, .data TPS e] [] (.dat TValue) K =
 (∃ m_, True ∧ LoopE (t := TPart) (s44_0 row e) e (F.impl_exprValue_l0 row e) (fun v0 : LV => True) (outD (fun v0 : LV => True → (0 ≤ Z0) ∧ (Z0 < (v0.length : Int)) ∧ K (.data TValue (nV v0 Z0)) []) (fun _ => False)) m_ (s44_0 row e Z0 [])) := by kernel_rfl
@[reducible] def S44l0_0 (row : LV) (e : LPt)  (i0 : Int) (v0 : LV) (m : Nat) (K : KX) : Prop := (Sm TPart (nP e i0)) ∧ (Sm TVS row) ∧ (Sm TVS (cutList v0 (some (wrap64 ((v0.length : Int) - (M.takes (nP e i0))), (v0.length : Int))))) ∧ (((cutList v0 (some (wrap64 ((v0.length : Int) - (M.takes (nP e i0))), (v0.length : Int)))).length : Int) = M.takes (nP e i0)) ∧ (M.colIn (nP e i0) row.length) ∧ (1 ≤ (nP e i0).1 ∧ (nP e i0).1 ≤ 8) ∧ (∀ r1 : TValue.D, r1 = (M.partValue (nP e i0) row (cutList v0 (some (wrap64 ((v0.length : Int) - (M.takes (nP e i0))), (v0.length : Int))))) → (0 ≤ Z0) ∧ (Z0 ≤ wrap64 ((v0.length : Int) - (M.takes (nP e i0)))) ∧ (wrap64 ((v0.length : Int) - (M.takes (nP e i0))) ≤ (v0.length : Int)) ∧ (wrap64 ((v0.length : Int) - (M.takes (nP e i0))) = wrap64 ((v0.length : Int) - (M.takes (nP e i0)))) ∧ (Z0 = 0) ∧ (((wrap64 ((v0.length : Int) - (M.takes (nP e i0)))).toNat + [r1].length) * 32 ≤ lim) ∧ (nxT (LP44_0 row e) m K (s44_0 row e (wrap64 (i0 + Z1)) (v0.take (wrap64 ((v0.length : Int) - (M.takes (nP e i0)))).toNat ++ [r1]))))
theorem lvc44_0 (row : LV) (e : LPt)  (i0 : Int) (v0 : LV) (m : Nat) (K : KX) : lvT C44 (L44 row e) ann44 f44 0 0 (s44_0 row e i0 v0) m K =
 (cond (decide (i0 < (e.length : Int))) ((0 ≤ i0) ∧ (i0 < (e.length : Int)) ∧ (Sm TPart (nP e i0)) ∧ (0 ≤ wrap64 ((v0.length : Int) - (M.takes (nP e i0)))) ∧ (wrap64 ((v0.length : Int) - (M.takes (nP e i0))) ≤ (v0.length : Int)) ∧ ((v0.length : Int) ≤ (v0.length : Int)) ∧ ((v0.length : Int) = (v0.length : Int)) ∧ (S44l0_0  row e i0 v0 m K) ∧ (S44l0_0  row e i0 v0 m K)) (K (.exit 0) (⟨[(4, .ptr 4 0), (5, .own 5 none)], [(4, .box [dI Z0, dI Z0, .data Ty.str (⟨#[]⟩ : ByteArray)]), (5, .arr false TValue v0)]⟩ : St))) := by kernel_rfl
theorem con44_ok : Con1 P 44 c44 := conR C44 func44 (kC con50_ok (kC con92_ok kN)) fun args hp K h0 => by
 obtain ⟨row, e, rfl, rfl, h_row, h_e, p0, hK⟩ := g2e h0
 have h : ok (F.impl_exprValue row e) (fun r => K (.data TValue r) []) := ok_of_eq (F.impl_exprValue_eq row e h_row h_e p0) (hK _ rfl)
 refine ⟨rfl, ann44, (L44 row e), (.dat TValue), (loopsN1 (i0 := 0) (by kernel_rfl) ?_), ?_⟩
 ·rintro _ _ K ⟨hc0, i0, v0, rfl, hl0, rfl, hv0, h⟩
  exact cast (lvc44_0 _ _ _ _ _ _).symm (loopE_step (t := TPart) hl0 h (fun ht0 h => ⟨hl0, ⟨ht0, ⟨(sm_nth h_e i0), (oG h fun _ h => (oG h fun g1 h => ⟨(Int.le_refl _), ⟨rfl, ((fun (g4_0 : Sm TVS (cutList v0 (some (wrap64 ((v0.length : Int) - (M.takes (nP e i0))), (v0.length : Int))))) => (fun (g4_1 : ((cutList v0 (some (wrap64 ((v0.length : Int) - (M.takes (nP e i0))), (v0.length : Int)))).length : Int) = M.takes (nP e i0)) => (fun (g4_2 : M.colIn (nP e i0) row.length) => (fun (g4_3 : 1 ≤ (nP e i0).1 ∧ (nP e i0).1 ≤ 8) => ⟨⟨(sm_nth h_e i0), ⟨h_row, ⟨g4_0, have g2 := g4_0; ⟨g4_1, have g3 := g4_1; ⟨g4_2, have g4 := g4_2; ⟨g4_3, have g5 := g4_3; (fun r1 er1 => (have h := (ok_let (ok_guard (ok_guard (ok_guard (ok_guard h).2).2).2).2 r1 er1); ⟨(Int.natCast_nonneg 0), (oG h fun _ h => ⟨g1, ⟨rfl, ⟨rfl, (oG h fun _ h => (loopE_next (t := TPart) (fun _ hm => ⟨hc0, hm⟩) _ rfl hl0 ht0 (sm_len h_e) trivial h))⟩⟩⟩)⟩))⟩⟩⟩⟩⟩⟩, ⟨(sm_nth h_e i0), ⟨h_row, ⟨g4_0, have g6 := g4_0; ⟨g4_1, have g7 := g4_1; ⟨g4_2, have g8 := g4_2; ⟨g4_3, have g9 := g4_3; (fun r1 er1 => (have h := (ok_let (ok_guard (ok_guard (ok_guard (ok_guard h).2).2).2).2 r1 er1); ⟨(Int.natCast_nonneg 0), (oG h fun _ h => ⟨g1, ⟨rfl, ⟨rfl, (oG h fun _ h => (loopE_next (t := TPart) (fun _ hm => ⟨hc0, hm⟩) _ rfl hl0 ht0 (sm_len h_e) trivial h))⟩⟩⟩)⟩))⟩⟩⟩⟩⟩⟩⟩) (ok_guard (ok_guard (ok_guard (ok_guard h).2).2).2).1) (ok_guard (ok_guard (ok_guard h).2).2).1) (ok_guard (ok_guard h).2).1) (ok_guard h).1)⟩⟩))⟩⟩⟩) fun h => (h trivial))
 ·rw [vc44]
  exact (loopE_start (t := TPart) (fun m hm => ⟨trivial, hm⟩) _ rfl trivial (ok_then h (fun v0 h hv0 => ⟨(Int.natCast_nonneg 0), (oG h fun _ h => h)⟩) (fun _ h => h.elim)))
@[reducible] def C93 : Ctx := cx [] 9 [] 400000 true
def T93 : Inl := inlT C93 (fun _ => []) (bodyOf f93) f93.results.toList
theorem inlOk93 : Inl1 P 93 T93 := inlR C93 func93 kN
def c45 : Con := ⟨[.dat TPS], fun args hp K => g1 (pD TPS) (fun xs => (Sm TPS xs) ∧ (∀ r : LPt, r = xs → K (.clp 0 (r.length : Int)) [(0, .arr false TPart r)])) args hp, .bor, false⟩
@[reducible] def C45 : Ctx := cx [] 9 [(93, T93)] 0 true
def ann45 := an [[kp 1], [kp 33], [.clip 2, kp 4], [kp 4]] []
theorem vc45 (xs : LPt) (K : KA) : vcT C45 noLoops ann45 f45 [.data TPS xs] [] .raw K =
 (cond (decide ((xs.length : Int) = Z0)) (K (.clp 0 (([] : List TPart.D).length : Int)) [(0, .arr false TPart ([] : List TPart.D))]) ((xs.length * 48 ≤ lim) ∧ (0 ≤ Z0) ∧ (Z0 ≤ (xs.length : Int)) ∧ ((xs.length : Int) ≤ (xs.length : Int)) ∧ ((xs.length : Int) = (xs.length : Int)) ∧ (Z0 = 0) ∧ K (.clp 0 ((xs.take (xs.length : Int).toNat).length : Int)) [(0, .arr false TPart (xs.take (xs.length : Int).toNat))])) := by kernel_rfl
theorem con45_ok : Con1 P 45 c45 := conR C45 func45 (kI inlOk93 kN) fun args hp K h0 => by
 obtain ⟨xs, rfl, rfl, h_xs, hK⟩ := g1e h0
 have h : ok (F.clone_TPart xs) (fun r => K (.clp 0 (r.length : Int)) [(0, .arr false TPart r)]) := ok_of_eq (F.clone_TPart_eq xs h_xs) (hK _ rfl)
 refine ⟨rfl, ann45, noLoops, .raw, (no_loops (by kernel_rfl)), ?_⟩
 ·rw [vc45]
  exact (oC h (fun _ h => h) fun _ h => ⟨(sm_lim h_xs rfl), ⟨(Int.natCast_nonneg 0), ⟨(Int.natCast_nonneg _), ⟨(Int.le_refl _), ⟨rfl, ⟨rfl, h⟩⟩⟩⟩⟩⟩)
def c10 : Con := ⟨[.dat TCS, .dat TPS], fun args hp K => g2 (pD TCS) (pD TPS) (fun columns e => (Sm TCS columns) ∧ (Sm TPS e) ∧ (∀ r : LPt, r = (M.exprFolded columns e) → K (.clp 0 (r.length : Int)) [(0, .arr false TPart r)])) args hp, .bor, false⟩
@[reducible] def C10 : Ctx := cx [(13, c13), (43, c43), (44, c44), (45, c45)] 24 [] 0 true
def ann10 := an [[kp 3], [kp 514], [.clip 4, kp 16], [kp 8194], [.fixRow 5 TValue, kp 34], [kp 262178], [.clip 4, kp 16], [kp 16]] []
@[reducible] def S10_0 (columns : LC) (e : LPt) (K : KA) : Prop := (Sm TPS e) ∧ (∀ r1 : LPt, r1 = e → K (.clp 0 ((r1.take (r1.length : Int).toNat).length : Int)) [(0, .arr false TPart (r1.take (r1.length : Int).toNat))])
theorem vc10 (columns : LC) (e : LPt) (K : KA) : vcT C10 noLoops ann10 f10 [.data TCS columns, .data TPS e] [] .raw K =
 ((Sm TCS columns) ∧ (Sm TPS e) ∧ cond (decide ((M.exprKind columns e) < Z0)) (K (.clp 0 (([] : List TPart.D).length : Int)) [(0, .arr false TPart ([] : List TPart.D))]) ((Sm TPS e) ∧ (e.length ≤ 12) ∧ (∀ r2 : (List Int), r2 = (M.exprCols e) → cond (decide ((r2.length : Int) = Z0)) ((Sm TVS []) ∧ (Sm TPS e) ∧ (M.exprSafe ([] : LV).length e) ∧ (∀ r3 : TValue.D, r3 = (M.exprValue [] e) → cond (!decide (r3.1 = Z0)) (K (.clp 0 (([(Z1, (Z0, (r3, ())))].take ([(Z1, (Z0, (r3, ())))].length : Int).toNat).length : Int)) [(0, .arr false TPart ([(Z1, (Z0, (r3, ())))].take ([(Z1, (Z0, (r3, ())))].length : Int).toNat))]) (S10_0 columns e K))) (S10_0 columns e K)))) := by kernel_rfl
theorem con10_ok : Con1 P 10 c10 := conR C10 func10 (kC con13_ok (kC con43_ok (kC con44_ok (kC con45_ok kN)))) fun args hp K h0 => by
 obtain ⟨columns, e, rfl, rfl, h_columns, h_e, hK⟩ := g2e h0
 have h : ok (F.impl_ExprFolded columns e) (fun r => K (.clp 0 (r.length : Int)) [(0, .arr false TPart r)]) := ok_of_eq (F.impl_ExprFolded_eq columns e h_columns h_e) (hK _ rfl)
 refine ⟨rfl, ann10, noLoops, .raw, (no_loops (by kernel_rfl)), ?_⟩
 ·rw [vc10]
  exact ⟨h_columns, ⟨h_e, (oC h (fun _ h => h) fun _ h => ⟨h_e, (oG h fun _ h => (oL h fun _ _ h => (oC h (fun _ h => ⟨(sm_nil TValue), ⟨h_e, (oG h fun _ h => (oL h fun _ _ h => (oC h (fun _ h => h) fun _ h => ⟨h_e, (oL h fun _ _ h => h)⟩)))⟩⟩) fun _ h => ⟨h_e, (oL h fun _ _ h => h)⟩)))⟩)⟩⟩
def c11 : Con := ⟨[.dat TPS, .dat TPS], fun args hp K => g2 (pD TPS) (pD TPS) (fun a b => (Sm TPS a) ∧ (Sm TPS b) ∧ (a = b) ∧ K (dB true) []) args hp, .plain, false⟩
@[reducible] def C11 : Ctx := cx [] 26 [] 0 false
def ann11 := an [[kp 3], [kp 1027], [kp 16], [kp 35], [kp 16419], [kp 35], [kp 33554467], [kp 16], [kp 16]] [[kp 0]]
@[reducible] def s11_0 (a : LPt) (b : LPt) (i0 : Int) (v0 : Unit) : St := ⟨[(0, .data TPS a), (1, .data TPS b), (5, dI i0)], []⟩
@[reducible] def LP11_0 (a : LPt) (b : LPt) (m : Nat) (st_ : St) (K : KX) : Prop := True ∧ LoopI (s11_0 a b) Z0 (a.length : Int) (F.laws_sameParts_l0 a b) (fun v0 : Unit => True) (outD (fun v0 : Unit => True → K (.exit 0) (⟨[], []⟩ : St)) (fun q0 : Unit => K .ret (⟨[(4, dB false)], []⟩ : St))) m st_
def L11 (a : LPt) (b : LPt) : Loops := lp1 0 (LP11_0 a b)
theorem vc11 (a : LPt) (b : LPt) (K : KA) : vcT C11 (L11 a b) ann11 f11 [.data TPS a, .data TPS b] [] (.dat Ty.bool) K =
 (cond (!decide ((a.length : Int) = (b.length : Int))) (K (dB false) []) (∃ m_, True ∧ LoopI (s11_0 a b) Z0 (a.length : Int) (F.laws_sameParts_l0 a b) (fun v0 : Unit => True) (outD (fun v0 : Unit => True → K (dB true) []) (fun q0 : Unit => K (dB false) [])) m_ (s11_0 a b Z0 ()))) := by kernel_rfl
theorem lvc11_0 (a : LPt) (b : LPt)  (i0 : Int) (v0 : Unit) (m : Nat) (K : KX) : lvT C11 (L11 a b) ann11 f11 0 0 (s11_0 a b i0 v0) m K =
 (cond (decide (i0 < (a.length : Int))) ((0 ≤ i0) ∧ (i0 < (a.length : Int)) ∧ (0 ≤ i0) ∧ (i0 < (b.length : Int)) ∧ cond (!(Ty.beq TPart (nP a i0) (nP b i0))) (K .ret (⟨[(4, dB false)], []⟩ : St)) (nxT (LP11_0 a b) m K (s11_0 a b (wrap64 (i0 + Z1)) ()))) (K (.exit 0) (⟨[], []⟩ : St))) := by kernel_rfl
theorem con11_ok : Con1 P 11 c11 := conR C11 func11 kN fun args hp K h0 => by
 obtain ⟨a, b, rfl, rfl, h_a, h_b, p0, hK⟩ := g2e h0
 have h : ok (F.laws_sameParts a b) (fun r => K (dB r) []) := ok_of_eq (F.laws_sameParts_eq a b h_a h_b p0) hK
 refine ⟨rfl, ann11, (L11 a b), (.dat Ty.bool), (loopsN1 (i0 := 0) (by kernel_rfl) ?_), ?_⟩
 ·rintro _ _ K ⟨hc0, i0, v0, rfl, hl0, rfl, hv0, h⟩
  exact cast (lvc11_0 _ _ _ _ _ _).symm (loopI_step h (fun ht0 h => ⟨hl0, ⟨ht0, ⟨hl0, (oG h fun _ h => (oC h (fun _ h => h) fun _ h => (loopI_next (fun _ hm => ⟨hc0, hm⟩) _ rfl hl0 low0 ht0 (sm_len h_a) trivial h)))⟩⟩⟩) fun h => (h trivial))
 ·rw [vc11]
  exact (oC h (fun _ h => h) fun _ h => (loopI_start (fun m hm => ⟨trivial, hm⟩) Z0 _ rfl (Int.natCast_nonneg 0) trivial (ok_then h (fun v0 h hv0 => h) (fun q0 h => h))))
def c69 : Con := ⟨[.dat TInt, .dat TInt, .dat TInt], fun args hp K => g3 (pD TInt) (pD TInt) (pD TInt) (fun n low high => K (dB (M.inR n low high)) []) args hp, .plain, false⟩
@[reducible] def C69 : Ctx := cx [] 15 [] 0 false
def ann69 := an [[kp 7], [kp 64]] []
theorem vc69 (n : Int) (low : Int) (high : Int) (K : KA) : vcT C69 noLoops ann69 f69 [dI n, dI low, dI high] [] (.dat Ty.bool) K =
 (cond ((decide (low ≤ n)) == true) (K (dB (decide (n ≤ high))) []) (K (dB false) [])) := by kernel_rfl
theorem con69_ok : Con1 P 69 c69 := conR C69 func69 kN fun args hp K h0 => by
 obtain ⟨n, low, high, rfl, rfl, hK⟩ := g3e h0
 have h : ok (F.spec_l1In n low high) (fun r => K (dB r) []) := ok_of_eq (F.spec_l1In_eq n low high) hK
 refine ⟨rfl, ann69, noLoops, (.dat Ty.bool), (no_loops (by kernel_rfl)), ?_⟩
 ·rw [vc69]
  exact (oC h (fun _ h => h) fun _ h => h)
def c94 : Con := ⟨[.dat TCS], fun args hp K => g1 (pD TCS) (fun columns => (Sm TCS columns) ∧ K (dB (M.columnsOk columns)) []) args hp, .plain, false⟩
@[reducible] def C94 : Ctx := cx [(69, c69)] 20 [] 0 false
def ann94 := an [[kp 1], [kp 9], [kp 137], [kp 9], [kp 65545], [kp 4], [kp 4]] [[kp 1]]
@[reducible] def s94_0 (columns : LC) (i0 : Int) (v0 : Unit) : St := ⟨[(0, .data TCS columns), (3, dI i0)], []⟩
@[reducible] def LP94_0 (columns : LC) (m : Nat) (st_ : St) (K : KX) : Prop := True ∧ LoopE (t := TColumn) (s94_0 columns) columns (F.spec_ColumnsOk_l0 columns) (fun v0 : Unit => True) (outD (fun v0 : Unit => True → K (.exit 0) (⟨[(0, .data TCS columns)], []⟩ : St)) (fun q0 : Unit => K .ret (⟨[(2, dB false)], []⟩ : St))) m st_
def L94 (columns : LC) : Loops := lp1 0 (LP94_0 columns)
theorem vc94 (columns : LC) (K : KA) : vcT C94 (L94 columns) ann94 f94 [.data TCS columns] [] (.dat Ty.bool) K =
 (∃ m_, True ∧ LoopE (t := TColumn) (s94_0 columns) columns (F.spec_ColumnsOk_l0 columns) (fun v0 : Unit => True) (outD (fun v0 : Unit => True → K (dB (decide ((columns.length : Int) ≤ Z4))) []) (fun q0 : Unit => K (dB false) [])) m_ (s94_0 columns Z0 ())) := by kernel_rfl
theorem lvc94_0 (columns : LC)  (i0 : Int) (v0 : Unit) (m : Nat) (K : KX) : lvT C94 (L94 columns) ann94 f94 0 0 (s94_0 columns i0 v0) m K =
 (cond (decide (i0 < (columns.length : Int))) ((0 ≤ i0) ∧ (i0 < (columns.length : Int)) ∧ cond (!(M.inR (nC columns i0).1 Z1 Z3)) (K .ret (⟨[(2, dB false)], []⟩ : St)) (nxT (LP94_0 columns) m K (s94_0 columns (wrap64 (i0 + Z1)) ()))) (K (.exit 0) (⟨[(0, .data TCS columns)], []⟩ : St))) := by kernel_rfl
theorem con94_ok : Con1 P 94 c94 := conR C94 func94 (kC con69_ok kN) fun args hp K h0 => by
 obtain ⟨columns, rfl, rfl, h_columns, hK⟩ := g1e h0
 have h : ok (F.spec_ColumnsOk columns) (fun r => K (dB r) []) := ok_of_eq (F.spec_ColumnsOk_eq columns h_columns) hK
 refine ⟨rfl, ann94, (L94 columns), (.dat Ty.bool), (loopsN1 (i0 := 0) (by kernel_rfl) ?_), ?_⟩
 ·rintro _ _ K ⟨hc0, i0, v0, rfl, hl0, rfl, hv0, h⟩
  exact cast (lvc94_0 _ _ _ _ _).symm (loopE_step (t := TColumn) hl0 h (fun ht0 h => ⟨hl0, ⟨ht0, (oC h (fun _ h => h) fun _ h => (loopE_next (t := TColumn) (fun _ hm => ⟨hc0, hm⟩) _ rfl hl0 ht0 (sm_len h_columns) trivial h))⟩⟩) fun h => (h trivial))
 ·rw [vc94]
  exact (loopE_start (t := TColumn) (fun m hm => ⟨trivial, hm⟩) _ rfl trivial (ok_then h (fun v0 h hv0 => h) (fun q0 h => h)))
def c180 : Con := ⟨[.dat Ty.str], fun args hp K => g1 (pD Ty.str) (fun s => (Sm Ty.str s) ∧ K (dB (M.text s)) []) args hp, .plain, false⟩
@[reducible] def C180 : Ctx := cx [] 23 [] 0 false
def ann180 := an [[kp 1], [kp 9], [kp 137], [kp 9], [kp 524297], [kp 4], [kp 4]] [[kp 1]]
@[reducible] def s180_0 (s : ByteArray) (i0 : Int) (v0 : Unit) : St := ⟨[(0, .data Ty.str s), (3, dI i0)], []⟩
@[reducible] def LP180_0 (s : ByteArray) (m : Nat) (st_ : St) (K : KX) : Prop := True ∧ LoopI (s180_0 s) Z0 (s.size : Int) (F.spec_l1Text_l0 s) (fun v0 : Unit => True) (outD (fun v0 : Unit => True → K (.exit 0) (⟨[(0, .data Ty.str s)], []⟩ : St)) (fun q0 : Unit => K .ret (⟨[(2, dB false)], []⟩ : St))) m st_
def L180 (s : ByteArray) : Loops := lp1 0 (LP180_0 s)
theorem vc180 (s : ByteArray) (K : KA) : vcT C180 (L180 s) ann180 f180 [.data Ty.str s] [] (.dat Ty.bool) K =
 (∃ m_, True ∧ LoopI (s180_0 s) Z0 (s.size : Int) (F.spec_l1Text_l0 s) (fun v0 : Unit => True) (outD (fun v0 : Unit => True → K (dB (decide ((s.size : Int) ≤ Z6))) []) (fun q0 : Unit => K (dB false) [])) m_ (s180_0 s Z0 ())) := by kernel_rfl
theorem lvc180_0 (s : ByteArray)  (i0 : Int) (v0 : Unit) (m : Nat) (K : KX) : lvT C180 (L180 s) ann180 f180 0 0 (s180_0 s i0 v0) m K =
 (cond (decide (i0 < (s.size : Int))) ((0 ≤ i0) ∧ (i0 < (s.size : Int)) ∧ cond ((decide (((s.get! i0.toNat).toNat : Int) < (97 : Int))) == false) ((0 ≤ i0) ∧ (i0 < (s.size : Int)) ∧ cond (decide ((122 : Int) < ((s.get! i0.toNat).toNat : Int))) (K .ret (⟨[(2, dB false)], []⟩ : St)) (nxT (LP180_0 s) m K (s180_0 s (wrap64 (i0 + Z1)) ()))) (K .ret (⟨[(2, dB false)], []⟩ : St))) (K (.exit 0) (⟨[(0, .data Ty.str s)], []⟩ : St))) := by kernel_rfl
theorem con180_ok : Con1 P 180 c180 := conR C180 func180 kN fun args hp K h0 => by
 obtain ⟨s, rfl, rfl, h_s, hK⟩ := g1e h0
 have h : ok (F.spec_l1Text s) (fun r => K (dB r) []) := ok_of_eq (F.spec_l1Text_eq s h_s) hK
 refine ⟨rfl, ann180, (L180 s), (.dat Ty.bool), (loopsN1 (i0 := 0) (by kernel_rfl) ?_), ?_⟩
 ·rintro _ _ K ⟨hc0, i0, v0, rfl, hl0, rfl, hv0, h⟩
  exact cast (lvc180_0 _ _ _ _ _).symm (loopI_step h (fun ht0 h => ⟨hl0, ⟨ht0, (oC h (fun _ h => ⟨hl0, ⟨ht0, (oC h (fun _ h => h) fun _ h => (loopI_next (fun _ hm => ⟨hc0, hm⟩) _ rfl hl0 low0 ht0 (sm_size h_s) trivial h))⟩⟩) fun _ h => h)⟩⟩) fun h => (h trivial))
 ·rw [vc180]
  exact (loopI_start (fun m hm => ⟨trivial, hm⟩) Z0 _ rfl (Int.natCast_nonneg 0) trivial (ok_then h (fun v0 h hv0 => h) (fun q0 h => h)))
def c137 : Con := ⟨[.dat TValue], fun args hp K => g1 (pD TValue) (fun v => (Sm TValue v) ∧ K (dB (M.valueOk v)) []) args hp, .plain, false⟩
@[reducible] def C137 : Ctx := cx [(69, c69), (180, c180)] 45 [] 0 false
def ann137 := an [[.fixRow 1 TValue, kp 2], [kp 18], [kp 50], [kp 4], [kp 32786], [kp 4], [kp 33554450], [kp 4], [.keep [1, 35]], [kp 4], [kp 4]] []
theorem vc137 (v : TValue.D) (K : KA) : vcT C137 noLoops ann137 f137 [.data TValue v] [] (.dat Ty.bool) K =
 (cond (decide (v.1 = Z0)) (cond ((decide (v.2.1 = Z0)) == true) (K (dB (decide (v.2.2.1 = (⟨#[]⟩ : ByteArray)))) []) (K (dB false) [])) (cond (decide (v.1 = Z1)) (cond ((M.inR v.2.1 (-9999 : Int) (9999 : Int)) == true) (K (dB (decide (v.2.2.1 = (⟨#[]⟩ : ByteArray)))) []) (K (dB false) [])) (cond (decide (v.1 = Z2)) (cond ((decide (v.2.1 = Z0)) == true) ((Sm Ty.str v.2.2.1) ∧ K (dB (M.text v.2.2.1)) []) (K (dB false) [])) (cond (decide (v.1 = Z3)) (cond ((M.inR v.2.1 Z0 Z1) == true) (K (dB (decide (v.2.2.1 = (⟨#[]⟩ : ByteArray)))) []) (K (dB false) [])) (K (dB false) []))))) := by kernel_rfl
theorem con137_ok : Con1 P 137 c137 := conR C137 func137 (kC con69_ok (kC con180_ok kN)) fun args hp K h0 => by
 obtain ⟨v, rfl, rfl, h_v, hK⟩ := g1e h0
 have h : ok (F.spec_ValueOk v) (fun r => K (dB r) []) := ok_of_eq (F.spec_ValueOk_eq v h_v) hK
 refine ⟨rfl, ann137, noLoops, (.dat Ty.bool), (no_loops (by kernel_rfl)), ?_⟩
 ·rw [vc137]
  exact (oC h (fun _ h => (oC h (fun _ h => h) fun _ h => h)) fun _ h => (oC h (fun _ h => (oC h (fun _ h => h) fun _ h => h)) fun _ h => (oC h (fun _ h => (oC h (fun _ h => ⟨h_v.2.2.1, h⟩) fun _ h => h)) fun _ h => (oC h (fun _ h => (oC h (fun _ h => h) fun _ h => h)) fun _ h => h))))
def c95 : Con := ⟨[.dat TCS, .mv, .dat TPart], fun args hp K => hpN 0 false TInt (fun kinds => args3 (fun a0 a1 a2 => withD TCS a0 fun columns => withO 0 a1 (withD TPart a2 fun p => (Sm TCS columns) ∧ (Sm (Ty.sl TInt) kinds) ∧ (Sm TPart p) ∧ (kinds.length ≤ 1000) ∧ (∀ r : (List Int) × Bool, r = (M.l4Step columns kinds p) → K (.tup [.own 0 none, dB r.2]) [(0, .arr false TInt r.1)]))) args []) hp, .mv, false⟩
@[reducible] def C95 : Ctx := cx [(69, c69), (137, c137)] 191 [] 0 true
def ann95 := an [[.fixRow 5 TPart, kp 35], [kp 291], [kp 137438953763], [kp 192], [kp 1099511628067], [kp 3298534883619], [.keep [1, 5, 52]], [kp 192], [kp 192], [kp 1152922604118475043], [.keep [0, 1, 5, 68]], [kp 192], [kp 192], [.keep [1, 5, 8, 40, 79]], [kp 770], [kp 192], [.keep [1, 5, 8, 40, 107]], [kp 1282], [kp 192], [.keep [1, 8, 40, 137]], [.keep [1, 8, 40, 137]], [kp 2306], [kp 192], [.keep [1, 8, 40, 166]], [kp 192], [.keep [1, 8, 179]], [kp 192], [kp 192]] []
@[reducible] def S95_0 (columns : LC) (kinds : (List Int)) (p : TPart.D) (K : KA) : Prop := (0 ≤ Z0) ∧ (Z0 ≤ (maxI (wrap64 ((kinds.length : Int) - Z2)) Z0)) ∧ ((maxI (wrap64 ((kinds.length : Int) - Z2)) Z0) ≤ (kinds.length : Int)) ∧ ((maxI (wrap64 ((kinds.length : Int) - Z2)) Z0) = (maxI (wrap64 ((kinds.length : Int) - Z2)) Z0)) ∧ (Z0 = 0) ∧ (((maxI (wrap64 ((kinds.length : Int) - Z2)) Z0).toNat + [Z1].length) * 8 ≤ lim) ∧ K (.tup [.own 0 none, dB false]) [(0, .arr false TInt (kinds.take (maxI (wrap64 ((kinds.length : Int) - Z2)) Z0).toNat ++ [Z1]))]
@[reducible] def S95_1 (columns : LC) (kinds : (List Int)) (p : TPart.D) (K : KA) : Prop := (0 ≤ Z0) ∧ (Z0 ≤ (maxI (wrap64 ((kinds.length : Int) - Z2)) Z0)) ∧ ((maxI (wrap64 ((kinds.length : Int) - Z2)) Z0) ≤ (kinds.length : Int)) ∧ ((maxI (wrap64 ((kinds.length : Int) - Z2)) Z0) = (maxI (wrap64 ((kinds.length : Int) - Z2)) Z0)) ∧ (Z0 = 0) ∧ (((maxI (wrap64 ((kinds.length : Int) - Z2)) Z0).toNat + [Z3].length) * 8 ≤ lim) ∧ K (.tup [.own 0 none, dB false]) [(0, .arr false TInt (kinds.take (maxI (wrap64 ((kinds.length : Int) - Z2)) Z0).toNat ++ [Z3]))]
@[reducible] def S95_2 (columns : LC) (kinds : (List Int)) (p : TPart.D) (K : KA) : Prop := (S95_1 columns kinds p K)
@[reducible] def S95_3 (columns : LC) (kinds : (List Int)) (p : TPart.D) (K : KA) : Prop := cond ((decide (Z1 < (kinds.length : Int))) == true) ((0 ≤ wrap64 ((kinds.length : Int) - Z1)) ∧ (wrap64 ((kinds.length : Int) - Z1) < (kinds.length : Int)) ∧ cond ((decide ((nI kinds (wrap64 ((kinds.length : Int) - Z1))) = Z3)) == true) ((0 ≤ wrap64 ((kinds.length : Int) - Z2)) ∧ (wrap64 ((kinds.length : Int) - Z2) < (kinds.length : Int)) ∧ (0 ≤ Z0) ∧ (Z0 ≤ (maxI (wrap64 ((kinds.length : Int) - Z2)) Z0)) ∧ ((maxI (wrap64 ((kinds.length : Int) - Z2)) Z0) ≤ (kinds.length : Int)) ∧ ((maxI (wrap64 ((kinds.length : Int) - Z2)) Z0) = (maxI (wrap64 ((kinds.length : Int) - Z2)) Z0)) ∧ (Z0 = 0) ∧ (((maxI (wrap64 ((kinds.length : Int) - Z2)) Z0).toNat + [Z3].length) * 8 ≤ lim) ∧ K (.tup [.own 0 none, dB (decide ((nI kinds (wrap64 ((kinds.length : Int) - Z2))) = Z3))]) [(0, .arr false TInt (kinds.take (maxI (wrap64 ((kinds.length : Int) - Z2)) Z0).toNat ++ [Z3]))]) (S95_2 columns kinds p K)) (S95_2 columns kinds p K)
@[reducible] def S95_4 (columns : LC) (kinds : (List Int)) (p : TPart.D) (K : KA) : Prop := cond (decide (p.1 = (7 : Int))) (cond ((decide (Z0 < (kinds.length : Int))) == true) ((0 ≤ wrap64 ((kinds.length : Int) - Z1)) ∧ (wrap64 ((kinds.length : Int) - Z1) < (kinds.length : Int)) ∧ K (.tup [.own 0 none, dB (decide ((nI kinds (wrap64 ((kinds.length : Int) - Z1))) = Z3))]) [(0, .arr false TInt kinds)]) (K (.tup [.own 0 none, dB false]) [(0, .arr false TInt kinds)])) (cond (decide (p.1 = (8 : Int))) ((0 ≤ Z0) ∧ (Z0 ≤ (maxI (wrap64 ((kinds.length : Int) - Z1)) Z0)) ∧ ((maxI (wrap64 ((kinds.length : Int) - Z1)) Z0) ≤ (kinds.length : Int)) ∧ ((maxI (wrap64 ((kinds.length : Int) - Z1)) Z0) = (maxI (wrap64 ((kinds.length : Int) - Z1)) Z0)) ∧ (Z0 = 0) ∧ (((maxI (wrap64 ((kinds.length : Int) - Z1)) Z0).toNat + [Z3].length) * 8 ≤ lim) ∧ K (.tup [.own 0 none, dB (decide (Z0 < (kinds.length : Int)))]) [(0, .arr false TInt (kinds.take (maxI (wrap64 ((kinds.length : Int) - Z1)) Z0).toNat ++ [Z3]))]) (K (.tup [.own 0 none, dB false]) [(0, .arr false TInt kinds)]))
@[reducible] def S95_5 (columns : LC) (kinds : (List Int)) (p : TPart.D) (K : KA) : Prop := cond (decide (p.1 = Z1)) ((Sm TValue p.2.2.1) ∧ cond ((!(M.valueOk p.2.2.1)) == false) (cond (decide (p.2.2.1.1 = Z0)) (K (.tup [.own 0 none, dB false]) [(0, .arr false TInt kinds)]) (((kinds.length + [p.2.2.1.1].length) * 8 ≤ lim) ∧ K (.tup [.own 0 none, dB true]) [(0, .arr false TInt (kinds ++ [p.2.2.1.1]))])) (K (.tup [.own 0 none, dB false]) [(0, .arr false TInt kinds)])) (cond (decide (p.1 = Z2)) (cond (!(M.inR p.2.1 Z0 (wrap64 ((columns.length : Int) - Z1)))) (K (.tup [.own 0 none, dB false]) [(0, .arr false TInt kinds)]) ((0 ≤ p.2.1) ∧ (p.2.1 < (columns.length : Int)) ∧ ((kinds.length + [(nC columns p.2.1).1].length) * 8 ≤ lim) ∧ K (.tup [.own 0 none, dB true]) [(0, .arr false TInt (kinds ++ [(nC columns p.2.1).1]))])) (cond (decide (p.1 = Z3)) (cond ((decide (Z1 < (kinds.length : Int))) == true) ((0 ≤ wrap64 ((kinds.length : Int) - Z1)) ∧ (wrap64 ((kinds.length : Int) - Z1) < (kinds.length : Int)) ∧ cond ((decide ((nI kinds (wrap64 ((kinds.length : Int) - Z1))) = Z1)) == true) ((0 ≤ wrap64 ((kinds.length : Int) - Z2)) ∧ (wrap64 ((kinds.length : Int) - Z2) < (kinds.length : Int)) ∧ (0 ≤ Z0) ∧ (Z0 ≤ (maxI (wrap64 ((kinds.length : Int) - Z2)) Z0)) ∧ ((maxI (wrap64 ((kinds.length : Int) - Z2)) Z0) ≤ (kinds.length : Int)) ∧ ((maxI (wrap64 ((kinds.length : Int) - Z2)) Z0) = (maxI (wrap64 ((kinds.length : Int) - Z2)) Z0)) ∧ (Z0 = 0) ∧ (((maxI (wrap64 ((kinds.length : Int) - Z2)) Z0).toNat + [Z1].length) * 8 ≤ lim) ∧ K (.tup [.own 0 none, dB (decide ((nI kinds (wrap64 ((kinds.length : Int) - Z2))) = Z1))]) [(0, .arr false TInt (kinds.take (maxI (wrap64 ((kinds.length : Int) - Z2)) Z0).toNat ++ [Z1]))]) (S95_0 columns kinds p K)) (S95_0 columns kinds p K)) (cond (decide (p.1 = Z4)) (cond ((decide (Z1 < (kinds.length : Int))) == true) ((0 ≤ wrap64 ((kinds.length : Int) - Z1)) ∧ (wrap64 ((kinds.length : Int) - Z1) < (kinds.length : Int)) ∧ (0 ≤ wrap64 ((kinds.length : Int) - Z2)) ∧ (wrap64 ((kinds.length : Int) - Z2) < (kinds.length : Int)) ∧ cond ((decide ((nI kinds (wrap64 ((kinds.length : Int) - Z1))) = (nI kinds (wrap64 ((kinds.length : Int) - Z2))))) == true) ((0 ≤ Z0) ∧ (Z0 ≤ (maxI (wrap64 ((kinds.length : Int) - Z2)) Z0)) ∧ ((maxI (wrap64 ((kinds.length : Int) - Z2)) Z0) ≤ (kinds.length : Int)) ∧ ((maxI (wrap64 ((kinds.length : Int) - Z2)) Z0) = (maxI (wrap64 ((kinds.length : Int) - Z2)) Z0)) ∧ (Z0 = 0) ∧ (((maxI (wrap64 ((kinds.length : Int) - Z2)) Z0).toNat + [Z3].length) * 8 ≤ lim) ∧ K (.tup [.own 0 none, dB (M.inR p.2.1 Z1 Z4)]) [(0, .arr false TInt (kinds.take (maxI (wrap64 ((kinds.length : Int) - Z2)) Z0).toNat ++ [Z3]))]) (S95_2 columns kinds p K)) (S95_2 columns kinds p K)) (cond (decide (p.1 = Z5)) (cond (decide (p.1 = Z5)) (S95_3 columns kinds p K) (S95_4 columns kinds p K)) (cond (decide (p.1 = Z6)) (S95_3 columns kinds p K) (S95_4 columns kinds p K))))))
@[reducible] def S95_6 (columns : LC) (kinds : (List Int)) (p : TPart.D) (K : KA) : Prop := cond ((!decide (p.1 = Z2)) == true) (cond ((!decide (p.1 = Z4)) == true) (cond (!decide (p.2.1 = Z0)) (K (.tup [.own 0 none, dB false]) [(0, .arr false TInt kinds)]) (S95_5 columns kinds p K)) (S95_5 columns kinds p K)) (S95_5 columns kinds p K)
theorem vc95 (columns : LC) (kinds : (List Int)) (p : TPart.D) (K : KA) : vcT C95 noLoops ann95 f95 [.data TCS columns, .own 0 none, .data TPart p] [(0, .arr false TInt kinds)] .raw K =
 (cond ((!decide (p.1 = Z1)) == true) (cond ((!(Ty.beq TValue p.2.2.1 (Z0, (Z0, ((⟨#[]⟩ : ByteArray), ()))))) == false) (S95_6 columns kinds p K) (K (.tup [.own 0 none, dB false]) [(0, .arr false TInt kinds)])) (S95_6 columns kinds p K)) := by kernel_rfl
theorem con95_ok : Con1 P 95 c95 := conR C95 func95 (kC con69_ok (kC con137_ok kN)) fun args hp K h0 => by
 unfold c95 at h0
 dsimp only at h0
 obtain ⟨kinds, rfl, h00⟩ := hpN_elim (n := 0) (d := false) (t := TInt) h0
 obtain ⟨a0, a1, a2, rfl, _, h1⟩ := args3_elim h00
 obtain ⟨columns, rfl, h2⟩ := withD_elim h1
 obtain ⟨rfl, h3⟩ := withO_elim h2
 obtain ⟨p, rfl, h4⟩ := withD_elim h3
 obtain ⟨h_columns, h_kinds, h_p, p0, hK⟩ := h4
 have h : ok (F.spec_l4Step columns kinds p) (fun r => K (.tup [.own 0 none, dB r.2]) [(0, .arr false TInt r.1)]) := ok_of_eq (F.spec_l4Step_eq columns kinds p h_columns h_kinds h_p p0) (hK _ rfl)
 refine ⟨rfl, ann95, noLoops, .raw, (no_loops (by kernel_rfl)), ?_⟩
 ·rw [vc95]
  exact (oC h (fun b_1 h => (oC h (fun _ h => (oC h (fun b_3 h => (oC h (fun b_4 h => (oC h (fun _ h => h) fun _ h => (cond_f (bnt (bet b_1)) (cond_f (bnt (bet b_3)) (oC h (fun _ h => (oC h (fun _ h => (oG h fun _ h => (oG h fun _ h => (oC h (fun _ h => (oG h fun _ h => (oG h fun _ h => ⟨(Int.natCast_nonneg 0), (oG h fun _ h => (oG h fun _ h => ⟨rfl, ⟨rfl, (oG h fun _ h => h)⟩⟩))⟩))) fun _ h => ⟨(Int.natCast_nonneg 0), (oG h fun _ h => (oG h fun _ h => ⟨rfl, ⟨rfl, (oG h fun _ h => h)⟩⟩))⟩)))) fun _ h => ⟨(Int.natCast_nonneg 0), (oG h fun _ h => (oG h fun _ h => ⟨rfl, ⟨rfl, (oG h fun _ h => h)⟩⟩))⟩)) fun _ h => (cond_f (bnt (bet b_4)) (oC h (fun b_25 h => (cond_t b_25 (oC h (fun _ h => (oG h fun _ h => (oG h fun _ h => (oC h (fun _ h => (oG h fun _ h => (oG h fun _ h => ⟨(Int.natCast_nonneg 0), (oG h fun _ h => (oG h fun _ h => ⟨rfl, ⟨rfl, (oG h fun _ h => h)⟩⟩))⟩))) fun _ h => ⟨(Int.natCast_nonneg 0), (oG h fun _ h => (oG h fun _ h => ⟨rfl, ⟨rfl, (oG h fun _ h => h)⟩⟩))⟩)))) fun _ h => ⟨(Int.natCast_nonneg 0), (oG h fun _ h => (oG h fun _ h => ⟨rfl, ⟨rfl, (oG h fun _ h => h)⟩⟩))⟩))) fun _ h => (oC h (fun _ h => (oC h (fun _ h => (oG h fun _ h => (oG h fun _ h => (oC h (fun _ h => (oG h fun _ h => (oG h fun _ h => ⟨(Int.natCast_nonneg 0), (oG h fun _ h => (oG h fun _ h => ⟨rfl, ⟨rfl, (oG h fun _ h => h)⟩⟩))⟩))) fun _ h => ⟨(Int.natCast_nonneg 0), (oG h fun _ h => (oG h fun _ h => ⟨rfl, ⟨rfl, (oG h fun _ h => h)⟩⟩))⟩)))) fun _ h => ⟨(Int.natCast_nonneg 0), (oG h fun _ h => (oG h fun _ h => ⟨rfl, ⟨rfl, (oG h fun _ h => h)⟩⟩))⟩)) fun _ h => (oC h (fun _ h => (oC h (fun _ h => (oG h fun _ h => (oG h fun _ h => h))) fun _ h => h)) fun _ h => (oC h (fun _ h => ⟨(Int.natCast_nonneg 0), (oG h fun _ h => (oG h fun _ h => ⟨rfl, ⟨rfl, (oG h fun _ h => h)⟩⟩))⟩) fun _ h => h)))))))))) fun b_4 h => (cond_f (bnt (bet b_1)) (cond_f (bnt (bet b_3)) (cond_f (dec_ne (bnf (bef b_4)) (by decide)) (cond_t (bnf (bef b_4)) (oC h (fun _ h => (oG h fun _ h => (oG h fun _ h => (oG h fun _ h => (oG h fun _ h => (oC h (fun _ h => ⟨(Int.natCast_nonneg 0), (oG h fun _ h => (oG h fun _ h => ⟨rfl, ⟨rfl, (oG h fun _ h => h)⟩⟩))⟩) fun _ h => ⟨(Int.natCast_nonneg 0), (oG h fun _ h => (oG h fun _ h => ⟨rfl, ⟨rfl, (oG h fun _ h => h)⟩⟩))⟩)))))) fun _ h => ⟨(Int.natCast_nonneg 0), (oG h fun _ h => (oG h fun _ h => ⟨rfl, ⟨rfl, (oG h fun _ h => h)⟩⟩))⟩))))))) fun b_3 h => (cond_f (bnt (bet b_1)) (cond_t (bnf (bef b_3)) (oC h (fun _ h => h) fun b_110 h => ⟨(inR_lo (bnf b_110)), ⟨(inR_hi (bnf b_110)), ⟨(sm_lim2 h_kinds (sm_one trivial) rfl), h⟩⟩⟩))))) fun _ h => h)) fun b_1 h => (cond_t (uet (unt (dec_ne (bnf (bef b_1)) (by decide)))) (cond_t (uet (unt (dec_ne (bnf (bef b_1)) (by decide)))) (oC h (fun _ h => h) fun _ h => (cond_t (bnf (bef b_1)) ⟨h_p.2.2.1, (oC h (fun _ h => (oC h (fun _ h => h) fun _ h => ⟨(sm_lim2 h_kinds (sm_one trivial) rfl), h⟩)) fun _ h => h)⟩)))))
def c46 : Con := ⟨[.dat TCS, .dat TPS], fun args hp K => g2 (pD TCS) (pD TPS) (fun columns e => (Sm TCS columns) ∧ (Sm TPS e) ∧ K (dI (M.exprKind columns e)) []) args hp, .plain, false⟩
@[reducible] def C46 : Ctx := cx [(94, c94), (95, c95)] 46 [] 0 false
def ann46 := an [[kp 3], [kp 32771], [kp 16], [kp 35], [kp 99], [kp 227], [kp 8388835], [kp 227], [kp 227], [.keep [5, 42]], [kp 16], [kp 16]] [[kp 96]]
@[reducible] def s46_0 (columns : LC) (e : LPt) (v0 : Bool × Int × (List Int)) : St := ⟨[(0, .data TCS columns), (1, .data TPS e), (5, .own 16 none), (6, dB v0.1), (7, dI v0.2.1)], [(16, .arr false TInt v0.2.2)]⟩
@[reducible] def LP46_0 (columns : LC) (e : LPt) (m : Nat) (st_ : St) (K : KX) : Prop := True ∧ LoopW (s46_0 columns e) (F.spec_ExprKind_l0 columns e) (fun v0 : Bool × Int × (List Int) => True) (fun e0 : Bool × (List Int) => True → K (.exit 0) (⟨[(5, .own 16 none), (6, dB e0.1)], [(16, .arr false TInt e0.2)]⟩ : St)) m st_
def L46 (columns : LC) (e : LPt) : Loops := lp1 0 (LP46_0 columns e)
theorem vc46 (columns : LC) (e : LPt) (K : KA) : vcT C46 (L46 columns e) ann46 f46 [.data TCS columns, .data TPS e] [] (.dat TInt) K =
 ((Sm TCS columns) ∧ cond ((!(M.columnsOk columns)) == false) (cond (decide ((12 : Int) < (e.length : Int))) (K (dI (-1 : Int)) []) (∃ m_, True ∧ LoopW (s46_0 columns e) (F.spec_ExprKind_l0 columns e) (fun v0 : Bool × Int × (List Int) => True) (fun e0 : Bool × (List Int) => True → cond ((!e0.1) == false) (cond (!decide ((e0.2.length : Int) = Z1)) (K (dI (-1 : Int)) []) ((0 ≤ Z0) ∧ (Z0 < (e0.2.length : Int)) ∧ K (dI (nI e0.2 Z0)) [])) (K (dI (-1 : Int)) [])) m_ (s46_0 columns e (true, Z0, [])))) (K (dI (-1 : Int)) [])) := by kernel_rfl
theorem lvc46_0 (columns : LC) (e : LPt)  (v0 : Bool × Int × (List Int)) (m : Nat) (K : KX) : lvT C46 (L46 columns e) ann46 f46 0 0 (s46_0 columns e v0) m K =
 (cond ((decide (v0.2.1 < (e.length : Int))) == true) (cond v0.1 ((0 ≤ v0.2.1) ∧ (v0.2.1 < (e.length : Int)) ∧ (Sm TCS columns) ∧ (Sm (Ty.sl TInt) v0.2.2) ∧ (Sm TPart (nP e v0.2.1)) ∧ (v0.2.2.length ≤ 1000) ∧ (∀ r1 : (List Int) × Bool, r1 = (M.l4Step columns v0.2.2 (nP e v0.2.1)) → (nxT (LP46_0 columns e) m K (s46_0 columns e (r1.2, wrap64 (v0.2.1 + Z1), r1.1))))) (K (.exit 0) (⟨[(5, .own 16 none), (6, dB v0.1)], [(16, .arr false TInt v0.2.2)]⟩ : St))) (K (.exit 0) (⟨[(5, .own 16 none), (6, dB v0.1)], [(16, .arr false TInt v0.2.2)]⟩ : St))) := by kernel_rfl
theorem con46_ok : Con1 P 46 c46 := conR C46 func46 (kC con94_ok (kC con95_ok kN)) fun args hp K h0 => by
 obtain ⟨columns, e, rfl, rfl, h_columns, h_e, hK⟩ := g2e h0
 have h : ok (F.spec_ExprKind columns e) (fun r => K (dI r) []) := ok_of_eq (F.spec_ExprKind_eq columns e h_columns h_e) hK
 refine ⟨rfl, ann46, (L46 columns e), (.dat TInt), (loopsN1 (i0 := 0) (by kernel_rfl) ?_), ?_⟩
 ·rintro _ _ K ⟨hc0, v0, rfl, hv0, h⟩
  exact cast (lvc46_0 _ _ _ _ _).symm (loopW_step h (fun m1 hm0 h => (oC h (fun _ h => (oC h (fun _ h => (oG h fun _ h => (oG h fun _ h => ⟨h_columns, (oG h fun _ h => ⟨(sm_nth h_e v0.2.1), (oG h fun _ h => (oL h fun _ _ h => (loopW_next (fun _ hm => ⟨hc0, hm⟩) hm0 _ rfl trivial h)))⟩)⟩))) fun _ h => ((ok_ret h :) trivial))) fun _ h => ((ok_ret h :) trivial))))
 ·rw [vc46]
  exact ⟨h_columns, (oC h (fun _ h => (oC h (fun _ h => h) fun _ h => (loopW_start (fun m hm => ⟨trivial, hm⟩) _ rfl trivial (ok_bind h (fun e0 h hv0 => (oC h (fun _ h => (oC h (fun _ h => h) fun _ h => ⟨(Int.natCast_nonneg 0), (oG h fun _ h => h)⟩)) fun _ h => h)))))) fun _ h => h)⟩
def c47 : Con := ⟨[.dat TCS, .dat TPS], fun args hp K => g2 (pD TCS) (pD TPS) (fun columns e => (Sm TCS columns) ∧ (Sm TPS e) ∧ (∀ r : (List Int), r = (M.exprColumns columns e) → K (.own 0 none) [(0, .arr false TInt r)])) args hp, .plain, false⟩
@[reducible] def C47 : Ctx := cx [(46, c46)] 52 [] 0 false
def ann47 := an [[kp 3], [kp 35], [kp 99], [kp 524387], [kp 99], [kp 227], [kp 483], [kp 33554915], [kp 483], [kp 483], [kp 70368744177763], [kp 99], [kp 16]] [[kp 32], [], [kp 227]]
@[reducible] def s47_0 (columns : LC) (e : LPt) (v0 : Int × (List Int)) : St := ⟨[(0, .data TCS columns), (1, .data TPS e), (5, .own 9 none), (6, dI v0.1)], [(9, .arr false TInt v0.2)]⟩
@[reducible] def LP47_0 (columns : LC) (e : LPt) (m : Nat) (st_ : St) (K : KX) : Prop := True ∧ LoopW (s47_0 columns e) (F.spec_ExprColumns_l0 columns e) (fun v0 : Int × (List Int) => True) (fun e0 : (List Int) => True → K (.exit 0) (⟨[(5, .own 9 none)], [(9, .arr false TInt e0)]⟩ : St)) m st_
@[reducible] def s47_2 (columns : LC) (e : LPt) (c2_0 : Int) (c2_1 : (List Int)) (i2 : Int) (v2 : Bool) : St := ⟨[(0, .data TCS columns), (1, .data TPS e), (5, .own 9 none), (6, dI c2_0), (7, dB v2), (8, dI i2)], [(9, .arr false TInt c2_1)]⟩
@[reducible] def LP47_2 (columns : LC) (e : LPt) (m : Nat) (st_ : St) (K : KX) : Prop := ∃ c2_0 : Int, ∃ c2_1 : (List Int), True ∧ LoopE (t := TPart) (s47_2 columns e c2_0 c2_1) e (F.spec_ExprColumns_l2 columns e c2_0 c2_1) (fun v2 : Bool => True) (outD (fun v2 : Bool => True → K (.exit 2) (⟨[(0, .data TCS columns), (1, .data TPS e), (5, .own 9 none), (6, dI c2_0), (7, dB v2)], [(9, .arr false TInt c2_1)]⟩ : St)) (fun _ => False)) m st_
def L47 (columns : LC) (e : LPt) : Loops := lp2 0 (LP47_0 columns e) 2 (LP47_2 columns e)
theorem vc47 (columns : LC) (e : LPt) (K : KA) : vcT C47 (L47 columns e) ann47 f47 [.data TCS columns, .data TPS e] [] .raw K =
 (∃ m_, True ∧ LoopW (s47_0 columns e) (F.spec_ExprColumns_l0 columns e) (fun v0 : Int × (List Int) => True) (fun e0 : (List Int) => True → K (.own 0 none) [(0, .arr false TInt e0)]) m_ (s47_0 columns e (Z0, []))) := by kernel_rfl
theorem lvc47_0 (columns : LC) (e : LPt)  (v0 : Int × (List Int)) (m : Nat) (K : KX) : lvT C47 (L47 columns e) ann47 f47 0 0 (s47_0 columns e v0) m K =
 (cond ((decide (v0.1 < (columns.length : Int))) == true) ((Sm TCS columns) ∧ (Sm TPS e) ∧ cond (decide (Z0 ≤ (M.exprKind columns e))) (∃ m_, ∃ c2_0 : Int, ∃ c2_1 : (List Int), True ∧ LoopE (t := TPart) (s47_2 columns e c2_0 c2_1) e (F.spec_ExprColumns_l2 columns e c2_0 c2_1) (fun v2 : Bool => True) (outD (fun v2 : Bool => True → cond v2 (((c2_1.length + [c2_0].length) * 8 ≤ lim) ∧ (nxT (LP47_0 columns e) m K (s47_0 columns e (wrap64 (c2_0 + Z1), (c2_1 ++ [c2_0]))))) (nxT (LP47_0 columns e) m K (s47_0 columns e (wrap64 (c2_0 + Z1), c2_1)))) (fun _ => False)) m_ (s47_2 columns e v0.1 v0.2 Z0 false)) (K (.exit 0) (⟨[(5, .own 9 none)], [(9, .arr false TInt v0.2)]⟩ : St))) (K (.exit 0) (⟨[(5, .own 9 none)], [(9, .arr false TInt v0.2)]⟩ : St))) := by kernel_rfl
theorem lvc47_1 (columns : LC) (e : LPt) (c2_0 : Int) (c2_1 : (List Int)) (i2 : Int) (v2 : Bool) (m : Nat) (K : KX) : lvT C47 (L47 columns e) ann47 f47 1 2 (s47_2 columns e c2_0 c2_1 i2 v2) m K =
 (cond (decide (i2 < (e.length : Int))) (cond (v2 == false) ((0 ≤ i2) ∧ (i2 < (e.length : Int)) ∧ cond ((decide ((nP e i2).1 = Z2)) == true) ((0 ≤ i2) ∧ (i2 < (e.length : Int)) ∧ (nxT (LP47_2 columns e) m K (s47_2 columns e c2_0 c2_1 (wrap64 (i2 + Z1)) (decide ((nP e i2).2.1 = c2_0))))) (nxT (LP47_2 columns e) m K (s47_2 columns e c2_0 c2_1 (wrap64 (i2 + Z1)) false))) (nxT (LP47_2 columns e) m K (s47_2 columns e c2_0 c2_1 (wrap64 (i2 + Z1)) true))) (K (.exit 2) (⟨[(0, .data TCS columns), (1, .data TPS e), (5, .own 9 none), (6, dI c2_0), (7, dB v2)], [(9, .arr false TInt c2_1)]⟩ : St))) := by kernel_rfl
theorem con47_ok : Con1 P 47 c47 := conR C47 func47 (kC con46_ok kN) fun args hp K h0 => by
 obtain ⟨columns, e, rfl, rfl, h_columns, h_e, hK⟩ := g2e h0
 have h : ok (F.spec_ExprColumns columns e) (fun r => K (.own 0 none) [(0, .arr false TInt r)]) := ok_of_eq (F.spec_ExprColumns_eq columns e h_columns h_e) (hK _ rfl)
 refine ⟨rfl, ann47, (L47 columns e), .raw, (loopsN2 (i0 := 0) (i1 := 2) (by kernel_rfl) ?_ ?_), ?_⟩
 ·rintro _ _ K ⟨hc0, v0, rfl, hv0, h⟩
  exact cast (lvc47_0 _ _ _ _ _).symm (loopW_step h (fun m1 hm0 h => (oC h (fun _ h => ⟨h_columns, ⟨h_e, (oC h (fun _ h => (loopE_start (t := TPart) (fun m hm => ⟨v0.1, v0.2, trivial, hm⟩) _ rfl trivial (ok_then h (fun v2 h hv2 => (oC h (fun _ h => (oG h fun _ h => (loopW_next (fun _ hm => ⟨hc0, hm⟩) hm0 _ rfl trivial h))) fun _ h => (loopW_next (fun _ hm => ⟨hc0, hm⟩) hm0 _ rfl trivial h))) (fun _ h => h.elim)))) fun _ h => ((ok_ret h :) trivial))⟩⟩) fun _ h => ((ok_ret h :) trivial))))
 ·rintro _ _ K ⟨c2_0, c2_1, hc2, i2, v2, rfl, hl2, rfl, hv2, h⟩
  exact cast (lvc47_1 _ _ _ _ _ _ _ _).symm (loopE_step (t := TPart) hl2 h (fun ht2 h => (oC h (fun _ h => ⟨hl2, ⟨ht2, (oC h (fun _ h => ⟨hl2, ⟨ht2, (loopE_next (t := TPart) (fun _ hm => ⟨c2_0, c2_1, hc2, hm⟩) _ rfl hl2 ht2 (sm_len h_e) trivial h)⟩⟩) fun _ h => (loopE_next (t := TPart) (fun _ hm => ⟨c2_0, c2_1, hc2, hm⟩) _ rfl hl2 ht2 (sm_len h_e) trivial h))⟩⟩) fun _ h => (loopE_next (t := TPart) (fun _ hm => ⟨c2_0, c2_1, hc2, hm⟩) _ rfl hl2 ht2 (sm_len h_e) trivial h))) fun h => (h trivial))
 ·rw [vc47]
  exact (loopW_start (fun m hm => ⟨trivial, hm⟩) _ rfl trivial (ok_bind h (fun e0 h hv0 => h)))
def c138 : Con := ⟨[.dat TValue, .dat TValue], fun args hp K => g2 (pD TValue) (pD TValue) (fun a b => (Sm TValue a) ∧ (Sm TValue b) ∧ (∀ r : TValue.D, r = (M.sum a b) → K (.data TValue r) [])) args hp, .plain, false⟩
@[reducible] def C138 : Ctx := cx [(69, c69)] 27 [] 0 false
def ann138 := an [[.fixRow 2 TValue, .fixRow 3 TValue, kp 28], [kp 60], [kp 8388656], [kp 16], [kp 16]] []
theorem vc138 (a : TValue.D) (b : TValue.D) (K : KA) : vcT C138 noLoops ann138 f138 [.data TValue a, .data TValue b] [] (.dat TValue) K =
 (cond ((decide (a.1 = Z0)) == false) (cond ((decide (b.1 = Z0)) == false) (cond (!(M.inR (wrap64 (a.2.1 + b.2.1)) (-9999 : Int) (9999 : Int))) (K (.data TValue (Z0, (Z0, ((⟨#[]⟩ : ByteArray), ())))) []) (K (.data TValue (Z1, (wrap64 (a.2.1 + b.2.1), ((⟨#[]⟩ : ByteArray), ())))) [])) (K (.data TValue (Z0, (Z0, ((⟨#[]⟩ : ByteArray), ())))) [])) (K (.data TValue (Z0, (Z0, ((⟨#[]⟩ : ByteArray), ())))) [])) := by kernel_rfl
theorem con138_ok : Con1 P 138 c138 := conR C138 func138 (kC con69_ok kN) fun args hp K h0 => by
 obtain ⟨a, b, rfl, rfl, h_a, h_b, hK⟩ := g2e h0
 have h : ok (F.spec_l4Sum a b) (fun r => K (.data TValue r) []) := ok_of_eq (F.spec_l4Sum_eq a b h_a h_b) (hK _ rfl)
 refine ⟨rfl, ann138, noLoops, (.dat TValue), (no_loops (by kernel_rfl)), ?_⟩
 ·rw [vc138]
  exact (oC h (fun _ h => (oC h (fun _ h => (oC h (fun _ h => h) fun _ h => h)) fun _ h => h)) fun _ h => h)
def c139 : Con := ⟨[.dat TInt], fun args hp K => g1 (pD TInt) (fun truth => (∀ r : TValue.D, r = (M.valueOf truth) → K (.data TValue r) [])) args hp, .plain, false⟩
@[reducible] def C139 : Ctx := cx [] 12 [] 0 false
def ann139 := an [[kp 5], [kp 261], [kp 4], [kp 4]] []
theorem vc139 (truth : Int) (K : KA) : vcT C139 noLoops ann139 f139 [dI truth] [] (.dat TValue) K =
 (cond ((decide (truth = Z0)) == false) (cond (decide (truth = Z1)) (K (.data TValue (Z3, (truth, ((⟨#[]⟩ : ByteArray), ())))) []) (K (.data TValue (Z0, (Z0, ((⟨#[]⟩ : ByteArray), ())))) [])) (K (.data TValue (Z3, (truth, ((⟨#[]⟩ : ByteArray), ())))) [])) := by kernel_rfl
theorem con139_ok : Con1 P 139 c139 := conR C139 func139 kN fun args hp K h0 => by
 obtain ⟨truth, rfl, rfl, hK⟩ := g1e h0
 have h : ok (F.spec_ValueOf truth) (fun r => K (.data TValue r) []) := ok_of_eq (F.spec_ValueOf_eq truth) (hK _ rfl)
 refine ⟨rfl, ann139, noLoops, (.dat TValue), (no_loops (by kernel_rfl)), ?_⟩
 ·rw [vc139]
  exact (oC h (fun _ h => (oC h (fun _ h => h) fun _ h => h)) fun _ h => h)
def c145 : Con := ⟨[.dat Ty.bool], fun args hp K => g1 (pD Ty.bool) (fun b => K (dI (M.bool b)) []) args hp, .plain, false⟩
@[reducible] def C145 : Ctx := cx [] 4 [] 0 false
def ann145 := an [[kp 1], [kp 8], [kp 4], [kp 4]] []
theorem vc145 (b : Bool) (K : KA) : vcT C145 noLoops ann145 f145 [dB b] [] (.dat TInt) K =
 (cond b (K (dI Z1) []) (K (dI Z0) [])) := by kernel_rfl
theorem con145_ok : Con1 P 145 c145 := conR C145 func145 kN fun args hp K h0 => by
 obtain ⟨b, rfl, rfl, hK⟩ := g1e h0
 have h : ok (F.spec_l2Bool b) (fun r => K (dI r) []) := ok_of_eq (F.spec_l2Bool_eq b) hK
 refine ⟨rfl, ann145, noLoops, (.dat TInt), (no_loops (by kernel_rfl)), ?_⟩
 ·rw [vc145]
  exact (oC h (fun _ h => h) fun _ h => h)
def c206 : Con := ⟨[.dat TInt, .dat TInt], fun args hp K => g2 (pD TInt) (pD TInt) (fun a b => K (dI (M.less a b)) []) args hp, .plain, false⟩
@[reducible] def C206 : Ctx := cx [] 8 [] 0 false
def ann206 := an [[kp 3], [kp 128], [kp 16], [kp 16]] []
theorem vc206 (a : Int) (b : Int) (K : KA) : vcT C206 noLoops ann206 f206 [dI a, dI b] [] (.dat TInt) K =
 (cond (decide (a < b)) (K (dI Z1) []) (K (dI Z0) [])) := by kernel_rfl
theorem con206_ok : Con1 P 206 c206 := conR C206 func206 kN fun args hp K h0 => by
 obtain ⟨a, b, rfl, rfl, hK⟩ := g2e h0
 have h : ok (F.spec_l1Less a b) (fun r => K (dI r) []) := ok_of_eq (F.spec_l1Less_eq a b) hK
 refine ⟨rfl, ann206, noLoops, (.dat TInt), (no_loops (by kernel_rfl)), ?_⟩
 ·rw [vc206]
  exact (oC h (fun _ h => h) fun _ h => h)
def c207 : Con := ⟨[.dat Ty.str, .dat Ty.str], fun args hp K => g2 (pD Ty.str) (pD Ty.str) (fun a b => (Sm Ty.str a) ∧ (Sm Ty.str b) ∧ K (dI (M.cmpS a b)) []) args hp, .plain, false⟩
@[reducible] def C207 : Ctx := cx [] 11 [] 0 false
def ann207 := an [[kp 3], [kp 131], [kp 16], [kp 1024], [kp 16], [kp 16]] []
theorem vc207 (a : ByteArray) (b : ByteArray) (K : KA) : vcT C207 noLoops ann207 f207 [.data Ty.str a, .data Ty.str b] [] (.dat TInt) K =
 (cond (Op.bytesLess a.toList b.toList) (K (dI (-1 : Int)) []) (cond (!(Op.bytesLess a.toList b.toList || decide (a = b))) (K (dI Z1) []) (K (dI Z0) []))) := by kernel_rfl
theorem con207_ok : Con1 P 207 c207 := conR C207 func207 kN fun args hp K h0 => by
 obtain ⟨a, b, rfl, rfl, h_a, h_b, hK⟩ := g2e h0
 have h : ok (F.spec_l1Cmp a b) (fun r => K (dI r) []) := ok_of_eq (F.spec_l1Cmp_eq a b h_a h_b) hK
 refine ⟨rfl, ann207, noLoops, (.dat TInt), (no_loops (by kernel_rfl)), ?_⟩
 ·rw [vc207]
  exact (oC h (fun _ h => h) fun _ h => (oC h (fun _ h => h) fun _ h => h))
def c181 : Con := ⟨[.dat TValue, .dat TValue], fun args hp K => g2 (pD TValue) (pD TValue) (fun a b => (Sm TValue a) ∧ (Sm TValue b) ∧ K (dI (M.valueOrder a b)) []) args hp, .plain, false⟩
@[reducible] def C181 : Ctx := cx [(137, c137), (206, c206), (207, c207)] 44 [] 0 false
def ann181 := an [[.fixRow 2 TValue, .fixRow 3 TValue, kp 12], [kp 4108], [kp 16], [kp 8204], [kp 16], [kp 67108876], [kp 16], [kp 16]] []
theorem vc181 (a : TValue.D) (b : TValue.D) (K : KA) : vcT C181 noLoops ann181 f181 [.data TValue a, .data TValue b] [] (.dat TInt) K =
 ((Sm TValue a) ∧ cond ((!(M.valueOk a)) == false) ((Sm TValue b) ∧ cond (!(M.valueOk b)) (K (dI Z0) []) (cond (!decide (a.1 = b.1)) (K (dI (wrap64 (wrap64 (Z2 * (M.less b.1 a.1)) - Z1))) []) (cond (!decide (a.2.1 = b.2.1)) (K (dI (wrap64 (wrap64 (Z2 * (M.less b.2.1 a.2.1)) - Z1))) []) ((Sm Ty.str a.2.2.1) ∧ (Sm Ty.str b.2.2.1) ∧ K (dI (M.cmpS a.2.2.1 b.2.2.1)) [])))) (K (dI Z0) [])) := by kernel_rfl
theorem con181_ok : Con1 P 181 c181 := conR C181 func181 (kC con137_ok (kC con206_ok (kC con207_ok kN))) fun args hp K h0 => by
 obtain ⟨a, b, rfl, rfl, h_a, h_b, hK⟩ := g2e h0
 have h : ok (F.spec_ValueOrder a b) (fun r => K (dI r) []) := ok_of_eq (F.spec_ValueOrder_eq a b h_a h_b) hK
 refine ⟨rfl, ann181, noLoops, (.dat TInt), (no_loops (by kernel_rfl)), ?_⟩
 ·rw [vc181]
  exact ⟨h_a, (oC h (fun _ h => ⟨h_b, (oC h (fun _ h => h) fun _ h => (oC h (fun _ h => h) fun _ h => (oC h (fun _ h => h) fun _ h => ⟨h_a.2.2.1, ⟨h_b.2.2.1, h⟩⟩)))⟩) fun _ h => h)⟩
def c140 : Con := ⟨[.dat TInt, .dat TValue, .dat TValue], fun args hp K => g3 (pD TInt) (pD TValue) (pD TValue) (fun kind a b => (Sm TValue a) ∧ (Sm TValue b) ∧ K (dI (M.compare kind a b)) []) args hp, .plain, false⟩
@[reducible] def C140 : Ctx := cx [(69, c69), (137, c137), (145, c145), (181, c181)] 65 [] 0 false
def ann140 := an [[.fixRow 4 TValue, .fixRow 5 TValue, kp 49], [kp 177], [kp 64], [kp 2097201], [kp 64], [kp 1073741873], [kp 64], [kp 68719476785], [kp 64], [kp 17592186044465], [kp 64], [.keep [4, 5, 52]], [kp 64], [kp 64]] []
theorem vc140 (kind : Int) (a : TValue.D) (b : TValue.D) (K : KA) : vcT C140 noLoops ann140 f140 [dI kind, .data TValue a, .data TValue b] [] (.dat TInt) K =
 (cond ((!(M.inR kind Z1 Z4)) == false) ((Sm TValue a) ∧ cond ((!(M.valueOk a)) == false) ((Sm TValue b) ∧ cond (!(M.valueOk b)) (K (dI (-1 : Int)) []) (cond ((decide (a.1 = Z0)) == false) (cond (decide (b.1 = Z0)) (K (dI Z2) []) (cond (!decide (a.1 = b.1)) (K (dI (-1 : Int)) []) (cond (decide (kind = Z1)) ((Sm TValue a) ∧ (Sm TValue b) ∧ K (dI (M.bool (decide ((M.valueOrder a b) = Z0)))) []) (cond (decide (kind = Z2)) ((Sm TValue a) ∧ (Sm TValue b) ∧ K (dI (M.bool (!decide ((M.valueOrder a b) = Z0)))) []) (cond (decide (kind = Z3)) ((Sm TValue a) ∧ (Sm TValue b) ∧ K (dI (M.bool (decide ((M.valueOrder a b) < Z0)))) []) ((Sm TValue a) ∧ (Sm TValue b) ∧ K (dI (M.bool (decide ((M.valueOrder a b) ≤ Z0)))) [])))))) (K (dI Z2) []))) (K (dI (-1 : Int)) [])) (K (dI (-1 : Int)) [])) := by kernel_rfl
theorem con140_ok : Con1 P 140 c140 := conR C140 func140 (kC con69_ok (kC con137_ok (kC con145_ok (kC con181_ok kN)))) fun args hp K h0 => by
 obtain ⟨kind, a, b, rfl, rfl, h_a, h_b, hK⟩ := g3e h0
 have h : ok (F.spec_Compare kind a b) (fun r => K (dI r) []) := ok_of_eq (F.spec_Compare_eq kind a b h_a h_b) hK
 refine ⟨rfl, ann140, noLoops, (.dat TInt), (no_loops (by kernel_rfl)), ?_⟩
 ·rw [vc140]
  exact (oC h (fun _ h => ⟨h_a, (oC h (fun _ h => ⟨h_b, (oC h (fun _ h => h) fun _ h => (oC h (fun _ h => (oC h (fun _ h => h) fun _ h => (oC h (fun _ h => h) fun _ h => (oC h (fun _ h => ⟨h_a, ⟨h_b, h⟩⟩) fun _ h => (oC h (fun _ h => ⟨h_a, ⟨h_b, h⟩⟩) fun _ h => (oC h (fun _ h => ⟨h_a, ⟨h_b, h⟩⟩) fun _ h => ⟨h_a, ⟨h_b, h⟩⟩)))))) fun _ h => h))⟩) fun _ h => h)⟩) fun _ h => h)
def c182 : Con := ⟨[.dat TInt], fun args hp K => g1 (pD TInt) (fun n => K (dB (M.inR n 0 2)) []) args hp, .plain, false⟩
@[reducible] def C182 : Ctx := cx [(69, c69)] 5 [] 0 false
def ann182 := an [[kp 1], [kp 4]] []
theorem vc182 (n : Int) (K : KA) : vcT C182 noLoops ann182 f182 [dI n] [] (.dat Ty.bool) K =
 (K (dB (M.inR n Z0 Z2)) []) := by kernel_rfl
theorem con182_ok : Con1 P 182 c182 := conR C182 func182 (kC con69_ok kN) fun args hp K h0 => by
 obtain ⟨n, rfl, rfl, hK⟩ := g1e h0
 have h : ok (F.spec_TruthOk n) (fun r => K (dB r) []) := ok_of_eq (F.spec_TruthOk_eq n) hK
 refine ⟨rfl, ann182, noLoops, (.dat Ty.bool), (no_loops (by kernel_rfl)), ?_⟩
 ·rw [vc182]
  exact h
def c183 : Con := ⟨[.dat TInt], fun args hp K => g1 (pD TInt) (fun n => (M.inR n 0 2 = true) ∧ K (dI (M.sure n)) []) args hp, .plain, false⟩
@[reducible] def C183 : Ctx := cx [] 7 [] 0 false
def ann183 := an [[kp 1], [kp 4]] []
theorem vc183 (n : Int) (K : KA) : vcT C183 noLoops ann183 f183 [dI n] [] (.dat TInt) K =
 ((0 ≤ n) ∧ (n < ([Z0, Z2, Z1].length : Int)) ∧ K (dI (nI [Z0, Z2, Z1] n)) []) := by kernel_rfl
theorem con183_ok : Con1 P 183 c183 := conR C183 func183 kN fun args hp K h0 => by
 obtain ⟨n, rfl, rfl, p0, hK⟩ := g1e h0
 have h : ok (F.spec_l2Sure n) (fun r => K (dI r) []) := ok_of_eq (F.spec_l2Sure_eq n p0) hK
 refine ⟨rfl, ann183, noLoops, (.dat TInt), (no_loops (by kernel_rfl)), ?_⟩
 ·rw [vc183]
  exact (oG h fun _ h => (oG h fun _ h => h))
def c141 : Con := ⟨[.dat TInt, .dat TInt], fun args hp K => g2 (pD TInt) (pD TInt) (fun a b => K (dI (M.andOf a b)) []) args hp, .plain, false⟩
@[reducible] def C141 : Ctx := cx [(182, c182), (183, c183)] 19 [] 0 false
def ann141 := an [[kp 3], [kp 4099], [kp 16], [kp 16]] []
theorem vc141 (a : Int) (b : Int) (K : KA) : vcT C141 noLoops ann141 f141 [dI a, dI b] [] (.dat TInt) K =
 (cond ((!(M.inR a 0 2)) == false) (cond (!(M.inR b 0 2)) (K (dI (-1 : Int)) []) ((M.inR a 0 2 = true) ∧ (M.inR b 0 2 = true) ∧ (M.inR (minI (M.sure a) (M.sure b)) 0 2 = true) ∧ K (dI (M.sure (minI (M.sure a) (M.sure b)))) [])) (K (dI (-1 : Int)) [])) := by kernel_rfl
theorem con141_ok : Con1 P 141 c141 := conR C141 func141 (kC con182_ok (kC con183_ok kN)) fun args hp K h0 => by
 obtain ⟨a, b, rfl, rfl, hK⟩ := g2e h0
 have h : ok (F.spec_AndOf a b) (fun r => K (dI r) []) := ok_of_eq (F.spec_AndOf_eq a b) hK
 refine ⟨rfl, ann141, noLoops, (.dat TInt), (no_loops (by kernel_rfl)), ?_⟩
 ·rw [vc141]
  exact (oC h (fun b_1 h => (oC h (fun _ h => h) fun b_2 h => ⟨(bnf (bgt b_1)), ⟨(bnf b_2), (oG h fun _ h => h)⟩⟩)) fun _ h => h)
def c142 : Con := ⟨[.dat TValue], fun args hp K => g1 (pD TValue) (fun v => (Sm TValue v) ∧ K (dI (M.truthOf v)) []) args hp, .plain, false⟩
@[reducible] def C142 : Ctx := cx [(137, c137)] 23 [] 0 false
def ann142 := an [[.fixRow 1 TValue, kp 2], [kp 10], [kp 4], [kp 131074], [kp 4], [kp 4]] []
theorem vc142 (v : TValue.D) (K : KA) : vcT C142 noLoops ann142 f142 [.data TValue v] [] (.dat TInt) K =
 ((Sm TValue v) ∧ cond ((!(M.valueOk v)) == false) (cond ((decide (v.1 = Z1)) == false) (cond (decide (v.1 = Z2)) (K (dI (-1 : Int)) []) (cond (decide (v.1 = Z0)) (K (dI Z2) []) (K (dI v.2.1) []))) (K (dI (-1 : Int)) [])) (K (dI (-1 : Int)) [])) := by kernel_rfl
theorem con142_ok : Con1 P 142 c142 := conR C142 func142 (kC con137_ok kN) fun args hp K h0 => by
 obtain ⟨v, rfl, rfl, h_v, hK⟩ := g1e h0
 have h : ok (F.spec_TruthOf v) (fun r => K (dI r) []) := ok_of_eq (F.spec_TruthOf_eq v h_v) hK
 refine ⟨rfl, ann142, noLoops, (.dat TInt), (no_loops (by kernel_rfl)), ?_⟩
 ·rw [vc142]
  exact ⟨h_v, (oC h (fun _ h => (oC h (fun _ h => (oC h (fun _ h => h) fun _ h => (oC h (fun _ h => h) fun _ h => h))) fun _ h => h)) fun _ h => h)⟩
def c143 : Con := ⟨[.dat TInt, .dat TInt], fun args hp K => g2 (pD TInt) (pD TInt) (fun a b => K (dI (M.orOf a b)) []) args hp, .plain, false⟩
@[reducible] def C143 : Ctx := cx [(182, c182), (183, c183)] 19 [] 0 false
def ann143 := an [[kp 3], [kp 4099], [kp 16], [kp 16]] []
theorem vc143 (a : Int) (b : Int) (K : KA) : vcT C143 noLoops ann143 f143 [dI a, dI b] [] (.dat TInt) K =
 (cond ((!(M.inR a 0 2)) == false) (cond (!(M.inR b 0 2)) (K (dI (-1 : Int)) []) ((M.inR a 0 2 = true) ∧ (M.inR b 0 2 = true) ∧ (M.inR (maxI (M.sure a) (M.sure b)) 0 2 = true) ∧ K (dI (M.sure (maxI (M.sure a) (M.sure b)))) [])) (K (dI (-1 : Int)) [])) := by kernel_rfl
theorem con143_ok : Con1 P 143 c143 := conR C143 func143 (kC con182_ok (kC con183_ok kN)) fun args hp K h0 => by
 obtain ⟨a, b, rfl, rfl, hK⟩ := g2e h0
 have h : ok (F.spec_OrOf a b) (fun r => K (dI r) []) := ok_of_eq (F.spec_OrOf_eq a b) hK
 refine ⟨rfl, ann143, noLoops, (.dat TInt), (no_loops (by kernel_rfl)), ?_⟩
 ·rw [vc143]
  exact (oC h (fun b_1 h => (oC h (fun _ h => h) fun b_2 h => ⟨(bnf (bgt b_1)), ⟨(bnf b_2), (oG h fun _ h => h)⟩⟩)) fun _ h => h)
def c144 : Con := ⟨[.dat TInt], fun args hp K => g1 (pD TInt) (fun a => K (dI (M.notOf a)) []) args hp, .plain, false⟩
@[reducible] def C144 : Ctx := cx [(182, c182), (183, c183)] 10 [] 0 false
def ann144 := an [[kp 1], [kp 33], [kp 4], [kp 4]] []
theorem vc144 (a : Int) (K : KA) : vcT C144 noLoops ann144 f144 [dI a] [] (.dat TInt) K =
 (cond (!(M.inR a 0 2)) (K (dI (-1 : Int)) []) ((M.inR a 0 2 = true) ∧ (M.inR (wrap64 (Z2 - (M.sure a))) 0 2 = true) ∧ K (dI (M.sure (wrap64 (Z2 - (M.sure a))))) [])) := by kernel_rfl
theorem con144_ok : Con1 P 144 c144 := conR C144 func144 (kC con182_ok (kC con183_ok kN)) fun args hp K h0 => by
 obtain ⟨a, rfl, rfl, hK⟩ := g1e h0
 have h : ok (F.spec_NotOf a) (fun r => K (dI r) []) := ok_of_eq (F.spec_NotOf_eq a) hK
 refine ⟨rfl, ann144, noLoops, (.dat TInt), (no_loops (by kernel_rfl)), ?_⟩
 ·rw [vc144]
  exact (oC h (fun _ h => h) fun b_1 h => ⟨(bnf b_1), (oG h fun _ h => h)⟩)
def c96 : Con := ⟨[.dat TVS, .mv, .dat TPart], fun args hp K => hpN 0 false TValue (fun values => args3 (fun a0 a1 a2 => withD TVS a0 fun row => withO 0 a1 (withD TPart a2 fun p => (Sm TVS row) ∧ (Sm TVS values) ∧ (Sm TPart p) ∧ (values.length ≤ 1000) ∧ (M.takes p ≤ (values.length : Int)) ∧ (1 ≤ p.1 ∧ p.1 ≤ 8) ∧ (M.colIn p row.length) ∧ (∀ r : LV, r = (M.valStep row values p) → K (.own 0 none) [(0, .arr false TValue r)]))) args []) hp, .mv, false⟩
@[reducible] def C96 : Ctx := cx [(138, c138), (139, c139), (140, c140), (141, c141), (142, c142), (143, c143), (144, c144), (145, c145)] 145 [] 0 true
def ann96 := an [[.fixRow 5 TPart, kp 35], [kp 163], [kp 2211], [kp 6307], [kp 64], [kp 526499], [kp 64], [kp 536873122], [kp 64], [kp 281474976712866], [kp 64], [.keep [1, 7, 11, 70]], [kp 64], [.keep [1, 7, 11, 92]], [kp 64], [.keep [1, 7, 114]], [kp 64], [kp 64]] []
theorem vc96 (row : LV) (values : LV) (p : TPart.D) (K : KA) : vcT C96 noLoops ann96 f96 [.data TVS row, .own 0 none, .data TPart p] [(0, .arr false TValue values)] .raw K =
 (cond (decide (p.1 = Z1)) (((values.length + [p.2.2.1].length) * 32 ≤ lim) ∧ K (.own 0 none) [(0, .arr false TValue (values ++ [p.2.2.1]))]) (cond (decide (p.1 = Z2)) ((0 ≤ p.2.1) ∧ (p.2.1 < (row.length : Int)) ∧ ((values.length + [(nV row p.2.1)].length) * 32 ≤ lim) ∧ K (.own 0 none) [(0, .arr false TValue (values ++ [(nV row p.2.1)]))]) (cond (decide (p.1 = Z3)) ((0 ≤ Z0) ∧ (Z0 ≤ wrap64 ((values.length : Int) - Z2)) ∧ (wrap64 ((values.length : Int) - Z2) ≤ (values.length : Int)) ∧ (wrap64 ((values.length : Int) - Z2) = wrap64 ((values.length : Int) - Z2)) ∧ (0 ≤ wrap64 ((values.length : Int) - Z2)) ∧ (wrap64 ((values.length : Int) - Z2) < (values.length : Int)) ∧ (0 ≤ wrap64 ((values.length : Int) - Z1)) ∧ (wrap64 ((values.length : Int) - Z1) < (values.length : Int)) ∧ (Sm TValue (nV values (wrap64 ((values.length : Int) - Z2)))) ∧ (Sm TValue (nV values (wrap64 ((values.length : Int) - Z1)))) ∧ (∀ r1 : TValue.D, r1 = (M.sum (nV values (wrap64 ((values.length : Int) - Z2))) (nV values (wrap64 ((values.length : Int) - Z1)))) → (Z0 = 0) ∧ (((wrap64 ((values.length : Int) - Z2)).toNat + [r1].length) * 32 ≤ lim) ∧ K (.own 0 none) [(0, .arr false TValue (values.take (wrap64 ((values.length : Int) - Z2)).toNat ++ [r1]))])) (cond (decide (p.1 = Z4)) ((0 ≤ Z0) ∧ (Z0 ≤ wrap64 ((values.length : Int) - Z2)) ∧ (wrap64 ((values.length : Int) - Z2) ≤ (values.length : Int)) ∧ (wrap64 ((values.length : Int) - Z2) = wrap64 ((values.length : Int) - Z2)) ∧ (0 ≤ wrap64 ((values.length : Int) - Z2)) ∧ (wrap64 ((values.length : Int) - Z2) < (values.length : Int)) ∧ (0 ≤ wrap64 ((values.length : Int) - Z1)) ∧ (wrap64 ((values.length : Int) - Z1) < (values.length : Int)) ∧ (Sm TValue (nV values (wrap64 ((values.length : Int) - Z2)))) ∧ (Sm TValue (nV values (wrap64 ((values.length : Int) - Z1)))) ∧ (∀ r2 : TValue.D, r2 = (M.valueOf (M.compare p.2.1 (nV values (wrap64 ((values.length : Int) - Z2))) (nV values (wrap64 ((values.length : Int) - Z1))))) → (Z0 = 0) ∧ (((wrap64 ((values.length : Int) - Z2)).toNat + [r2].length) * 32 ≤ lim) ∧ K (.own 0 none) [(0, .arr false TValue (values.take (wrap64 ((values.length : Int) - Z2)).toNat ++ [r2]))])) (cond (decide (p.1 = Z5)) ((0 ≤ Z0) ∧ (Z0 ≤ wrap64 ((values.length : Int) - Z2)) ∧ (wrap64 ((values.length : Int) - Z2) ≤ (values.length : Int)) ∧ (wrap64 ((values.length : Int) - Z2) = wrap64 ((values.length : Int) - Z2)) ∧ (0 ≤ wrap64 ((values.length : Int) - Z2)) ∧ (wrap64 ((values.length : Int) - Z2) < (values.length : Int)) ∧ (0 ≤ wrap64 ((values.length : Int) - Z1)) ∧ (wrap64 ((values.length : Int) - Z1) < (values.length : Int)) ∧ (Sm TValue (nV values (wrap64 ((values.length : Int) - Z2)))) ∧ (Sm TValue (nV values (wrap64 ((values.length : Int) - Z1)))) ∧ (∀ r3 : TValue.D, r3 = (M.valueOf (M.andOf (M.truthOf (nV values (wrap64 ((values.length : Int) - Z2)))) (M.truthOf (nV values (wrap64 ((values.length : Int) - Z1)))))) → (Z0 = 0) ∧ (((wrap64 ((values.length : Int) - Z2)).toNat + [r3].length) * 32 ≤ lim) ∧ K (.own 0 none) [(0, .arr false TValue (values.take (wrap64 ((values.length : Int) - Z2)).toNat ++ [r3]))])) (cond (decide (p.1 = Z6)) ((0 ≤ Z0) ∧ (Z0 ≤ wrap64 ((values.length : Int) - Z2)) ∧ (wrap64 ((values.length : Int) - Z2) ≤ (values.length : Int)) ∧ (wrap64 ((values.length : Int) - Z2) = wrap64 ((values.length : Int) - Z2)) ∧ (0 ≤ wrap64 ((values.length : Int) - Z2)) ∧ (wrap64 ((values.length : Int) - Z2) < (values.length : Int)) ∧ (0 ≤ wrap64 ((values.length : Int) - Z1)) ∧ (wrap64 ((values.length : Int) - Z1) < (values.length : Int)) ∧ (Sm TValue (nV values (wrap64 ((values.length : Int) - Z2)))) ∧ (Sm TValue (nV values (wrap64 ((values.length : Int) - Z1)))) ∧ (∀ r4 : TValue.D, r4 = (M.valueOf (M.orOf (M.truthOf (nV values (wrap64 ((values.length : Int) - Z2)))) (M.truthOf (nV values (wrap64 ((values.length : Int) - Z1)))))) → (Z0 = 0) ∧ (((wrap64 ((values.length : Int) - Z2)).toNat + [r4].length) * 32 ≤ lim) ∧ K (.own 0 none) [(0, .arr false TValue (values.take (wrap64 ((values.length : Int) - Z2)).toNat ++ [r4]))])) (cond (decide (p.1 = (7 : Int))) ((0 ≤ Z0) ∧ (Z0 ≤ wrap64 ((values.length : Int) - Z1)) ∧ (wrap64 ((values.length : Int) - Z1) ≤ (values.length : Int)) ∧ (wrap64 ((values.length : Int) - Z1) = wrap64 ((values.length : Int) - Z1)) ∧ (0 ≤ wrap64 ((values.length : Int) - Z1)) ∧ (wrap64 ((values.length : Int) - Z1) < (values.length : Int)) ∧ (Sm TValue (nV values (wrap64 ((values.length : Int) - Z1)))) ∧ (∀ r5 : TValue.D, r5 = (M.valueOf (M.notOf (M.truthOf (nV values (wrap64 ((values.length : Int) - Z1)))))) → (Z0 = 0) ∧ (((wrap64 ((values.length : Int) - Z1)).toNat + [r5].length) * 32 ≤ lim) ∧ K (.own 0 none) [(0, .arr false TValue (values.take (wrap64 ((values.length : Int) - Z1)).toNat ++ [r5]))])) ((0 ≤ Z0) ∧ (Z0 ≤ wrap64 ((values.length : Int) - Z1)) ∧ (wrap64 ((values.length : Int) - Z1) ≤ (values.length : Int)) ∧ (wrap64 ((values.length : Int) - Z1) = wrap64 ((values.length : Int) - Z1)) ∧ (0 ≤ wrap64 ((values.length : Int) - Z1)) ∧ (wrap64 ((values.length : Int) - Z1) < (values.length : Int)) ∧ (∀ r6 : TValue.D, r6 = (M.valueOf (M.bool (decide ((nV values (wrap64 ((values.length : Int) - Z1))).1 = Z0)))) → (Z0 = 0) ∧ (((wrap64 ((values.length : Int) - Z1)).toNat + [r6].length) * 32 ≤ lim) ∧ K (.own 0 none) [(0, .arr false TValue (values.take (wrap64 ((values.length : Int) - Z1)).toNat ++ [r6]))]))))))))) := by kernel_rfl
theorem con96_ok : Con1 P 96 c96 := conR C96 func96 (kC con138_ok (kC con139_ok (kC con140_ok (kC con141_ok (kC con142_ok (kC con143_ok (kC con144_ok (kC con145_ok kN)))))))) fun args hp K h0 => by
 unfold c96 at h0
 dsimp only at h0
 obtain ⟨values, rfl, h00⟩ := hpN_elim (n := 0) (d := false) (t := TValue) h0
 obtain ⟨a0, a1, a2, rfl, _, h1⟩ := args3_elim h00
 obtain ⟨row, rfl, h2⟩ := withD_elim h1
 obtain ⟨rfl, h3⟩ := withO_elim h2
 obtain ⟨p, rfl, h4⟩ := withD_elim h3
 obtain ⟨h_row, h_values, h_p, p0, p1, p2, p3, hK⟩ := h4
 have h : ok (F.spec_l4Do row values p) (fun r => K (.own 0 none) [(0, .arr false TValue r)]) := ok_of_eq (F.spec_l4Do_eq row values p h_row h_values h_p p0 p1 p2 p3) (hK _ rfl)
 refine ⟨rfl, ann96, noLoops, .raw, (no_loops (by kernel_rfl)), ?_⟩
 ·rw [vc96]
  exact (oC h (fun _ h => ⟨(sm_lim2 h_values (sm_one h_p.2.2.1) rfl), h⟩) fun _ h => (oC h (fun _ h => (oG h fun _ h => (oG h fun _ h => ⟨(sm_lim2 h_values (sm_one (sm_nth h_row p.2.1)) rfl), h⟩))) fun _ h => (oC h (fun _ h => ⟨(Int.natCast_nonneg 0), (oG h fun _ h => (oG h fun _ h => ⟨rfl, (oG h fun _ h => (oG h fun _ h => (oG h fun _ h => (oG h fun _ h => ⟨(sm_nth h_values (wrap64 ((values.length : Int) - Z2))), ⟨(sm_nth h_values (wrap64 ((values.length : Int) - Z1))), (oL h fun _ _ h => ⟨rfl, (oG h fun _ h => h)⟩)⟩⟩))))⟩))⟩) fun _ h => (oC h (fun _ h => ⟨(Int.natCast_nonneg 0), (oG h fun _ h => (oG h fun _ h => ⟨rfl, (oG h fun _ h => (oG h fun _ h => (oG h fun _ h => (oG h fun _ h => ⟨(sm_nth h_values (wrap64 ((values.length : Int) - Z2))), ⟨(sm_nth h_values (wrap64 ((values.length : Int) - Z1))), (oL h fun _ _ h => ⟨rfl, (oG h fun _ h => h)⟩)⟩⟩))))⟩))⟩) fun _ h => (oC h (fun _ h => ⟨(Int.natCast_nonneg 0), (oG h fun _ h => (oG h fun _ h => ⟨rfl, (oG h fun _ h => (oG h fun _ h => (oG h fun _ h => (oG h fun _ h => ⟨(sm_nth h_values (wrap64 ((values.length : Int) - Z2))), ⟨(sm_nth h_values (wrap64 ((values.length : Int) - Z1))), (oL h fun _ _ h => ⟨rfl, (oG h fun _ h => h)⟩)⟩⟩))))⟩))⟩) fun _ h => (oC h (fun _ h => ⟨(Int.natCast_nonneg 0), (oG h fun _ h => (oG h fun _ h => ⟨rfl, (oG h fun _ h => (oG h fun _ h => (oG h fun _ h => (oG h fun _ h => ⟨(sm_nth h_values (wrap64 ((values.length : Int) - Z2))), ⟨(sm_nth h_values (wrap64 ((values.length : Int) - Z1))), (oL h fun _ _ h => ⟨rfl, (oG h fun _ h => h)⟩)⟩⟩))))⟩))⟩) fun _ h => (oC h (fun _ h => ⟨(Int.natCast_nonneg 0), (oG h fun _ h => (oG h fun _ h => ⟨rfl, (oG h fun _ h => (oG h fun _ h => ⟨(sm_nth h_values (wrap64 ((values.length : Int) - Z1))), (oL h fun _ _ h => ⟨rfl, (oG h fun _ h => h)⟩)⟩))⟩))⟩) fun _ h => ⟨(Int.natCast_nonneg 0), (oG h fun _ h => (oG h fun _ h => ⟨rfl, (oG h fun _ h => (oG h fun _ h => (oL h fun _ _ h => ⟨rfl, (oG h fun _ h => h)⟩)))⟩))⟩)))))))
def c48 : Con := ⟨[.dat TVS, .dat TPS], fun args hp K => g2 (pD TVS) (pD TPS) (fun row e => (Sm TVS row) ∧ (Sm TPS e) ∧ (M.exprSafe row.length e) ∧ (∀ r : TValue.D, r = (M.exprValue row e) → K (.data TValue r) [])) args hp, .plain, false⟩
@[reducible] def C48 : Ctx := cx [(96, c96)] 24 [] 0 false
def ann48 := an [[kp 19], [kp 51], [kp 115], [kp 2163], [kp 115], [kp 115], [kp 16]] [[kp 48]]
@[reducible] def s48_0 (row : LV) (e : LPt) (i0 : Int) (v0 : LV) : St := ⟨[(0, .data TVS row), (1, .data TPS e), (4, .ptr 4 0), (5, .own 7 none), (6, dI i0)], [(4, .box [dI Z0, dI Z0, .data Ty.str (⟨#[]⟩ : ByteArray)]), (7, .arr false TValue v0)]⟩
@[reducible] def LP48_0 (row : LV) (e : LPt) (m : Nat) (st_ : St) (K : KX) : Prop := True ∧ LoopE (t := TPart) (s48_0 row e) e (F.spec_l4Value_l0 row e) (fun v0 : LV => True) (outD (fun v0 : LV => True → K (.exit 0) (⟨[(4, .ptr 4 0), (5, .own 7 none)], [(4, .box [dI Z0, dI Z0, .data Ty.str (⟨#[]⟩ : ByteArray)]), (7, .arr false TValue v0)]⟩ : St)) (fun _ => False)) m st_
def L48 (row : LV) (e : LPt) : Loops := lp1 0 (LP48_0 row e)
theorem vc48 (row : LV) (e : LPt) (K : KA) : vcT C48 (L48 row e) ann48 f48 [.data TVS row, .data TPS e] [] (.dat TValue) K =
 (∃ m_, True ∧ LoopE (t := TPart) (s48_0 row e) e (F.spec_l4Value_l0 row e) (fun v0 : LV => True) (outD (fun v0 : LV => True → (0 ≤ Z0) ∧ (Z0 < (v0.length : Int)) ∧ K (.data TValue (nV v0 Z0)) []) (fun _ => False)) m_ (s48_0 row e Z0 [])) := by kernel_rfl
theorem lvc48_0 (row : LV) (e : LPt)  (i0 : Int) (v0 : LV) (m : Nat) (K : KX) : lvT C48 (L48 row e) ann48 f48 0 0 (s48_0 row e i0 v0) m K =
 (cond (decide (i0 < (e.length : Int))) ((0 ≤ i0) ∧ (i0 < (e.length : Int)) ∧ (Sm TVS row) ∧ (Sm TVS v0) ∧ (Sm TPart (nP e i0)) ∧ (v0.length ≤ 1000) ∧ (M.takes (nP e i0) ≤ (v0.length : Int)) ∧ (1 ≤ (nP e i0).1 ∧ (nP e i0).1 ≤ 8) ∧ (M.colIn (nP e i0) row.length) ∧ (∀ r1 : LV, r1 = (M.valStep row v0 (nP e i0)) → (nxT (LP48_0 row e) m K (s48_0 row e (wrap64 (i0 + Z1)) r1)))) (K (.exit 0) (⟨[(4, .ptr 4 0), (5, .own 7 none)], [(4, .box [dI Z0, dI Z0, .data Ty.str (⟨#[]⟩ : ByteArray)]), (7, .arr false TValue v0)]⟩ : St))) := by kernel_rfl
theorem con48_ok : Con1 P 48 c48 := conR C48 func48 (kC con96_ok kN) fun args hp K h0 => by
 obtain ⟨row, e, rfl, rfl, h_row, h_e, p0, hK⟩ := g2e h0
 have h : ok (F.spec_l4Value row e) (fun r => K (.data TValue r) []) := ok_of_eq (F.spec_l4Value_eq row e h_row h_e p0) (hK _ rfl)
 refine ⟨rfl, ann48, (L48 row e), (.dat TValue), (loopsN1 (i0 := 0) (by kernel_rfl) ?_), ?_⟩
 ·rintro _ _ K ⟨hc0, i0, v0, rfl, hl0, rfl, hv0, h⟩
  exact cast (lvc48_0 _ _ _ _ _ _).symm (loopE_step (t := TPart) hl0 h (fun ht0 h => ⟨hl0, ⟨ht0, ⟨h_row, (oG h fun _ h => ⟨(sm_nth h_e i0), (oG h fun _ h => (oG h fun _ h => (oG h fun _ h => (oG h fun _ h => (oL h fun _ _ h => (loopE_next (t := TPart) (fun _ hm => ⟨hc0, hm⟩) _ rfl hl0 ht0 (sm_len h_e) trivial h))))))⟩)⟩⟩⟩) fun h => (h trivial))
 ·rw [vc48]
  exact (loopE_start (t := TPart) (fun m hm => ⟨trivial, hm⟩) _ rfl trivial (ok_then h (fun v0 h hv0 => ⟨(Int.natCast_nonneg 0), (oG h fun _ h => h)⟩) (fun _ h => h.elim)))
def c12 : Con := ⟨[.dat TCS, .dat TPS], fun args hp K => g2 (pD TCS) (pD TPS) (fun columns e => (Sm TCS columns) ∧ (Sm TPS e) ∧ (∀ r : LPt, r = (M.exprFolded columns e) → K (.own 0 none) [(0, .arr false TPart r)])) args hp, .plain, false⟩
@[reducible] def C12 : Ctx := cx [(46, c46), (47, c47), (48, c48)] 32 [] 0 false
def ann12 := an [[kp 3], [kp 35], [kp 2083], [kp 16], [kp 131106], [.fixRow 6 TValue, kp 98], [kp 8388706], [kp 16], [kp 16]] []
theorem vc12 (columns : LC) (e : LPt) (K : KA) : vcT C12 noLoops ann12 f12 [.data TCS columns, .data TPS e] [] .raw K =
 ((Sm TCS columns) ∧ (Sm TPS e) ∧ cond (decide ((M.exprKind columns e) < Z0)) (K (.own 0 none) [(0, .arr false TPart [])]) ((Sm TCS columns) ∧ (Sm TPS e) ∧ (∀ r1 : (List Int), r1 = (M.exprColumns columns e) → cond (decide ((r1.length : Int) = Z0)) ((Sm TVS []) ∧ (Sm TPS e) ∧ (M.exprSafe ([] : LV).length e) ∧ (∀ r2 : TValue.D, r2 = (M.exprValue [] e) → cond (!decide (r2.1 = Z0)) (((([] : List TPart.D).length + [(Z1, (Z0, (r2, ())))].length) * 48 ≤ lim) ∧ K (.own 0 none) [(0, .arr false TPart ([] ++ [(Z1, (Z0, (r2, ())))]))]) (((([] : List TPart.D).length + e.length) * 48 ≤ lim) ∧ K (.own 0 none) [(0, .arr false TPart ([] ++ e))]))) (((([] : List TPart.D).length + e.length) * 48 ≤ lim) ∧ K (.own 0 none) [(0, .arr false TPart ([] ++ e))])))) := by kernel_rfl
theorem con12_ok : Con1 P 12 c12 := conR C12 func12 (kC con46_ok (kC con47_ok (kC con48_ok kN))) fun args hp K h0 => by
 obtain ⟨columns, e, rfl, rfl, h_columns, h_e, hK⟩ := g2e h0
 have h : ok (F.spec_ExprFolded columns e) (fun r => K (.own 0 none) [(0, .arr false TPart r)]) := ok_of_eq (F.spec_ExprFolded_eq columns e h_columns h_e) (hK _ rfl)
 refine ⟨rfl, ann12, noLoops, .raw, (no_loops (by kernel_rfl)), ?_⟩
 ·rw [vc12]
  exact ⟨h_columns, ⟨h_e, (oC h (fun _ h => h) fun _ h => ⟨h_columns, ⟨h_e, (oL h fun _ _ h => (oC h (fun _ h => ⟨(sm_nil TValue), ⟨h_e, (oG h fun _ h => (oL h fun _ _ h => (oC h (fun _ h => (oG h fun _ h => h)) fun _ h => ⟨(sm_lim2 (sm_nil TPart) h_e rfl), h⟩)))⟩⟩) fun _ h => ⟨(sm_lim2 (sm_nil TPart) h_e rfl), h⟩))⟩⟩)⟩⟩
def c53 : Con := ⟨[.dat TValue], fun args hp K => g1 (pD TValue) (fun v => (Sm TValue v) ∧ K (dB (M.valueOk v)) []) args hp, .plain, false⟩
@[reducible] def C53 : Ctx := cx [(99, c99)] 5 [] 0 false
def ann53 := an [[.fixRow 1 TValue, kp 2], [kp 4]] []
theorem vc53 (v : TValue.D) (K : KA) : vcT C53 noLoops ann53 f53 [.data TValue v] [] (.dat Ty.bool) K =
 ((Sm TValue v) ∧ K (dB (M.valueOk v)) []) := by kernel_rfl
theorem con53_ok : Con1 P 53 c53 := conR C53 func53 (kC con99_ok kN) fun args hp K h0 => by
 obtain ⟨v, rfl, rfl, h_v, hK⟩ := g1e h0
 have h : ok (F.impl_ValueOk v) (fun r => K (dB r) []) := ok_of_eq (F.impl_ValueOk_eq v h_v) hK
 refine ⟨rfl, ann53, noLoops, (.dat Ty.bool), (no_loops (by kernel_rfl)), ?_⟩
 ·rw [vc53]
  exact ⟨h_v, h⟩
def c14 : Con := ⟨[], fun args hp K => args0 (K (dB true) []) args hp, .plain, false⟩
@[reducible] def C14 : Ctx := cx [(53, c53)] 8 [] 0 false
def ann14 := an [[kp 0], [kp 1]] []
theorem vc14  (K : KA) : vcT C14 noLoops ann14 f14 [] [] (.dat Ty.bool) K =
 ((Sm TValue (Z1, (Z3, ((⟨#[]⟩ : ByteArray), ())))) ∧ cond ((M.valueOk (Z1, (Z3, ((⟨#[]⟩ : ByteArray), ())))) == true) ((Sm TValue ((9 : Int), (Z0, ((⟨#[]⟩ : ByteArray), ())))) ∧ K (dB (!(M.valueOk ((9 : Int), (Z0, ((⟨#[]⟩ : ByteArray), ())))))) []) (K (dB false) [])) := by kernel_rfl
theorem con14_ok : Con1 P 14 c14 := conR C14 func14 (kC con53_ok kN) fun args hp K h0 => by
 obtain ⟨rfl, rfl, h1⟩ := args0_elim h0
 have hK := h1
 have h : ok (F.laws_alive) (fun r => K (dB r) []) := ok_of_eq (F.laws_alive_eq) hK
 refine ⟨rfl, ann14, noLoops, (.dat Ty.bool), (no_loops (by kernel_rfl)), ?_⟩
 ·rw [vc14]
  exact ⟨(show Sm TValue _ from ⟨trivial, (show Sm (Ty.pair TInt (Ty.pair Ty.str Ty.unit)) _ from ⟨trivial, (show Sm (Ty.pair Ty.str Ty.unit) _ from ⟨(Nat.le_of_ble_eq_true rfl), trivial⟩)⟩)⟩), (oC h (fun _ h => ⟨(show Sm TValue _ from ⟨trivial, (show Sm (Ty.pair TInt (Ty.pair Ty.str Ty.unit)) _ from ⟨trivial, (show Sm (Ty.pair Ty.str Ty.unit) _ from ⟨(Nat.le_of_ble_eq_true rfl), trivial⟩)⟩)⟩), h⟩) fun _ h => h)⟩
def c150 : Con := ⟨[.dat TValue], fun args hp K => g1 (pD TValue) (fun v => (Sm TValue v) ∧ K (dB (!M.valueOk v)) []) args hp, .plain, false⟩
@[reducible] def C150 : Ctx := cx [(99, c99)] 6 [] 0 false
def ann150 := an [[.fixRow 1 TValue, kp 2], [kp 4]] []
theorem vc150 (v : TValue.D) (K : KA) : vcT C150 noLoops ann150 f150 [.data TValue v] [] (.dat Ty.bool) K =
 ((Sm TValue v) ∧ K (dB (!(M.valueOk v))) []) := by kernel_rfl
theorem con150_ok : Con1 P 150 c150 := conR C150 func150 (kC con99_ok kN) fun args hp K h0 => by
 obtain ⟨v, rfl, rfl, h_v, hK⟩ := g1e h0
 have h : ok (F.impl_RowOk_1 v) (fun r => K (dB r) []) := ok_of_eq (F.impl_RowOk_1_eq v h_v) hK
 refine ⟨rfl, ann150, noLoops, (.dat Ty.bool), (no_loops (by kernel_rfl)), ?_⟩
 ·rw [vc150]
  exact ⟨h_v, h⟩
def c184 : Con := ⟨[.lent TValue, .any], fun args hp K => args2 (fun a0 a1 => withB TValue a0 fun xs => withF 150 a1 (caps0 ((Sm TVS xs) ∧ K (dI (M.idx (t := TValue) (fun e => !M.valueOk e) xs)) []))) args hp, .plain, false⟩
@[reducible] def C184 : Ctx := cx [(150, c150)] 19 [] 0 false
def ann184 := an [[kp 3], [kp 387], [kp 899], [kp 419], [kp 65955], [kp 16], [kp 387], [kp 16]] [[kp 0]]
@[reducible] def s184_0 (xs : LV) (i0 : Int) (v0 : Unit) : St := ⟨[(0, .brw TValue xs), (1, .fn 150 []), (7, dI (xs.length : Int)), (8, dI i0)], []⟩
@[reducible] def LP184_0 (xs : LV) (m : Nat) (st_ : St) (K : KX) : Prop := True ∧ LoopI (s184_0 xs) Z0 (xs.length : Int) (F.IndexFunc_impl_RowOk_1_l0 xs) (fun v0 : Unit => True) (outD (fun v0 : Unit => True → K (.exit 0) (⟨[], []⟩ : St)) (fun q0 : Int => K .ret (⟨[(4, dI q0)], []⟩ : St))) m st_
def L184 (xs : LV) : Loops := lp1 0 (LP184_0 xs)
theorem vc184 (xs : LV) (K : KA) : vcT C184 (L184 xs) ann184 f184 [.brw TValue xs, .fn 150 []] [] (.dat TInt) K =
 (∃ m_, True ∧ LoopI (s184_0 xs) Z0 (xs.length : Int) (F.IndexFunc_impl_RowOk_1_l0 xs) (fun v0 : Unit => True) (outD (fun v0 : Unit => True → K (dI (-1 : Int)) []) (fun q0 : Int => K (dI q0) [])) m_ (s184_0 xs Z0 ())) := by kernel_rfl
theorem lvc184_0 (xs : LV)  (i0 : Int) (v0 : Unit) (m : Nat) (K : KX) : lvT C184 (L184 xs) ann184 f184 0 0 (s184_0 xs i0 v0) m K =
 (cond (decide (i0 < (xs.length : Int))) ((0 ≤ i0) ∧ (i0 < (xs.length : Int)) ∧ (Sm TValue (nV xs i0)) ∧ cond (!M.valueOk (nV xs i0)) (K .ret (⟨[(4, dI i0)], []⟩ : St)) (nxT (LP184_0 xs) m K (s184_0 xs (wrap64 (i0 + Z1)) ()))) (K (.exit 0) (⟨[], []⟩ : St))) := by kernel_rfl
theorem con184_ok : Con1 P 184 c184 := conR C184 func184 (kC con150_ok kN) fun args hp K h0 => by
 obtain ⟨a0, a1, rfl, rfl, h1⟩ := args2_elim h0
 obtain ⟨xs, rfl, h2⟩ := withB_elim h1
 obtain ⟨cs1, rfl, h3⟩ := withF_elim h2
 obtain ⟨rfl, h4⟩ := caps0_elim h3
 obtain ⟨h_xs, hK⟩ := h4
 have h : ok (F.IndexFunc_impl_RowOk_1 xs) (fun r => K (dI r) []) := ok_of_eq (F.IndexFunc_impl_RowOk_1_eq xs h_xs) hK
 refine ⟨rfl, ann184, (L184 xs), (.dat TInt), (loopsN1 (i0 := 0) (by kernel_rfl) ?_), ?_⟩
 ·rintro _ _ K ⟨hc0, i0, v0, rfl, hl0, rfl, hv0, h⟩
  exact cast (lvc184_0 _ _ _ _ _).symm (loopI_step h (fun ht0 h => ⟨hl0, ⟨ht0, ⟨(sm_nth h_xs i0), (oC h (fun _ h => h) fun _ h => (loopI_next (fun _ hm => ⟨hc0, hm⟩) _ rfl hl0 low0 ht0 (sm_len h_xs) trivial h))⟩⟩⟩) fun h => (h trivial))
 ·rw [vc184]
  exact (loopI_start (fun m hm => ⟨trivial, hm⟩) Z0 _ rfl (Int.natCast_nonneg 0) trivial (ok_then h (fun v0 h hv0 => h) (fun q0 h => h)))
def c149 : Con := ⟨[.lent TValue, .any], fun args hp K => args2 (fun a0 a1 => withB TValue a0 fun xs => withF 150 a1 (caps0 ((Sm TVS xs) ∧ K (dB (List.any xs (fun e => !M.valueOk e))) []))) args hp, .plain, false⟩
@[reducible] def C149 : Ctx := cx [(150, c150), (184, c184)] 9 [] 0 false
def ann149 := an [[kp 3], [kp 16]] []
theorem vc149 (xs : LV) (K : KA) : vcT C149 noLoops ann149 f149 [.brw TValue xs, .fn 150 []] [] (.dat Ty.bool) K =
 ((Sm TVS xs) ∧ K (dB (decide (Z0 ≤ (M.idx (t := TValue) (fun e => !M.valueOk e) xs)))) []) := by kernel_rfl
theorem con149_ok : Con1 P 149 c149 := conR C149 func149 (kC con150_ok (kC con184_ok kN)) fun args hp K h0 => by
 obtain ⟨a0, a1, rfl, rfl, h1⟩ := args2_elim h0
 obtain ⟨xs, rfl, h2⟩ := withB_elim h1
 obtain ⟨cs1, rfl, h3⟩ := withF_elim h2
 obtain ⟨rfl, h4⟩ := caps0_elim h3
 obtain ⟨h_xs, hK⟩ := h4
 have h : ok (F.ContainsFunc_impl_RowOk_1 xs) (fun r => K (dB r) []) := ok_of_eq (F.ContainsFunc_impl_RowOk_1_eq xs h_xs) hK
 refine ⟨rfl, ann149, noLoops, (.dat Ty.bool), (no_loops (by kernel_rfl)), ?_⟩
 ·rw [vc149]
  exact ⟨h_xs, h⟩
def c103 : Con := ⟨[.dat TVS], fun args hp K => g1 (pD TVS) (fun row => (Sm TVS row) ∧ K (dB (M.rowOk row)) []) args hp, .plain, false⟩
@[reducible] def C103 : Ctx := cx [(149, c149)] 11 [] 0 false
def ann103 := an [[kp 1], [kp 4]] []
theorem vc103 (row : LV) (K : KA) : vcT C103 noLoops ann103 f103 [.data TVS row] [] (.dat Ty.bool) K =
 (cond ((decide ((row.length : Int) ≤ Z4)) == true) ((Sm TVS row) ∧ K (dB (!(List.any row (fun e => !M.valueOk e)))) []) (K (dB false) [])) := by kernel_rfl
theorem con103_ok : Con1 P 103 c103 := conR C103 func103 (kC con149_ok kN) fun args hp K h0 => by
 obtain ⟨row, rfl, rfl, h_row, hK⟩ := g1e h0
 have h : ok (F.impl_RowOk row) (fun r => K (dB r) []) := ok_of_eq (F.impl_RowOk_eq row h_row) hK
 refine ⟨rfl, ann103, noLoops, (.dat Ty.bool), (no_loops (by kernel_rfl)), ?_⟩
 ·rw [vc103]
  exact (oC h (fun _ h => ⟨h_row, h⟩) fun _ h => h)
def c54 : Con := ⟨[.dat TCS, .dat TVS], fun args hp K => g2 (pD TCS) (pD TVS) (fun columns row => (Sm TCS columns) ∧ (Sm TVS row) ∧ K (dB (M.rowFits columns row)) []) args hp, .plain, false⟩
@[reducible] def C54 : Ctx := cx [(49, c49), (103, c103)] 51 [] 0 false
def ann54 := an [[kp 3], [kp 2097155], [kp 16], [kp 29360129], [kp 62914561], [.fixRow 6 TValue, kp 29360225], [kp 562949982781441], [kp 16], [kp 29360129], [kp 16]] [[kp 0]]
@[reducible] def s54_0 (columns : LC) (row : LV) (i0 : Int) (v0 : Unit) : St := ⟨[(0, .data TCS columns), (22, .data TVS row), (23, dI (row.length : Int)), (24, dI i0)], []⟩
@[reducible] def LP54_0 (columns : LC) (row : LV) (m : Nat) (st_ : St) (K : KX) : Prop := True ∧ LoopI (s54_0 columns row) Z0 (row.length : Int) (F.impl_RowFits_l0 columns row) (fun v0 : Unit => True) (outD (fun v0 : Unit => True → K (.exit 0) (⟨[], []⟩ : St)) (fun q0 : Unit => K .ret (⟨[(4, dB false)], []⟩ : St))) m st_
def L54 (columns : LC) (row : LV) : Loops := lp1 0 (LP54_0 columns row)
theorem vc54 (columns : LC) (row : LV) (K : KA) : vcT C54 (L54 columns row) ann54 f54 [.data TCS columns, .data TVS row] [] (.dat Ty.bool) K =
 ((Sm TCS columns) ∧ cond ((!(M.columnsOk columns)) == false) ((Sm TVS row) ∧ cond ((!(M.rowOk row)) == false) (cond (!decide ((row.length : Int) = (columns.length : Int))) (K (dB false) []) (∃ m_, True ∧ LoopI (s54_0 columns row) Z0 (row.length : Int) (F.impl_RowFits_l0 columns row) (fun v0 : Unit => True) (outD (fun v0 : Unit => True → K (dB true) []) (fun q0 : Unit => K (dB false) [])) m_ (s54_0 columns row Z0 ()))) (K (dB false) [])) (K (dB false) [])) := by kernel_rfl
theorem lvc54_0 (columns : LC) (row : LV)  (i0 : Int) (v0 : Unit) (m : Nat) (K : KX) : lvT C54 (L54 columns row) ann54 f54 0 0 (s54_0 columns row i0 v0) m K =
 (cond (decide (i0 < (row.length : Int))) ((0 ≤ i0) ∧ (i0 < (row.length : Int)) ∧ (0 ≤ i0) ∧ (i0 < (columns.length : Int)) ∧ cond ((!decide ((nV row i0).1 = (nC columns i0).1)) == true) (cond ((!decide ((nV row i0).1 = Z0)) == false) ((0 ≤ i0) ∧ (i0 < (columns.length : Int)) ∧ cond (!(nC columns i0).2.1) (K .ret (⟨[(4, dB false)], []⟩ : St)) (nxT (LP54_0 columns row) m K (s54_0 columns row (wrap64 (i0 + Z1)) ()))) (K .ret (⟨[(4, dB false)], []⟩ : St))) (nxT (LP54_0 columns row) m K (s54_0 columns row (wrap64 (i0 + Z1)) ()))) (K (.exit 0) (⟨[], []⟩ : St))) := by kernel_rfl
theorem con54_ok : Con1 P 54 c54 := conR C54 func54 (kC con49_ok (kC con103_ok kN)) fun args hp K h0 => by
 obtain ⟨columns, row, rfl, rfl, h_columns, h_row, hK⟩ := g2e h0
 have h : ok (F.impl_RowFits columns row) (fun r => K (dB r) []) := ok_of_eq (F.impl_RowFits_eq columns row h_columns h_row) hK
 refine ⟨rfl, ann54, (L54 columns row), (.dat Ty.bool), (loopsN1 (i0 := 0) (by kernel_rfl) ?_), ?_⟩
 ·rintro _ _ K ⟨hc0, i0, v0, rfl, hl0, rfl, hv0, h⟩
  exact cast (lvc54_0 _ _ _ _ _ _).symm (loopI_step h (fun ht0 h => ⟨hl0, ⟨ht0, ⟨hl0, (oG h fun g1 h => (oC h (fun _ h => (oC h (fun _ h => ⟨hl0, ⟨g1, (oC h (fun _ h => h) fun _ h => (loopI_next (fun _ hm => ⟨hc0, hm⟩) _ rfl hl0 low0 ht0 (sm_len h_row) trivial h))⟩⟩) fun _ h => h)) fun _ h => (loopI_next (fun _ hm => ⟨hc0, hm⟩) _ rfl hl0 low0 ht0 (sm_len h_row) trivial h)))⟩⟩⟩) fun h => (h trivial))
 ·rw [vc54]
  exact ⟨h_columns, (oC h (fun _ h => ⟨h_row, (oC h (fun _ h => (oC h (fun _ h => h) fun _ h => (loopI_start (fun m hm => ⟨trivial, hm⟩) Z0 _ rfl (Int.natCast_nonneg 0) trivial (ok_then h (fun v0 h hv0 => h) (fun q0 h => h))))) fun _ h => h)⟩) fun _ h => h)⟩
def c15 : Con := ⟨[.dat TCS, .dat TVS, .dat TPS], fun args hp K => g3 (pD TCS) (pD TVS) (pD TPS) (fun columns row e => (Sm TCS columns) ∧ (Sm TVS row) ∧ (Sm TPS e) ∧ (∀ r : TValue.D, r = (M.valueOn columns row e) → K (.data TValue r) [])) args hp, .plain, false⟩
@[reducible] def C15 : Ctx := cx [(13, c13), (44, c44), (54, c54)] 21 [] 0 false
def ann15 := an [[kp 71], [kp 65606], [kp 64], [kp 64]] []
theorem vc15 (columns : LC) (row : LV) (e : LPt) (K : KA) : vcT C15 noLoops ann15 f15 [.data TCS columns, .data TVS row, .data TPS e] [] (.dat TValue) K =
 ((Sm TCS columns) ∧ (Sm TPS e) ∧ cond ((decide ((M.exprKind columns e) < Z0)) == false) ((Sm TCS columns) ∧ (Sm TVS row) ∧ cond (!(M.rowFits columns row)) (K (.data TValue (Z0, (Z0, ((⟨#[]⟩ : ByteArray), ())))) []) ((Sm TVS row) ∧ (Sm TPS e) ∧ (M.exprSafe row.length e) ∧ (∀ r1 : TValue.D, r1 = (M.exprValue row e) → K (.data TValue r1) []))) (K (.data TValue (Z0, (Z0, ((⟨#[]⟩ : ByteArray), ())))) [])) := by kernel_rfl
theorem con15_ok : Con1 P 15 c15 := conR C15 func15 (kC con13_ok (kC con44_ok (kC con54_ok kN))) fun args hp K h0 => by
 obtain ⟨columns, row, e, rfl, rfl, h_columns, h_row, h_e, hK⟩ := g3e h0
 have h : ok (F.impl_ExprValue columns row e) (fun r => K (.data TValue r) []) := ok_of_eq (F.impl_ExprValue_eq columns row e h_columns h_row h_e) (hK _ rfl)
 refine ⟨rfl, ann15, noLoops, (.dat TValue), (no_loops (by kernel_rfl)), ?_⟩
 ·rw [vc15]
  exact ⟨h_columns, ⟨h_e, (oC h (fun _ h => ⟨h_columns, ⟨h_row, (oC h (fun _ h => h) fun _ h => ⟨h_row, ⟨h_e, (oG h fun _ h => (oL h fun _ _ h => h))⟩⟩)⟩⟩) fun _ h => h)⟩⟩
def c3 : Con := ⟨[.dat (Ty.sl (Ty.int .u8))], fun args hp K => g1 (pD (Ty.sl (Ty.int .u8))) (fun code => (Ln (Ty.sl (Ty.int .u8)) code) ∧ (M.bytesOk code) ∧ K (dB true) []) args hp, .plain, false⟩
@[reducible] def C3 : Ctx := cx [(9, c9), (10, c10), (11, c11), (12, c12), (13, c13), (14, c14), (15, c15)] 60 [] 0 true
def ann3 := an [[kp 1], [kp 513], [kp 4], [kp 56], [kp 120], [kp 16777336], [kp 4], [kp 134217848], [kp 4], [kp 4]] []
theorem vc3 (code : (List Int)) (K : KA) : vcT C3 noLoops ann3 f3 [.data (Ty.sl (Ty.int .u8)) code] [] (.dat Ty.bool) K =
 (cond (decide ((1048576 : Int) < (code.length : Int))) (K (dB true) []) ((Sm (Ty.sl (Ty.int .u8)) code) ∧ (M.bytesOk code) ∧ (∀ r1 : LC × LV × LPt, r1 = (M.DrawFoldedRow code) → (Sm TCS r1.1) ∧ (Sm TPS r1.2.2) ∧ (∀ r2 : LPt, r2 = (M.exprFolded r1.1 r1.2.2) → (Sm TCS r1.1) ∧ (Sm TPS r1.2.2) ∧ (∀ r3 : LPt, r3 = (M.exprFolded r1.1 r1.2.2) → (Sm TPS (cutList r2 (some (Z0, (r2.length : Int))))) ∧ (Sm TPS r3) ∧ ((cutList r2 (some (Z0, (r2.length : Int)))) = r3) ∧ cond (!true) (K (dB false) []) (cond (decide (((cutList r2 (some (Z0, (r2.length : Int)))).length : Int) = Z0)) ((Sm TCS r1.1) ∧ (Sm TPS r1.2.2) ∧ cond ((decide ((M.exprKind r1.1 r1.2.2) = (-1 : Int))) == true) (K (dB true) []) (K (dB false) [])) ((Sm TCS r1.1) ∧ (Sm TPS (cutList r2 (some (Z0, (r2.length : Int))))) ∧ (Sm TCS r1.1) ∧ (Sm TPS r1.2.2) ∧ cond ((decide ((M.exprKind r1.1 (cutList r2 (some (Z0, (r2.length : Int))))) = (M.exprKind r1.1 r1.2.2))) == true) (cond ((decide (((cutList r2 (some (Z0, (r2.length : Int)))).length : Int) ≤ (r1.2.2.length : Int))) == true) ((Sm TCS r1.1) ∧ (Sm TVS r1.2.1) ∧ (Sm TPS (cutList r2 (some (Z0, (r2.length : Int))))) ∧ (∀ r4 : TValue.D, r4 = (M.valueOn r1.1 r1.2.1 (cutList r2 (some (Z0, (r2.length : Int))))) → (Sm TCS r1.1) ∧ (Sm TVS r1.2.1) ∧ (Sm TPS r1.2.2) ∧ (∀ r5 : TValue.D, r5 = (M.valueOn r1.1 r1.2.1 r1.2.2) → K (dB (Ty.beq TValue r4 r5)) []))) (K (dB false) [])) (K (dB false) [])))))))) := by kernel_rfl
theorem con3_ok : Con1 P 3 c3 := conR C3 func3 (kC con9_ok (kC con10_ok (kC con11_ok (kC con12_ok (kC con13_ok (kC con14_ok (kC con15_ok kN))))))) fun args hp K h0 => by
 obtain ⟨code, rfl, rfl, h_code, p0, hK⟩ := g1e h0
 have h : ok (F.laws_FnExprFolded code) (fun r => K (dB r) []) := ok_of_eq (F.laws_FnExprFolded_eq code h_code p0) hK
 refine ⟨rfl, ann3, noLoops, (.dat Ty.bool), (no_loops (by kernel_rfl)), ?_⟩
 ·rw [vc3]
  exact (oC h (fun _ h => h) fun _ h => (oG h fun _ h => ⟨p0, (oL h fun _ _ h => (oG h fun g1 h => (oG h fun g2 h => (oL h fun _ _ h => ⟨g1, ⟨g2, (oL h fun _ _ h => (oG h fun g3 h => (oG h fun _ h => (oG h fun _ h => (oC h (fun _ h => h) fun _ h => (oC h (fun _ h => ⟨g1, ⟨g2, (oC h (fun _ h => h) fun _ h => h)⟩⟩) fun _ h => ⟨g1, ⟨g3, ⟨g1, ⟨g2, (oC h (fun _ h => (oC h (fun _ h => ⟨g1, (oG h fun g4 h => ⟨g3, (oL h fun _ _ h => ⟨g1, ⟨g4, ⟨g2, (oL h fun _ _ h => h)⟩⟩⟩)⟩)⟩) fun _ h => h)) fun _ h => h)⟩⟩⟩⟩))))))⟩⟩))))⟩))
end Go.AE
