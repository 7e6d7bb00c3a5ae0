/- Contracts. -/
import Derived.Test.YtckamkecfekneaaGreatAeSeat
import Derived.Test.YtckamkecfekneaaGreatAeEq
namespace Go.AE
open Go Go.RowKit Go.Proofs.Tryz
set_option maxRecDepth 100000
set_option maxHeartbeats 2000000
set_option linter.unusedVariables false
def c60 : Con := ⟨[.dat TCS, .dat TInt], fun args hp K => g2 (pD TCS) (pD TInt) (fun x left => (Ln TCS x) ∧ (0 ≤ left) ∧ (left ≤ 1048576) ∧ K (dI (M.szLen x.length left)) []) args hp, .plain⟩
@[reducible] def C60 : Ctx := cx [] 12 [] 0 false
def ann60 := an [[kp 3], [kp 2], [kp 1026], [kp 16], [kp 16]] []
theorem vc60 (x : LC) (left : Int) (K : KA) : vcT C60 noLoops ann60 f60 [.data TCS x, dI left] [] (.dat TInt) K =
 (cond (decide (wrap64 (left - (x.length : Int)) < Z0)) (K (dI (-1 : Int)) []) (K (dI (wrap64 (left - (x.length : Int)))) [])) := by kernel_rfl
theorem con60_ok : Con1 P 60 c60 := conR C60 func60 kN fun args hp K h0 => by
 obtain ⟨x, left, rfl, rfl, h_x, p0, p1, hK⟩ := g2e h0
 have h : ok (F.laws_szColumnS x left) (fun r => K (dI r) []) := ok_of_eq (F.laws_szColumnS_eq x left h_x p0 p1) hK
 refine ⟨rfl, ann60, noLoops, (.dat TInt), (no_loops (by kernel_rfl)), ?_⟩
 ·rw [vc60]
  exact (oC h (fun _ h => h) fun _ h => h)
def c129 : Con := ⟨[.dat TValue, .dat TInt], fun args hp K => g2 (pD TValue) (pD TInt) (fun x left => (Ln TValue x) ∧ (0 ≤ left) ∧ (left ≤ 1048576) ∧ K (dI (M.szValue x left)) []) args hp, .plain⟩
@[reducible] def C129 : Ctx := cx [] 13 [] 0 false
def ann129 := an [[.fixRow 2 TValue, kp 6], [kp 2], [kp 2050], [kp 16], [kp 16]] []
theorem vc129 (x : TValue.D) (left : Int) (K : KA) : vcT C129 noLoops ann129 f129 [.data TValue x, dI left] [] (.dat TInt) K =
 (cond (decide (wrap64 (left - (x.2.2.1.size : Int)) < Z0)) (K (dI (-1 : Int)) []) (K (dI (wrap64 (left - (x.2.2.1.size : Int)))) [])) := by kernel_rfl
theorem con129_ok : Con1 P 129 c129 := conR C129 func129 kN fun args hp K h0 => by
 obtain ⟨x, left, rfl, rfl, h_x, p0, p1, hK⟩ := g2e h0
 have h : ok (F.laws_szValue x left) (fun r => K (dI r) []) := ok_of_eq (F.laws_szValue_eq x left h_x p0 p1) hK
 refine ⟨rfl, ann129, noLoops, (.dat TInt), (no_loops (by kernel_rfl)), ?_⟩
 ·rw [vc129]
  exact (oC h (fun _ h => h) fun _ h => h)
def c90 : Con := ⟨[.dat TVS, .dat TInt], fun args hp K => g2 (pD TVS) (pD TInt) (fun x left => (Ln TVS x) ∧ (0 ≤ left) ∧ (left ≤ 1048576) ∧ K (dI (M.szS M.szValue x left)) []) args hp, .plain⟩
@[reducible] def C90 : Ctx := cx [(129, c129)] 27 [] 0 false
def ann90 := an [[kp 3], [kp 3], [kp 2051], [kp 16], [kp 35], [kp 32803], [kp 35], [kp 35], [kp 33554467], [kp 16], [kp 16]] [[kp 2]]
@[reducible] def s90_0 (x : LV) (left : Int) (i0 : Int) (v0 : Int) : St := ⟨[(0, .data TVS x), (1, dI v0), (5, dI i0)], []⟩
@[reducible] def LP90_0 (x : LV) (left : Int) (m : Nat) (st_ : St) (K : KX) : Prop := True ∧ LoopE (t := TValue) (s90_0 x left) x (F.laws_szValueS_l0 x left) (fun v0 : Int => True) (outD (fun v0 : Int => True → K (.exit 0) (⟨[(1, dI v0)], []⟩ : St)) (fun q0 : Unit => K .ret (⟨[(4, dI (-1 : Int))], []⟩ : St))) m st_
def L90 (x : LV) (left : Int) : Loops := lp1 0 (LP90_0 x left)
theorem vc90 (x : LV) (left : Int) (K : KA) : vcT C90 (L90 x left) ann90 f90 [.data TVS x, dI left] [] (.dat TInt) K =
 (cond (decide (wrap64 (left - (x.length : Int)) < Z0)) (K (dI (-1 : Int)) []) (∃ m_, True ∧ LoopE (t := TValue) (s90_0 x left) x (F.laws_szValueS_l0 x left) (fun v0 : Int => True) (outD (fun v0 : Int => True → K (dI v0) []) (fun q0 : Unit => K (dI (-1 : Int)) [])) m_ (s90_0 x left Z0 (wrap64 (left - (x.length : Int)))))) := by kernel_rfl
theorem lvc90_0 (x : LV) (left : Int)  (i0 : Int) (v0 : Int) (m : Nat) (K : KX) : lvT C90 (L90 x left) ann90 f90 0 0 (s90_0 x left i0 v0) m K =
 (cond (decide (i0 < (x.length : Int))) ((0 ≤ i0) ∧ (i0 < (x.length : Int)) ∧ (Ln TValue (nV x i0)) ∧ (0 ≤ v0) ∧ (v0 ≤ 1048576) ∧ cond (decide ((M.szValue (nV x i0) v0) < Z0)) (K .ret (⟨[(4, dI (-1 : Int))], []⟩ : St)) (nxT (LP90_0 x left) m K (s90_0 x left (wrap64 (i0 + Z1)) (M.szValue (nV x i0) v0)))) (K (.exit 0) (⟨[(1, dI v0)], []⟩ : St))) := by kernel_rfl
theorem con90_ok : Con1 P 90 c90 := conR C90 func90 (kC con129_ok kN) fun args hp K h0 => by
 obtain ⟨x, left, rfl, rfl, h_x, p0, p1, hK⟩ := g2e h0
 have h : ok (F.laws_szValueS x left) (fun r => K (dI r) []) := ok_of_eq (F.laws_szValueS_eq x left h_x p0 p1) hK
 refine ⟨rfl, ann90, (L90 x left), (.dat TInt), (loopsN1 (i0 := 0) (by kernel_rfl) ?_), ?_⟩
 ·rintro _ _ K ⟨hc0, i0, v0, rfl, hl0, rfl, hv0, h⟩
  exact cast (lvc90_0 _ _ _ _ _ _).symm (loopE_step (t := TValue) hl0 h (fun ht0 h => ⟨hl0, ⟨ht0, ⟨(sm_nth h_x i0), (oG h fun _ h => (oG h fun _ h => (oC h (fun _ h => h) fun _ h => (loopE_next (t := TValue) (fun _ hm => ⟨hc0, hm⟩) _ rfl hl0 ht0 (sm_len h_x) trivial h))))⟩⟩⟩) fun h => (h trivial))
 ·rw [vc90]
  exact (oC h (fun _ h => h) fun _ h => (loopE_start (t := TValue) (fun m hm => ⟨trivial, hm⟩) _ rfl trivial (ok_then h (fun v0 h hv0 => h) (fun q0 h => h))))
def c61 : Con := ⟨[.dat (Ty.sl TVS), .dat TInt], fun args hp K => g2 (pD (Ty.sl TVS)) (pD TInt) (fun x left => (Ln (Ty.sl TVS) x) ∧ (0 ≤ left) ∧ (left ≤ 1048576) ∧ K (dI (M.szS (M.szS M.szValue) x left)) []) args hp, .plain⟩
@[reducible] def C61 : Ctx := cx [(90, c90)] 27 [] 0 false
def ann61 := an [[kp 3], [kp 3], [kp 2051], [kp 16], [kp 35], [kp 32803], [kp 35], [kp 35], [kp 33554467], [kp 16], [kp 16]] [[kp 2]]
@[reducible] def s61_0 (x : (List LV)) (left : Int) (i0 : Int) (v0 : Int) : St := ⟨[(0, .data (Ty.sl TVS) x), (1, dI v0), (5, dI i0)], []⟩
@[reducible] def LP61_0 (x : (List LV)) (left : Int) (m : Nat) (st_ : St) (K : KX) : Prop := True ∧ LoopE (t := TVS) (s61_0 x left) x (F.laws_szValueSS_l0 x left) (fun v0 : Int => True) (outD (fun v0 : Int => True → K (.exit 0) (⟨[(1, dI v0)], []⟩ : St)) (fun q0 : Unit => K .ret (⟨[(4, dI (-1 : Int))], []⟩ : St))) m st_
def L61 (x : (List LV)) (left : Int) : Loops := lp1 0 (LP61_0 x left)
theorem vc61 (x : (List LV)) (left : Int) (K : KA) : vcT C61 (L61 x left) ann61 f61 [.data (Ty.sl TVS) x, dI left] [] (.dat TInt) K =
 (cond (decide (wrap64 (left - (x.length : Int)) < Z0)) (K (dI (-1 : Int)) []) (∃ m_, True ∧ LoopE (t := TVS) (s61_0 x left) x (F.laws_szValueSS_l0 x left) (fun v0 : Int => True) (outD (fun v0 : Int => True → K (dI v0) []) (fun q0 : Unit => K (dI (-1 : Int)) [])) m_ (s61_0 x left Z0 (wrap64 (left - (x.length : Int)))))) := by kernel_rfl
theorem lvc61_0 (x : (List LV)) (left : Int)  (i0 : Int) (v0 : Int) (m : Nat) (K : KX) : lvT C61 (L61 x left) ann61 f61 0 0 (s61_0 x left i0 v0) m K =
 (cond (decide (i0 < (x.length : Int))) ((0 ≤ i0) ∧ (i0 < (x.length : Int)) ∧ (Ln TVS (nth (t := TVS) x i0)) ∧ (0 ≤ v0) ∧ (v0 ≤ 1048576) ∧ cond (decide ((M.szS M.szValue (nth (t := TVS) x i0) v0) < Z0)) (K .ret (⟨[(4, dI (-1 : Int))], []⟩ : St)) (nxT (LP61_0 x left) m K (s61_0 x left (wrap64 (i0 + Z1)) (M.szS M.szValue (nth (t := TVS) x i0) v0)))) (K (.exit 0) (⟨[(1, dI v0)], []⟩ : St))) := by kernel_rfl
theorem con61_ok : Con1 P 61 c61 := conR C61 func61 (kC con90_ok kN) fun args hp K h0 => by
 obtain ⟨x, left, rfl, rfl, h_x, p0, p1, hK⟩ := g2e h0
 have h : ok (F.laws_szValueSS x left) (fun r => K (dI r) []) := ok_of_eq (F.laws_szValueSS_eq x left h_x p0 p1) hK
 refine ⟨rfl, ann61, (L61 x left), (.dat TInt), (loopsN1 (i0 := 0) (by kernel_rfl) ?_), ?_⟩
 ·rintro _ _ K ⟨hc0, i0, v0, rfl, hl0, rfl, hv0, h⟩
  exact cast (lvc61_0 _ _ _ _ _ _).symm (loopE_step (t := TVS) hl0 h (fun ht0 h => ⟨hl0, ⟨ht0, ⟨(sm_nth h_x i0), (oG h fun _ h => (oG h fun _ h => (oC h (fun _ h => h) fun _ h => (loopE_next (t := TVS) (fun _ hm => ⟨hc0, hm⟩) _ rfl hl0 ht0 (sm_len h_x) trivial h))))⟩⟩⟩) fun h => (h trivial))
 ·rw [vc61]
  exact (oC h (fun _ h => h) fun _ h => (loopE_start (t := TVS) (fun m hm => ⟨trivial, hm⟩) _ rfl trivial (ok_then h (fun v0 h hv0 => h) (fun q0 h => h))))
def c30 : Con := ⟨[.dat TTable, .dat TInt], fun args hp K => g2 (pD TTable) (pD TInt) (fun x left => (Ln TTable x) ∧ (0 ≤ left) ∧ (left ≤ 1048576) ∧ K (dI (M.szTable x left)) []) args hp, .plain⟩
@[reducible] def C30 : Ctx := cx [(60, c60), (61, c61)] 18 [] 0 false
def ann30 := an [[.fixRow 2 TTable, kp 6], [kp 6], [kp 1030], [kp 16], [kp 2], [kp 65538], [kp 16], [kp 16]] []
theorem vc30 (x : TTable.D) (left : Int) (K : KA) : vcT C30 noLoops ann30 f30 [.data TTable x, dI left] [] (.dat TInt) K =
 ((Ln TCS x.1) ∧ (0 ≤ left) ∧ (left ≤ 1048576) ∧ cond (decide ((M.szLen x.1.length left) < Z0)) (K (dI (-1 : Int)) []) ((Ln (Ty.sl TVS) x.2.1) ∧ (0 ≤ (M.szLen x.1.length left)) ∧ ((M.szLen x.1.length left) ≤ 1048576) ∧ cond (decide ((M.szS (M.szS M.szValue) x.2.1 (M.szLen x.1.length left)) < Z0)) (K (dI (-1 : Int)) []) (K (dI (M.szS (M.szS M.szValue) x.2.1 (M.szLen x.1.length left))) []))) := by kernel_rfl
theorem con30_ok : Con1 P 30 c30 := conR C30 func30 (kC con60_ok (kC con61_ok kN)) fun args hp K h0 => by
 obtain ⟨x, left, rfl, rfl, h_x, p0, p1, hK⟩ := g2e h0
 have h : ok (F.laws_szTable x left) (fun r => K (dI r) []) := ok_of_eq (F.laws_szTable_eq x left h_x p0 p1) hK
 refine ⟨rfl, ann30, noLoops, (.dat TInt), (no_loops (by kernel_rfl)), ?_⟩
 ·rw [vc30]
  exact ⟨h_x.1, ⟨p0, ⟨p1, (oC h (fun _ h => h) fun _ h => ⟨h_x.2.1, (oG h fun _ h => (oG h fun _ h => (oC h (fun _ h => h) fun _ h => h)))⟩)⟩⟩⟩
def c7 : Con := ⟨[.dat TTb, .dat TInt], fun args hp K => g2 (pD TTb) (pD TInt) (fun x left => (Ln TTb x) ∧ (0 ≤ left) ∧ (left ≤ 1048576) ∧ K (dI (M.szS M.szTable x left)) []) args hp, .plain⟩
@[reducible] def C7 : Ctx := cx [(30, c30)] 27 [] 0 false
def ann7 := an [[kp 3], [kp 3], [kp 2051], [kp 16], [kp 35], [kp 32803], [kp 35], [kp 35], [kp 33554467], [kp 16], [kp 16]] [[kp 2]]
@[reducible] def s7_0 (x : LTb) (left : Int) (i0 : Int) (v0 : Int) : St := ⟨[(0, .data TTb x), (1, dI v0), (5, dI i0)], []⟩
@[reducible] def LP7_0 (x : LTb) (left : Int) (m : Nat) (st_ : St) (K : KX) : Prop := True ∧ LoopE (t := TTable) (s7_0 x left) x (F.laws_szTableS_l0 x left) (fun v0 : Int => True) (outD (fun v0 : Int => True → K (.exit 0) (⟨[(1, dI v0)], []⟩ : St)) (fun q0 : Unit => K .ret (⟨[(4, dI (-1 : Int))], []⟩ : St))) m st_
def L7 (x : LTb) (left : Int) : Loops := lp1 0 (LP7_0 x left)
theorem vc7 (x : LTb) (left : Int) (K : KA) : vcT C7 (L7 x left) ann7 f7 [.data TTb x, dI left] [] (.dat TInt) K =
 (cond (decide (wrap64 (left - (x.length : Int)) < Z0)) (K (dI (-1 : Int)) []) (∃ m_, True ∧ LoopE (t := TTable) (s7_0 x left) x (F.laws_szTableS_l0 x left) (fun v0 : Int => True) (outD (fun v0 : Int => True → K (dI v0) []) (fun q0 : Unit => K (dI (-1 : Int)) [])) m_ (s7_0 x left Z0 (wrap64 (left - (x.length : Int)))))) := by kernel_rfl
theorem lvc7_0 (x : LTb) (left : Int)  (i0 : Int) (v0 : Int) (m : Nat) (K : KX) : lvT C7 (L7 x left) ann7 f7 0 0 (s7_0 x left i0 v0) m K =
 (cond (decide (i0 < (x.length : Int))) ((0 ≤ i0) ∧ (i0 < (x.length : Int)) ∧ (Ln TTable (nT x i0)) ∧ (0 ≤ v0) ∧ (v0 ≤ 1048576) ∧ cond (decide ((M.szTable (nT x i0) v0) < Z0)) (K .ret (⟨[(4, dI (-1 : Int))], []⟩ : St)) (nxT (LP7_0 x left) m K (s7_0 x left (wrap64 (i0 + Z1)) (M.szTable (nT x i0) v0)))) (K (.exit 0) (⟨[(1, dI v0)], []⟩ : St))) := by kernel_rfl
theorem con7_ok : Con1 P 7 c7 := conR C7 func7 (kC con30_ok kN) fun args hp K h0 => by
 obtain ⟨x, left, rfl, rfl, h_x, p0, p1, hK⟩ := g2e h0
 have h : ok (F.laws_szTableS x left) (fun r => K (dI r) []) := ok_of_eq (F.laws_szTableS_eq x left h_x p0 p1) hK
 refine ⟨rfl, ann7, (L7 x left), (.dat TInt), (loopsN1 (i0 := 0) (by kernel_rfl) ?_), ?_⟩
 ·rintro _ _ K ⟨hc0, i0, v0, rfl, hl0, rfl, hv0, h⟩
  exact cast (lvc7_0 _ _ _ _ _ _).symm (loopE_step (t := TTable) hl0 h (fun ht0 h => ⟨hl0, ⟨ht0, ⟨(sm_nth h_x i0), (oG h fun _ h => (oG h fun _ h => (oC h (fun _ h => h) fun _ h => (loopE_next (t := TTable) (fun _ hm => ⟨hc0, hm⟩) _ rfl hl0 ht0 (sm_len h_x) trivial h))))⟩⟩⟩) fun h => (h trivial))
 ·rw [vc7]
  exact (oC h (fun _ h => h) fun _ h => (loopE_start (t := TTable) (fun m hm => ⟨trivial, hm⟩) _ rfl trivial (ok_then h (fun v0 h hv0 => h) (fun q0 h => h))))
def c91 : Con := ⟨[.dat TPart, .dat TInt], fun args hp K => g2 (pD TPart) (pD TInt) (fun x left => (Ln TPart x) ∧ (0 ≤ left) ∧ (left ≤ 1048576) ∧ K (dI (M.szPart x left)) []) args hp, .plain⟩
@[reducible] def C91 : Ctx := cx [(129, c129)] 12 [] 0 false
def ann91 := an [[.fixRow 2 TPart, kp 6], [kp 2], [kp 1026], [kp 16], [kp 16]] []
theorem vc91 (x : TPart.D) (left : Int) (K : KA) : vcT C91 noLoops ann91 f91 [.data TPart x, dI left] [] (.dat TInt) K =
 ((Ln TValue x.2.2.1) ∧ (0 ≤ left) ∧ (left ≤ 1048576) ∧ cond (decide ((M.szValue x.2.2.1 left) < Z0)) (K (dI (-1 : Int)) []) (K (dI (M.szValue x.2.2.1 left)) [])) := by kernel_rfl
theorem con91_ok : Con1 P 91 c91 := conR C91 func91 (kC con129_ok kN) fun args hp K h0 => by
 obtain ⟨x, left, rfl, rfl, h_x, p0, p1, hK⟩ := g2e h0
 have h : ok (F.laws_szPart x left) (fun r => K (dI r) []) := ok_of_eq (F.laws_szPart_eq x left h_x p0 p1) hK
 refine ⟨rfl, ann91, noLoops, (.dat TInt), (no_loops (by kernel_rfl)), ?_⟩
 ·rw [vc91]
  exact ⟨h_x.2.2.1, ⟨p0, ⟨p1, (oC h (fun _ h => h) fun _ h => h)⟩⟩⟩
def c62 : Con := ⟨[.dat TPS, .dat TInt], fun args hp K => g2 (pD TPS) (pD TInt) (fun x left => (Ln TPS x) ∧ (0 ≤ left) ∧ (left ≤ 1048576) ∧ K (dI (M.szS M.szPart x left)) []) args hp, .plain⟩
@[reducible] def C62 : Ctx := cx [(91, c91)] 27 [] 0 false
def ann62 := an [[kp 3], [kp 3], [kp 2051], [kp 16], [kp 35], [kp 32803], [kp 35], [kp 35], [kp 33554467], [kp 16], [kp 16]] [[kp 2]]
@[reducible] def s62_0 (x : LPt) (left : Int) (i0 : Int) (v0 : Int) : St := ⟨[(0, .data TPS x), (1, dI v0), (5, dI i0)], []⟩
@[reducible] def LP62_0 (x : LPt) (left : Int) (m : Nat) (st_ : St) (K : KX) : Prop := True ∧ LoopE (t := TPart) (s62_0 x left) x (F.laws_szPartS_l0 x left) (fun v0 : Int => True) (outD (fun v0 : Int => True → K (.exit 0) (⟨[(1, dI v0)], []⟩ : St)) (fun q0 : Unit => K .ret (⟨[(4, dI (-1 : Int))], []⟩ : St))) m st_
def L62 (x : LPt) (left : Int) : Loops := lp1 0 (LP62_0 x left)
theorem vc62 (x : LPt) (left : Int) (K : KA) : vcT C62 (L62 x left) ann62 f62 [.data TPS x, dI left] [] (.dat TInt) K =
 (cond (decide (wrap64 (left - (x.length : Int)) < Z0)) (K (dI (-1 : Int)) []) (∃ m_, True ∧ LoopE (t := TPart) (s62_0 x left) x (F.laws_szPartS_l0 x left) (fun v0 : Int => True) (outD (fun v0 : Int => True → K (dI v0) []) (fun q0 : Unit => K (dI (-1 : Int)) [])) m_ (s62_0 x left Z0 (wrap64 (left - (x.length : Int)))))) := by kernel_rfl
theorem lvc62_0 (x : LPt) (left : Int)  (i0 : Int) (v0 : Int) (m : Nat) (K : KX) : lvT C62 (L62 x left) ann62 f62 0 0 (s62_0 x left i0 v0) m K =
 (cond (decide (i0 < (x.length : Int))) ((0 ≤ i0) ∧ (i0 < (x.length : Int)) ∧ (Ln TPart (nP x i0)) ∧ (0 ≤ v0) ∧ (v0 ≤ 1048576) ∧ cond (decide ((M.szPart (nP x i0) v0) < Z0)) (K .ret (⟨[(4, dI (-1 : Int))], []⟩ : St)) (nxT (LP62_0 x left) m K (s62_0 x left (wrap64 (i0 + Z1)) (M.szPart (nP x i0) v0)))) (K (.exit 0) (⟨[(1, dI v0)], []⟩ : St))) := by kernel_rfl
theorem con62_ok : Con1 P 62 c62 := conR C62 func62 (kC con91_ok kN) fun args hp K h0 => by
 obtain ⟨x, left, rfl, rfl, h_x, p0, p1, hK⟩ := g2e h0
 have h : ok (F.laws_szPartS x left) (fun r => K (dI r) []) := ok_of_eq (F.laws_szPartS_eq x left h_x p0 p1) hK
 refine ⟨rfl, ann62, (L62 x left), (.dat TInt), (loopsN1 (i0 := 0) (by kernel_rfl) ?_), ?_⟩
 ·rintro _ _ K ⟨hc0, i0, v0, rfl, hl0, rfl, hv0, h⟩
  exact cast (lvc62_0 _ _ _ _ _ _).symm (loopE_step (t := TPart) hl0 h (fun ht0 h => ⟨hl0, ⟨ht0, ⟨(sm_nth h_x i0), (oG h fun _ h => (oG h fun _ h => (oC h (fun _ h => h) fun _ h => (loopE_next (t := TPart) (fun _ hm => ⟨hc0, hm⟩) _ rfl hl0 ht0 (sm_len h_x) trivial h))))⟩⟩⟩) fun h => (h trivial))
 ·rw [vc62]
  exact (oC h (fun _ h => h) fun _ h => (loopE_start (t := TPart) (fun m hm => ⟨trivial, hm⟩) _ rfl trivial (ok_then h (fun v0 h hv0 => h) (fun q0 h => h))))
def c63 : Con := ⟨[.dat (Ty.sl TInt), .dat TInt], fun args hp K => g2 (pD (Ty.sl TInt)) (pD TInt) (fun x left => (Ln (Ty.sl TInt) x) ∧ (0 ≤ left) ∧ (left ≤ 1048576) ∧ K (dI (M.szLen x.length left)) []) args hp, .plain⟩
@[reducible] def C63 : Ctx := cx [] 12 [] 0 false
def ann63 := an [[kp 3], [kp 2], [kp 1026], [kp 16], [kp 16]] []
theorem vc63 (x : (List Int)) (left : Int) (K : KA) : vcT C63 noLoops ann63 f63 [.data (Ty.sl TInt) x, dI left] [] (.dat TInt) K =
 (cond (decide (wrap64 (left - (x.length : Int)) < Z0)) (K (dI (-1 : Int)) []) (K (dI (wrap64 (left - (x.length : Int)))) [])) := by kernel_rfl
theorem con63_ok : Con1 P 63 c63 := conR C63 func63 kN fun args hp K h0 => by
 obtain ⟨x, left, rfl, rfl, h_x, p0, p1, hK⟩ := g2e h0
 have h : ok (F.laws_szIntS x left) (fun r => K (dI r) []) := ok_of_eq (F.laws_szIntS_eq x left h_x p0 p1) hK
 refine ⟨rfl, ann63, noLoops, (.dat TInt), (no_loops (by kernel_rfl)), ?_⟩
 ·rw [vc63]
  exact (oC h (fun _ h => h) fun _ h => h)
def c31 : Con := ⟨[.dat TStep, .dat TInt], fun args hp K => g2 (pD TStep) (pD TInt) (fun x left => (Ln TStep x) ∧ (0 ≤ left) ∧ (left ≤ 1048576) ∧ K (dI (M.szStep x left)) []) args hp, .plain⟩
@[reducible] def C31 : Ctx := cx [(62, c62), (63, c63)] 18 [] 0 false
def ann31 := an [[.fixRow 2 TStep, kp 6], [kp 6], [kp 1030], [kp 16], [kp 2], [kp 65538], [kp 16], [kp 16]] []
theorem vc31 (x : TStep.D) (left : Int) (K : KA) : vcT C31 noLoops ann31 f31 [.data TStep x, dI left] [] (.dat TInt) K =
 ((Ln TPS x.2.2.2.2.1) ∧ (0 ≤ left) ∧ (left ≤ 1048576) ∧ cond (decide ((M.szS M.szPart x.2.2.2.2.1 left) < Z0)) (K (dI (-1 : Int)) []) ((Ln (Ty.sl TInt) x.2.2.2.2.2.1) ∧ (0 ≤ (M.szS M.szPart x.2.2.2.2.1 left)) ∧ ((M.szS M.szPart x.2.2.2.2.1 left) ≤ 1048576) ∧ cond (decide ((M.szLen x.2.2.2.2.2.1.length (M.szS M.szPart x.2.2.2.2.1 left)) < Z0)) (K (dI (-1 : Int)) []) (K (dI (M.szLen x.2.2.2.2.2.1.length (M.szS M.szPart x.2.2.2.2.1 left))) []))) := by kernel_rfl
theorem con31_ok : Con1 P 31 c31 := conR C31 func31 (kC con62_ok (kC con63_ok kN)) fun args hp K h0 => by
 obtain ⟨x, left, rfl, rfl, h_x, p0, p1, hK⟩ := g2e h0
 have h : ok (F.laws_szStep x left) (fun r => K (dI r) []) := ok_of_eq (F.laws_szStep_eq x left h_x p0 p1) hK
 refine ⟨rfl, ann31, noLoops, (.dat TInt), (no_loops (by kernel_rfl)), ?_⟩
 ·rw [vc31]
  exact ⟨h_x.2.2.2.2.1, ⟨p0, ⟨p1, (oC h (fun _ h => h) fun _ h => ⟨h_x.2.2.2.2.2.1, (oG h fun _ h => (oG h fun _ h => (oC h (fun _ h => h) fun _ h => h)))⟩)⟩⟩⟩
def c8 : Con := ⟨[.dat TSS, .dat TInt], fun args hp K => g2 (pD TSS) (pD TInt) (fun x left => (Ln TSS x) ∧ (0 ≤ left) ∧ (left ≤ 1048576) ∧ K (dI (M.szS M.szStep x left)) []) args hp, .plain⟩
@[reducible] def C8 : Ctx := cx [(31, c31)] 27 [] 0 false
def ann8 := an [[kp 3], [kp 3], [kp 2051], [kp 16], [kp 35], [kp 32803], [kp 35], [kp 35], [kp 33554467], [kp 16], [kp 16]] [[kp 2]]
@[reducible] def s8_0 (x : LS) (left : Int) (i0 : Int) (v0 : Int) : St := ⟨[(0, .data TSS x), (1, dI v0), (5, dI i0)], []⟩
@[reducible] def LP8_0 (x : LS) (left : Int) (m : Nat) (st_ : St) (K : KX) : Prop := True ∧ LoopE (t := TStep) (s8_0 x left) x (F.laws_szStepS_l0 x left) (fun v0 : Int => True) (outD (fun v0 : Int => True → K (.exit 0) (⟨[(1, dI v0)], []⟩ : St)) (fun q0 : Unit => K .ret (⟨[(4, dI (-1 : Int))], []⟩ : St))) m st_
def L8 (x : LS) (left : Int) : Loops := lp1 0 (LP8_0 x left)
theorem vc8 (x : LS) (left : Int) (K : KA) : vcT C8 (L8 x left) ann8 f8 [.data TSS x, dI left] [] (.dat TInt) K =
 (cond (decide (wrap64 (left - (x.length : Int)) < Z0)) (K (dI (-1 : Int)) []) (∃ m_, True ∧ LoopE (t := TStep) (s8_0 x left) x (F.laws_szStepS_l0 x left) (fun v0 : Int => True) (outD (fun v0 : Int => True → K (dI v0) []) (fun q0 : Unit => K (dI (-1 : Int)) [])) m_ (s8_0 x left Z0 (wrap64 (left - (x.length : Int)))))) := by kernel_rfl
theorem lvc8_0 (x : LS) (left : Int)  (i0 : Int) (v0 : Int) (m : Nat) (K : KX) : lvT C8 (L8 x left) ann8 f8 0 0 (s8_0 x left i0 v0) m K =
 (cond (decide (i0 < (x.length : Int))) ((0 ≤ i0) ∧ (i0 < (x.length : Int)) ∧ (Ln TStep (nS x i0)) ∧ (0 ≤ v0) ∧ (v0 ≤ 1048576) ∧ cond (decide ((M.szStep (nS x i0) v0) < Z0)) (K .ret (⟨[(4, dI (-1 : Int))], []⟩ : St)) (nxT (LP8_0 x left) m K (s8_0 x left (wrap64 (i0 + Z1)) (M.szStep (nS x i0) v0)))) (K (.exit 0) (⟨[(1, dI v0)], []⟩ : St))) := by kernel_rfl
theorem con8_ok : Con1 P 8 c8 := conR C8 func8 (kC con31_ok kN) fun args hp K h0 => by
 obtain ⟨x, left, rfl, rfl, h_x, p0, p1, hK⟩ := g2e h0
 have h : ok (F.laws_szStepS x left) (fun r => K (dI r) []) := ok_of_eq (F.laws_szStepS_eq x left h_x p0 p1) hK
 refine ⟨rfl, ann8, (L8 x left), (.dat TInt), (loopsN1 (i0 := 0) (by kernel_rfl) ?_), ?_⟩
 ·rintro _ _ K ⟨hc0, i0, v0, rfl, hl0, rfl, hv0, h⟩
  exact cast (lvc8_0 _ _ _ _ _ _).symm (loopE_step (t := TStep) hl0 h (fun ht0 h => ⟨hl0, ⟨ht0, ⟨(sm_nth h_x i0), (oG h fun _ h => (oG h fun _ h => (oC h (fun _ h => h) fun _ h => (loopE_next (t := TStep) (fun _ hm => ⟨hc0, hm⟩) _ rfl hl0 ht0 (sm_len h_x) trivial h))))⟩⟩⟩) fun h => (h trivial))
 ·rw [vc8]
  exact (oC h (fun _ h => h) fun _ h => (loopE_start (t := TStep) (fun m hm => ⟨trivial, hm⟩) _ rfl trivial (ok_then h (fun v0 h hv0 => h) (fun q0 h => h))))
def c98 : Con := ⟨[.dat TColumn], fun args hp K => g1 (pD TColumn) (fun x => (∀ r : TColumn.D, r = x → K (.data TColumn r) [])) args hp, .plain⟩
@[reducible] def C98 : Ctx := cx [] 11 [] 0 false
def ann98 := an [[.fixRow 1 TColumn, kp 6], [kp 14], [kp 14], [kp 12], [kp 4]] []
theorem vc98 (x : TColumn.D) (K : KA) : vcT C98 noLoops ann98 f98 [.data TColumn x] [] (.dat TColumn) K =
 (K (.data TColumn x) []) := by kernel_rfl
theorem con98_ok : Con1 P 98 c98 := conR C98 func98 kN fun args hp K h0 => by
 obtain ⟨x, rfl, rfl, hK⟩ := g1e h0
 have h : ok (F.laws_toColumn x) (fun r => K (.data TColumn r) []) := ok_of_eq (F.laws_toColumn_eq x) (hK _ rfl)
 refine ⟨rfl, ann98, noLoops, (.dat TColumn), (no_loops (by kernel_rfl)), ?_⟩
 ·rw [vc98]
  exact h
def c66 : Con := ⟨[.dat TCS], fun args hp K => g1 (pD TCS) (fun x => (Sm TCS x) ∧ (∀ r : LC, r = x → K (.own 0 none) [(0, .arr false TColumn r)])) args hp, .plain⟩
@[reducible] def C66 : Ctx := cx [(98, c98)] 23 [] 0 false
def ann66 := an [[kp 1], [kp 9], [kp 25], [kp 2073], [kp 25], [kp 25], [kp 4]] [[kp 8]]
@[reducible] def s66_0 (x : LC) (i0 : Int) (v0 : LC) : St := ⟨[(0, .data TCS x), (3, .own 7 none), (4, dI i0)], [(7, .arr false TColumn v0)]⟩
@[reducible] def LP66_0 (x : LC) (m : Nat) (st_ : St) (K : KX) : Prop := True ∧ LoopI (s66_0 x) Z0 (x.length : Int) (F.laws_toColumnS_l0 x) (fun v0 : LC => True) (outD (fun v0 : LC => True → K (.exit 0) (⟨[(3, .own 7 none)], [(7, .arr false TColumn v0)]⟩ : St)) (fun _ => False)) m st_
def L66 (x : LC) : Loops := lp1 0 (LP66_0 x)
theorem vc66 (x : LC) (K : KA) : vcT C66 (L66 x) ann66 f66 [.data TCS x] [] .raw K =
 (((x.length : Int) = (x.length : Int)) ∧ (0 ≤ (x.length : Int)) ∧ ((x.length : Int) * 16 ≤ (lim : Int)) ∧ (∃ m_, True ∧ LoopI (s66_0 x) Z0 (x.length : Int) (F.laws_toColumnS_l0 x) (fun v0 : LC => True) (outD (fun v0 : LC => True → K (.own 0 none) [(0, .arr false TColumn v0)]) (fun _ => False)) m_ (s66_0 x Z0 (List.replicate (x.length : Int).toNat (Z0, (false, ())))))) := by kernel_rfl
theorem lvc66_0 (x : LC)  (i0 : Int) (v0 : LC) (m : Nat) (K : KX) : lvT C66 (L66 x) ann66 f66 0 0 (s66_0 x i0 v0) m K =
 (cond (decide (i0 < (x.length : Int))) ((0 ≤ i0) ∧ (i0 < (x.length : Int)) ∧ (∀ r1 : TColumn.D, r1 = (nC x i0) → (0 ≤ i0) ∧ (i0 < (v0.length : Int)) ∧ (nxT (LP66_0 x) m K (s66_0 x (wrap64 (i0 + Z1)) (v0.set i0.toNat r1))))) (K (.exit 0) (⟨[(3, .own 7 none)], [(7, .arr false TColumn v0)]⟩ : St))) := by kernel_rfl
theorem con66_ok : Con1 P 66 c66 := conR C66 func66 (kC con98_ok kN) fun args hp K h0 => by
 obtain ⟨x, rfl, rfl, h_x, hK⟩ := g1e h0
 have h : ok (F.laws_toColumnS x) (fun r => K (.own 0 none) [(0, .arr false TColumn r)]) := ok_of_eq (F.laws_toColumnS_eq x h_x) (hK _ rfl)
 refine ⟨rfl, ann66, (L66 x), .raw, (loopsN1 (i0 := 0) (by kernel_rfl) ?_), ?_⟩
 ·rintro _ _ K ⟨hc0, i0, v0, rfl, hl0, rfl, hv0, h⟩
  exact cast (lvc66_0 _ _ _ _ _).symm (loopI_step h (fun ht0 h => ⟨hl0, ⟨ht0, (oL h fun _ _ h => ⟨hl0, (oG h fun _ h => (loopI_next (fun _ hm => ⟨hc0, hm⟩) _ rfl hl0 low0 ht0 (sm_len h_x) trivial h))⟩)⟩⟩) fun h => (h trivial))
 ·rw [vc66]
  exact ⟨rfl, ⟨(Int.natCast_nonneg _), ⟨(sm_limI h_x rfl), (loopI_start (fun m hm => ⟨trivial, hm⟩) Z0 _ rfl (Int.natCast_nonneg 0) trivial (ok_then h (fun v0 h hv0 => h) (fun _ h => h.elim)))⟩⟩⟩
def c135 : Con := ⟨[.dat TValue], fun args hp K => g1 (pD TValue) (fun x => (Sm TValue x) ∧ (∀ r : TValue.D, r = x → K (.data TValue r) [])) args hp, .plain⟩
@[reducible] def C135 : Ctx := cx [] 14 [] 0 false
def ann135 := an [[.fixRow 1 TValue, kp 6], [kp 14], [kp 14], [kp 14], [kp 12], [kp 4]] []
theorem vc135 (x : TValue.D) (K : KA) : vcT C135 noLoops ann135 f135 [.data TValue x] [] (.dat TValue) K =
 (K (.data TValue x) []) := by kernel_rfl
theorem con135_ok : Con1 P 135 c135 := conR C135 func135 kN fun args hp K h0 => by
 obtain ⟨x, rfl, rfl, h_x, hK⟩ := g1e h0
 have h : ok (F.laws_toValue x) (fun r => K (.data TValue r) []) := ok_of_eq (F.laws_toValue_eq x h_x) (hK _ rfl)
 refine ⟨rfl, ann135, noLoops, (.dat TValue), (no_loops (by kernel_rfl)), ?_⟩
 ·rw [vc135]
  exact h
def c99 : Con := ⟨[.dat TVS], fun args hp K => g1 (pD TVS) (fun x => (Sm TVS x) ∧ (∀ r : LV, r = x → K (.own 0 none) [(0, .arr false TValue r)])) args hp, .plain⟩
@[reducible] def C99 : Ctx := cx [(135, c135)] 23 [] 0 false
def ann99 := an [[kp 1], [kp 9], [kp 25], [kp 2073], [kp 25], [kp 25], [kp 4]] [[kp 8]]
@[reducible] def s99_0 (x : LV) (i0 : Int) (v0 : LV) : St := ⟨[(0, .data TVS x), (3, .own 7 none), (4, dI i0)], [(7, .arr false TValue v0)]⟩
@[reducible] def LP99_0 (x : LV) (m : Nat) (st_ : St) (K : KX) : Prop := True ∧ LoopI (s99_0 x) Z0 (x.length : Int) (F.laws_toValueS_l0 x) (fun v0 : LV => True) (outD (fun v0 : LV => True → K (.exit 0) (⟨[(3, .own 7 none)], [(7, .arr false TValue v0)]⟩ : St)) (fun _ => False)) m st_
def L99 (x : LV) : Loops := lp1 0 (LP99_0 x)
theorem vc99 (x : LV) (K : KA) : vcT C99 (L99 x) ann99 f99 [.data TVS x] [] .raw K =
 (((x.length : Int) = (x.length : Int)) ∧ (0 ≤ (x.length : Int)) ∧ ((x.length : Int) * 32 ≤ (lim : Int)) ∧ (∃ m_, True ∧ LoopI (s99_0 x) Z0 (x.length : Int) (F.laws_toValueS_l0 x) (fun v0 : LV => True) (outD (fun v0 : LV => True → K (.own 0 none) [(0, .arr false TValue v0)]) (fun _ => False)) m_ (s99_0 x Z0 (List.replicate (x.length : Int).toNat (Z0, (Z0, ((⟨#[]⟩ : ByteArray), ()))))))) := by kernel_rfl
theorem lvc99_0 (x : LV)  (i0 : Int) (v0 : LV) (m : Nat) (K : KX) : lvT C99 (L99 x) ann99 f99 0 0 (s99_0 x i0 v0) m K =
 (cond (decide (i0 < (x.length : Int))) ((0 ≤ i0) ∧ (i0 < (x.length : Int)) ∧ (Sm TValue (nV x i0)) ∧ (∀ r1 : TValue.D, r1 = (nV x i0) → (0 ≤ i0) ∧ (i0 < (v0.length : Int)) ∧ (nxT (LP99_0 x) m K (s99_0 x (wrap64 (i0 + Z1)) (v0.set i0.toNat r1))))) (K (.exit 0) (⟨[(3, .own 7 none)], [(7, .arr false TValue v0)]⟩ : St))) := by kernel_rfl
theorem con99_ok : Con1 P 99 c99 := conR C99 func99 (kC con135_ok kN) fun args hp K h0 => by
 obtain ⟨x, rfl, rfl, h_x, hK⟩ := g1e h0
 have h : ok (F.laws_toValueS x) (fun r => K (.own 0 none) [(0, .arr false TValue r)]) := ok_of_eq (F.laws_toValueS_eq x h_x) (hK _ rfl)
 refine ⟨rfl, ann99, (L99 x), .raw, (loopsN1 (i0 := 0) (by kernel_rfl) ?_), ?_⟩
 ·rintro _ _ K ⟨hc0, i0, v0, rfl, hl0, rfl, hv0, h⟩
  exact cast (lvc99_0 _ _ _ _ _).symm (loopI_step h (fun ht0 h => ⟨hl0, ⟨ht0, ⟨(sm_nth h_x i0), (oL h fun _ _ h => ⟨hl0, (oG h fun _ h => (loopI_next (fun _ hm => ⟨hc0, hm⟩) _ rfl hl0 low0 ht0 (sm_len h_x) trivial h))⟩)⟩⟩⟩) fun h => (h trivial))
 ·rw [vc99]
  exact ⟨rfl, ⟨(Int.natCast_nonneg _), ⟨(sm_limI h_x rfl), (loopI_start (fun m hm => ⟨trivial, hm⟩) Z0 _ rfl (Int.natCast_nonneg 0) trivial (ok_then h (fun v0 h hv0 => h) (fun _ h => h.elim)))⟩⟩⟩
def c67 : Con := ⟨[.dat (Ty.sl TVS)], fun args hp K => g1 (pD (Ty.sl TVS)) (fun x => (Sm (Ty.sl TVS) x) ∧ (∀ r : (List LV), r = x → K (.own 0 none) [(0, .arr true TVS r)])) args hp, .plain⟩
@[reducible] def C67 : Ctx := cx [(99, c99)] 23 [] 0 true
def ann67 := an [[kp 1], [kp 9], [kp 25], [kp 2073], [kp 25], [kp 25], [kp 4]] [[kp 8]]
@[reducible] def s67_0 (x : (List LV)) (i0 : Int) (v0 : (List LV)) : St := ⟨[(0, .data (Ty.sl TVS) x), (3, .own 7 none), (4, dI i0)], [(7, .arr true TVS v0)]⟩
@[reducible] def LP67_0 (x : (List LV)) (m : Nat) (st_ : St) (K : KX) : Prop := True ∧ LoopI (s67_0 x) Z0 (x.length : Int) (F.laws_toValueSS_l0 x) (fun v0 : (List LV) => True) (outD (fun v0 : (List LV) => True → K (.exit 0) (⟨[(3, .own 7 none)], [(7, .arr true TVS v0)]⟩ : St)) (fun _ => False)) m st_
def L67 (x : (List LV)) : Loops := lp1 0 (LP67_0 x)
theorem vc67 (x : (List LV)) (K : KA) : vcT C67 (L67 x) ann67 f67 [.data (Ty.sl TVS) x] [] .raw K =
 (((x.length : Int) = (x.length : Int)) ∧ (0 ≤ (x.length : Int)) ∧ ((x.length : Int) * 24 ≤ (lim : Int)) ∧ (∃ m_, True ∧ LoopI (s67_0 x) Z0 (x.length : Int) (F.laws_toValueSS_l0 x) (fun v0 : (List LV) => True) (outD (fun v0 : (List LV) => True → K (.own 0 none) [(0, .arr true TVS v0)]) (fun _ => False)) m_ (s67_0 x Z0 (List.replicate (x.length : Int).toNat [])))) := by kernel_rfl
theorem lvc67_0 (x : (List LV))  (i0 : Int) (v0 : (List LV)) (m : Nat) (K : KX) : lvT C67 (L67 x) ann67 f67 0 0 (s67_0 x i0 v0) m K =
 (cond (decide (i0 < (x.length : Int))) ((0 ≤ i0) ∧ (i0 < (x.length : Int)) ∧ (Sm TVS (nth (t := TVS) x i0)) ∧ (∀ r1 : LV, r1 = (nth (t := TVS) x i0) → (0 ≤ i0) ∧ (i0 < (v0.length : Int)) ∧ (nxT (LP67_0 x) m K (s67_0 x (wrap64 (i0 + Z1)) (v0.set i0.toNat r1))))) (K (.exit 0) (⟨[(3, .own 7 none)], [(7, .arr true TVS v0)]⟩ : St))) := by kernel_rfl
theorem con67_ok : Con1 P 67 c67 := conR C67 func67 (kC con99_ok kN) fun args hp K h0 => by
 obtain ⟨x, rfl, rfl, h_x, hK⟩ := g1e h0
 have h : ok (F.laws_toValueSS x) (fun r => K (.own 0 none) [(0, .arr true TVS r)]) := ok_of_eq (F.laws_toValueSS_eq x h_x) (hK _ rfl)
 refine ⟨rfl, ann67, (L67 x), .raw, (loopsN1 (i0 := 0) (by kernel_rfl) ?_), ?_⟩
 ·rintro _ _ K ⟨hc0, i0, v0, rfl, hl0, rfl, hv0, h⟩
  exact cast (lvc67_0 _ _ _ _ _).symm (loopI_step h (fun ht0 h => ⟨hl0, ⟨ht0, ⟨(sm_nth h_x i0), (oL h fun _ _ h => ⟨hl0, (oG h fun _ h => (loopI_next (fun _ hm => ⟨hc0, hm⟩) _ rfl hl0 low0 ht0 (sm_len h_x) trivial h))⟩)⟩⟩⟩) fun h => (h trivial))
 ·rw [vc67]
  exact ⟨rfl, ⟨(Int.natCast_nonneg _), ⟨(sm_limI h_x rfl), (loopI_start (fun m hm => ⟨trivial, hm⟩) Z0 _ rfl (Int.natCast_nonneg 0) trivial (ok_then h (fun v0 h hv0 => h) (fun _ h => h.elim)))⟩⟩⟩
@[reducible] def C34 : Ctx := cx [(66, c66), (67, c67)] 13 [] 200000 true
def T34 : Inl := inlT C34 (fun _ => []) (bodyOf f34) f34.results.toList
theorem inlOk34 : Inl1 P 34 T34 := inlR C34 func34 (kC con66_ok (kC con67_ok kN))
def c10 : Con := ⟨[.dat TTb], fun args hp K => g1 (pD TTb) (fun x => (Sm TTb x) ∧ (∀ r : LTb, r = x → K (.own 0 none) [(0, .arr true TTable r)])) args hp, .plain⟩
@[reducible] def C10 : Ctx := cx [] 23 [(34, T34)] 0 true
def ann10 := an [[kp 1], [kp 9], [kp 25], [kp 2073], [kp 25], [kp 25], [kp 4]] [[kp 8]]
@[reducible] def s10_0 (x : LTb) (i0 : Int) (v0 : LTb) : St := ⟨[(0, .data TTb x), (3, .own 7 none), (4, dI i0)], [(7, .arr true TTable v0)]⟩
@[reducible] def LP10_0 (x : LTb) (m : Nat) (st_ : St) (K : KX) : Prop := True ∧ LoopI (s10_0 x) Z0 (x.length : Int) (F.laws_toTableS_l0 x) (fun v0 : LTb => True) (outD (fun v0 : LTb => True → K (.exit 0) (⟨[(3, .own 7 none)], [(7, .arr true TTable v0)]⟩ : St)) (fun _ => False)) m st_
def L10 (x : LTb) : Loops := lp1 0 (LP10_0 x)
theorem vc10 (x : LTb) (K : KA) : vcT C10 (L10 x) ann10 f10 [.data TTb x] [] .raw K =
 (((x.length : Int) = (x.length : Int)) ∧ (0 ≤ (x.length : Int)) ∧ ((x.length : Int) * 48 ≤ (lim : Int)) ∧ (∃ m_, True ∧ LoopI (s10_0 x) Z0 (x.length : Int) (F.laws_toTableS_l0 x) (fun v0 : LTb => True) (outD (fun v0 : LTb => True → K (.own 0 none) [(0, .arr true TTable v0)]) (fun _ => False)) m_ (s10_0 x Z0 (List.replicate (x.length : Int).toNat ([], ([], ())))))) := by kernel_rfl
theorem lvc10_0 (x : LTb)  (i0 : Int) (v0 : LTb) (m : Nat) (K : KX) : lvT C10 (L10 x) ann10 f10 0 0 (s10_0 x i0 v0) m K =
 (cond (decide (i0 < (x.length : Int))) ((0 ≤ i0) ∧ (i0 < (x.length : Int)) ∧ (Sm TCS (nT x i0).1) ∧ (∀ r1 : LC, r1 = (nT x i0).1 → (Sm (Ty.sl TVS) (nT x i0).2.1) ∧ (∀ r2 : (List LV), r2 = (nT x i0).2.1 → (0 ≤ i0) ∧ (i0 < (v0.length : Int)) ∧ (nxT (LP10_0 x) m K (s10_0 x (wrap64 (i0 + Z1)) (v0.set i0.toNat (r1, (r2, ())))))))) (K (.exit 0) (⟨[(3, .own 7 none)], [(7, .arr true TTable v0)]⟩ : St))) := by kernel_rfl
theorem con10_ok : Con1 P 10 c10 := conR C10 func10 (kI inlOk34 kN) fun args hp K h0 => by
 obtain ⟨x, rfl, rfl, h_x, hK⟩ := g1e h0
 have h : ok (F.laws_toTableS x) (fun r => K (.own 0 none) [(0, .arr true TTable r)]) := ok_of_eq (F.laws_toTableS_eq x h_x) (hK _ rfl)
 refine ⟨rfl, ann10, (L10 x), .raw, (loopsN1 (i0 := 0) (by kernel_rfl) ?_), ?_⟩
 ·rintro _ _ K ⟨hc0, i0, v0, rfl, hl0, rfl, hv0, h⟩
  exact cast (lvc10_0 _ _ _ _ _).symm (loopI_step h (fun ht0 h => ⟨hl0, ⟨ht0, ⟨(sm_nth h_x i0).1, (oL h fun _ _ h => ⟨(sm_nth h_x i0).2.1, (oL h fun _ _ h => ⟨hl0, (oG h fun _ h => (loopI_next (fun _ hm => ⟨hc0, hm⟩) _ rfl hl0 low0 ht0 (sm_len h_x) trivial h))⟩)⟩)⟩⟩⟩) fun h => (h trivial))
 ·rw [vc10]
  exact ⟨rfl, ⟨(Int.natCast_nonneg _), ⟨(sm_limI h_x rfl), (loopI_start (fun m hm => ⟨trivial, hm⟩) Z0 _ rfl (Int.natCast_nonneg 0) trivial (ok_then h (fun v0 h hv0 => h) (fun _ h => h.elim)))⟩⟩⟩
def c100 : Con := ⟨[.dat TPart], fun args hp K => g1 (pD TPart) (fun x => (Sm TPart x) ∧ (∀ r : TPart.D, r = x → K (.data TPart r) [])) args hp, .plain⟩
@[reducible] def C100 : Ctx := cx [(135, c135)] 15 [] 0 false
def ann100 := an [[.fixRow 1 TPart, kp 6], [kp 14], [kp 14], [kp 14], [kp 12], [kp 4]] []
theorem vc100 (x : TPart.D) (K : KA) : vcT C100 noLoops ann100 f100 [.data TPart x] [] (.dat TPart) K =
 ((Sm TValue x.2.2.1) ∧ (∀ r1 : TValue.D, r1 = x.2.2.1 → K (.data TPart (x.1, (x.2.1, (r1, ())))) [])) := by kernel_rfl
theorem con100_ok : Con1 P 100 c100 := conR C100 func100 (kC con135_ok kN) fun args hp K h0 => by
 obtain ⟨x, rfl, rfl, h_x, hK⟩ := g1e h0
 have h : ok (F.laws_toPart x) (fun r => K (.data TPart r) []) := ok_of_eq (F.laws_toPart_eq x h_x) (hK _ rfl)
 refine ⟨rfl, ann100, noLoops, (.dat TPart), (no_loops (by kernel_rfl)), ?_⟩
 ·rw [vc100]
  exact ⟨h_x.2.2.1, (oL h fun _ _ h => h)⟩
def c68 : Con := ⟨[.dat TPS], fun args hp K => g1 (pD TPS) (fun x => (Sm TPS x) ∧ (∀ r : LPt, r = x → K (.own 0 none) [(0, .arr false TPart r)])) args hp, .plain⟩
@[reducible] def C68 : Ctx := cx [(100, c100)] 23 [] 0 false
def ann68 := an [[kp 1], [kp 9], [kp 25], [kp 2073], [kp 25], [kp 25], [kp 4]] [[kp 8]]
@[reducible] def s68_0 (x : LPt) (i0 : Int) (v0 : LPt) : St := ⟨[(0, .data TPS x), (3, .own 7 none), (4, dI i0)], [(7, .arr false TPart v0)]⟩
@[reducible] def LP68_0 (x : LPt) (m : Nat) (st_ : St) (K : KX) : Prop := True ∧ LoopI (s68_0 x) Z0 (x.length : Int) (F.laws_toPartS_l0 x) (fun v0 : LPt => True) (outD (fun v0 : LPt => True → K (.exit 0) (⟨[(3, .own 7 none)], [(7, .arr false TPart v0)]⟩ : St)) (fun _ => False)) m st_
def L68 (x : LPt) : Loops := lp1 0 (LP68_0 x)
theorem vc68 (x : LPt) (K : KA) : vcT C68 (L68 x) ann68 f68 [.data TPS x] [] .raw K =
 (((x.length : Int) = (x.length : Int)) ∧ (0 ≤ (x.length : Int)) ∧ ((x.length : Int) * 48 ≤ (lim : Int)) ∧ (∃ m_, True ∧ LoopI (s68_0 x) Z0 (x.length : Int) (F.laws_toPartS_l0 x) (fun v0 : LPt => True) (outD (fun v0 : LPt => True → K (.own 0 none) [(0, .arr false TPart v0)]) (fun _ => False)) m_ (s68_0 x Z0 (List.replicate (x.length : Int).toNat (Z0, (Z0, ((Z0, (Z0, ((⟨#[]⟩ : ByteArray), ()))), ()))))))) := by kernel_rfl
theorem lvc68_0 (x : LPt)  (i0 : Int) (v0 : LPt) (m : Nat) (K : KX) : lvT C68 (L68 x) ann68 f68 0 0 (s68_0 x i0 v0) m K =
 (cond (decide (i0 < (x.length : Int))) ((0 ≤ i0) ∧ (i0 < (x.length : Int)) ∧ (Sm TPart (nP x i0)) ∧ (∀ r1 : TPart.D, r1 = (nP x i0) → (0 ≤ i0) ∧ (i0 < (v0.length : Int)) ∧ (nxT (LP68_0 x) m K (s68_0 x (wrap64 (i0 + Z1)) (v0.set i0.toNat r1))))) (K (.exit 0) (⟨[(3, .own 7 none)], [(7, .arr false TPart v0)]⟩ : St))) := by kernel_rfl
theorem con68_ok : Con1 P 68 c68 := conR C68 func68 (kC con100_ok kN) fun args hp K h0 => by
 obtain ⟨x, rfl, rfl, h_x, hK⟩ := g1e h0
 have h : ok (F.laws_toPartS x) (fun r => K (.own 0 none) [(0, .arr false TPart r)]) := ok_of_eq (F.laws_toPartS_eq x h_x) (hK _ rfl)
 refine ⟨rfl, ann68, (L68 x), .raw, (loopsN1 (i0 := 0) (by kernel_rfl) ?_), ?_⟩
 ·rintro _ _ K ⟨hc0, i0, v0, rfl, hl0, rfl, hv0, h⟩
  exact cast (lvc68_0 _ _ _ _ _).symm (loopI_step h (fun ht0 h => ⟨hl0, ⟨ht0, ⟨(sm_nth h_x i0), (oL h fun _ _ h => ⟨hl0, (oG h fun _ h => (loopI_next (fun _ hm => ⟨hc0, hm⟩) _ rfl hl0 low0 ht0 (sm_len h_x) trivial h))⟩)⟩⟩⟩) fun h => (h trivial))
 ·rw [vc68]
  exact ⟨rfl, ⟨(Int.natCast_nonneg _), ⟨(sm_limI h_x rfl), (loopI_start (fun m hm => ⟨trivial, hm⟩) Z0 _ rfl (Int.natCast_nonneg 0) trivial (ok_then h (fun v0 h hv0 => h) (fun _ h => h.elim)))⟩⟩⟩
def c69 : Con := ⟨[.dat (Ty.sl TInt)], fun args hp K => g1 (pD (Ty.sl TInt)) (fun x => (Sm (Ty.sl TInt) x) ∧ (∀ r : (List Int), r = x → K (.own 0 none) [(0, .arr false TInt r)])) args hp, .plain⟩
@[reducible] def C69 : Ctx := cx [] 22 [] 0 false
def ann69 := an [[kp 1], [kp 9], [kp 25], [kp 2073], [kp 25], [kp 25], [kp 4]] [[kp 8]]
@[reducible] def s69_0 (x : (List Int)) (i0 : Int) (v0 : (List Int)) : St := ⟨[(0, .data (Ty.sl TInt) x), (3, .own 7 none), (4, dI i0)], [(7, .arr false TInt v0)]⟩
@[reducible] def LP69_0 (x : (List Int)) (m : Nat) (st_ : St) (K : KX) : Prop := True ∧ LoopI (s69_0 x) Z0 (x.length : Int) (F.laws_toIntS_l0 x) (fun v0 : (List Int) => True) (outD (fun v0 : (List Int) => True → K (.exit 0) (⟨[(3, .own 7 none)], [(7, .arr false TInt v0)]⟩ : St)) (fun _ => False)) m st_
def L69 (x : (List Int)) : Loops := lp1 0 (LP69_0 x)
theorem vc69 (x : (List Int)) (K : KA) : vcT C69 (L69 x) ann69 f69 [.data (Ty.sl TInt) x] [] .raw K =
 (((x.length : Int) = (x.length : Int)) ∧ (0 ≤ (x.length : Int)) ∧ ((x.length : Int) * 8 ≤ (lim : Int)) ∧ (∃ m_, True ∧ LoopI (s69_0 x) Z0 (x.length : Int) (F.laws_toIntS_l0 x) (fun v0 : (List Int) => True) (outD (fun v0 : (List Int) => True → K (.own 0 none) [(0, .arr false TInt v0)]) (fun _ => False)) m_ (s69_0 x Z0 (List.replicate (x.length : Int).toNat Z0)))) := by kernel_rfl
theorem lvc69_0 (x : (List Int))  (i0 : Int) (v0 : (List Int)) (m : Nat) (K : KX) : lvT C69 (L69 x) ann69 f69 0 0 (s69_0 x i0 v0) m K =
 (cond (decide (i0 < (x.length : Int))) ((0 ≤ i0) ∧ (i0 < (x.length : Int)) ∧ (0 ≤ i0) ∧ (i0 < (v0.length : Int)) ∧ (nxT (LP69_0 x) m K (s69_0 x (wrap64 (i0 + Z1)) (v0.set i0.toNat (nI x i0))))) (K (.exit 0) (⟨[(3, .own 7 none)], [(7, .arr false TInt v0)]⟩ : St))) := by kernel_rfl
theorem con69_ok : Con1 P 69 c69 := conR C69 func69 kN fun args hp K h0 => by
 obtain ⟨x, rfl, rfl, h_x, hK⟩ := g1e h0
 have h : ok (F.laws_toIntS x) (fun r => K (.own 0 none) [(0, .arr false TInt r)]) := ok_of_eq (F.laws_toIntS_eq x h_x) (hK _ rfl)
 refine ⟨rfl, ann69, (L69 x), .raw, (loopsN1 (i0 := 0) (by kernel_rfl) ?_), ?_⟩
 ·rintro _ _ K ⟨hc0, i0, v0, rfl, hl0, rfl, hv0, h⟩
  exact cast (lvc69_0 _ _ _ _ _).symm (loopI_step h (fun ht0 h => ⟨hl0, ⟨ht0, ⟨hl0, (oG h fun _ h => (loopI_next (fun _ hm => ⟨hc0, hm⟩) _ rfl hl0 low0 ht0 (sm_len h_x) trivial h))⟩⟩⟩) fun h => (h trivial))
 ·rw [vc69]
  exact ⟨rfl, ⟨(Int.natCast_nonneg _), ⟨(sm_limI h_x rfl), (loopI_start (fun m hm => ⟨trivial, hm⟩) Z0 _ rfl (Int.natCast_nonneg 0) trivial (ok_then h (fun v0 h hv0 => h) (fun _ h => h.elim)))⟩⟩⟩
@[reducible] def C35 : Ctx := cx [(68, c68), (69, c69)] 25 [] 200000 true
def T35 : Inl := inlT C35 (fun _ => []) (bodyOf f35) f35.results.toList
theorem inlOk35 : Inl1 P 35 T35 := inlR C35 func35 (kC con68_ok (kC con69_ok kN))
def c11 : Con := ⟨[.dat TSS], fun args hp K => g1 (pD TSS) (fun x => (Sm TSS x) ∧ (∀ r : LS, r = x → K (.own 0 none) [(0, .arr true TStep r)])) args hp, .plain⟩
@[reducible] def C11 : Ctx := cx [] 23 [(35, T35)] 0 true
def ann11 := an [[kp 1], [kp 9], [kp 25], [kp 2073], [kp 25], [kp 25], [kp 4]] [[kp 8]]
@[reducible] def s11_0 (x : LS) (i0 : Int) (v0 : LS) : St := ⟨[(0, .data TSS x), (3, .own 7 none), (4, dI i0)], [(7, .arr true TStep v0)]⟩
@[reducible] def LP11_0 (x : LS) (m : Nat) (st_ : St) (K : KX) : Prop := True ∧ LoopI (s11_0 x) Z0 (x.length : Int) (F.laws_toStepS_l0 x) (fun v0 : LS => True) (outD (fun v0 : LS => True → K (.exit 0) (⟨[(3, .own 7 none)], [(7, .arr true TStep v0)]⟩ : St)) (fun _ => False)) m st_
def L11 (x : LS) : Loops := lp1 0 (LP11_0 x)
theorem vc11 (x : LS) (K : KA) : vcT C11 (L11 x) ann11 f11 [.data TSS x] [] .raw K =
 (((x.length : Int) = (x.length : Int)) ∧ (0 ≤ (x.length : Int)) ∧ ((x.length : Int) * 80 ≤ (lim : Int)) ∧ (∃ m_, True ∧ LoopI (s11_0 x) Z0 (x.length : Int) (F.laws_toStepS_l0 x) (fun v0 : LS => True) (outD (fun v0 : LS => True → K (.own 0 none) [(0, .arr true TStep v0)]) (fun _ => False)) m_ (s11_0 x Z0 (List.replicate (x.length : Int).toNat (Z0, (Z0, (Z0, (Z0, ([], ([], ())))))))))) := by kernel_rfl
theorem lvc11_0 (x : LS)  (i0 : Int) (v0 : LS) (m : Nat) (K : KX) : lvT C11 (L11 x) ann11 f11 0 0 (s11_0 x i0 v0) m K =
 (cond (decide (i0 < (x.length : Int))) ((0 ≤ i0) ∧ (i0 < (x.length : Int)) ∧ (Sm TPS (nS x i0).2.2.2.2.1) ∧ (∀ r1 : LPt, r1 = (nS x i0).2.2.2.2.1 → (Sm (Ty.sl TInt) (nS x i0).2.2.2.2.2.1) ∧ (∀ r2 : (List Int), r2 = (nS x i0).2.2.2.2.2.1 → (0 ≤ i0) ∧ (i0 < (v0.length : Int)) ∧ (let y1 : LS := (v0.set i0.toNat ((nS x i0).1, ((nS x i0).2.1, ((nS x i0).2.2.1, ((nS x i0).2.2.2.1, (r1, (r2, ()))))))); (nxT (LP11_0 x) m K (s11_0 x (wrap64 (i0 + Z1)) y1)))))) (K (.exit 0) (⟨[(3, .own 7 none)], [(7, .arr true TStep v0)]⟩ : St))) := by kernel_rfl
theorem con11_ok : Con1 P 11 c11 := conR C11 func11 (kI inlOk35 kN) fun args hp K h0 => by
 obtain ⟨x, rfl, rfl, h_x, hK⟩ := g1e h0
 have h : ok (F.laws_toStepS x) (fun r => K (.own 0 none) [(0, .arr true TStep r)]) := ok_of_eq (F.laws_toStepS_eq x h_x) (hK _ rfl)
 refine ⟨rfl, ann11, (L11 x), .raw, (loopsN1 (i0 := 0) (by kernel_rfl) ?_), ?_⟩
 ·rintro _ _ K ⟨hc0, i0, v0, rfl, hl0, rfl, hv0, h⟩
  exact cast (lvc11_0 _ _ _ _ _).symm (loopI_step h (fun ht0 h => ⟨hl0, ⟨ht0, ⟨(sm_nth h_x i0).2.2.2.2.1, (oL h fun _ _ h => ⟨(sm_nth h_x i0).2.2.2.2.2.1, (oL h fun _ _ h => ⟨hl0, (oG h fun _ h => (have h := ok_let h _ rfl; (loopI_next (fun _ hm => ⟨hc0, hm⟩) _ rfl hl0 low0 ht0 (sm_len h_x) trivial h)))⟩)⟩)⟩⟩⟩) fun h => (h trivial))
 ·rw [vc11]
  exact ⟨rfl, ⟨(Int.natCast_nonneg _), ⟨(sm_limI h_x rfl), (loopI_start (fun m hm => ⟨trivial, hm⟩) Z0 _ rfl (Int.natCast_nonneg 0) trivial (ok_then h (fun v0 h hv0 => h) (fun _ h => h.elim)))⟩⟩⟩
def c73 : Con := ⟨[.dat TValue, .dat TValue], fun args hp K => g2 (pD TValue) (pD TValue) (fun x y => (Sm TValue x) ∧ (Sm TValue y) ∧ (x = y) ∧ K (dB true) []) args hp, .plain⟩
@[reducible] def C73 : Ctx := cx [] 20 [] 0 false
def ann73 := an [[.fixRow 2 TValue, .fixRow 3 TValue, kp 12], [kp 524], [kp 16], [kp 16396], [kp 16], [kp 524288], [kp 16], [kp 16]] []
theorem vc73 (x : TValue.D) (y : TValue.D) (K : KA) : vcT C73 noLoops ann73 f73 [.data TValue x, .data TValue y] [] (.dat Ty.bool) K =
 (cond (!decide (x.1 = y.1)) (K (dB false) []) (cond (!decide (x.2.1 = y.2.1)) (K (dB false) []) (cond (!decide (x.2.2.1 = y.2.2.1)) (K (dB false) []) (K (dB true) [])))) := by kernel_rfl
theorem con73_ok : Con1 P 73 c73 := conR C73 func73 kN fun args hp K h0 => by
 obtain ⟨x, y, rfl, rfl, h_x, h_y, p0, hK⟩ := g2e h0
 have h : ok (F.laws_eqValue x y) (fun r => K (dB r) []) := ok_of_eq (F.laws_eqValue_eq x y h_x h_y p0) hK
 refine ⟨rfl, ann73, noLoops, (.dat Ty.bool), (no_loops (by kernel_rfl)), ?_⟩
 ·rw [vc73]
  exact (oC h (fun _ h => h) fun _ h => (oC h (fun _ h => h) fun _ h => (oC h (fun _ h => h) fun _ h => h)))
def c38 : Con := ⟨[.dat TVS, .dat TVS], fun args hp K => g2 (pD TVS) (pD TVS) (fun x y => (Sm TVS x) ∧ (Sm TVS y) ∧ (x = y) ∧ K (dB true) []) args hp, .bor⟩
@[reducible] def C38 : Ctx := cx [(73, c73)] 27 [] 0 false
def ann38 := an [[kp 3], [kp 1027], [kp 16], [kp 35], [kp 16419], [kp 35], [kp 67108899], [kp 16], [kp 16]] [[kp 0]]
@[reducible] def s38_0 (x : LV) (y : LV) (i0 : Int) (v0 : Unit) : St := ⟨[(0, .data TVS x), (1, .data TVS y), (5, dI i0)], []⟩
@[reducible] def LP38_0 (x : LV) (y : LV) (m : Nat) (st_ : St) (K : KX) : Prop := True ∧ LoopI (s38_0 x y) Z0 (x.length : Int) (F.laws_eqValueS_l0 x y) (fun v0 : Unit => True) (outD (fun v0 : Unit => True → K (.exit 0) (⟨[], []⟩ : St)) (fun q0 : Unit => K .ret (⟨[(4, dB false)], []⟩ : St))) m st_
def L38 (x : LV) (y : LV) : Loops := lp1 0 (LP38_0 x y)
theorem vc38 (x : LV) (y : LV) (K : KA) : vcT C38 (L38 x y) ann38 f38 [.data TVS x, .data TVS y] [] (.dat Ty.bool) K =
 (cond (!decide ((x.length : Int) = (y.length : Int))) (K (dB false) []) (∃ m_, True ∧ LoopI (s38_0 x y) Z0 (x.length : Int) (F.laws_eqValueS_l0 x y) (fun v0 : Unit => True) (outD (fun v0 : Unit => True → K (dB true) []) (fun q0 : Unit => K (dB false) [])) m_ (s38_0 x y Z0 ()))) := by kernel_rfl
theorem lvc38_0 (x : LV) (y : LV)  (i0 : Int) (v0 : Unit) (m : Nat) (K : KX) : lvT C38 (L38 x y) ann38 f38 0 0 (s38_0 x y i0 v0) m K =
 (cond (decide (i0 < (x.length : Int))) ((0 ≤ i0) ∧ (i0 < (x.length : Int)) ∧ (0 ≤ i0) ∧ (i0 < (y.length : Int)) ∧ (Sm TValue (nV x i0)) ∧ (Sm TValue (nV y i0)) ∧ ((nV x i0) = (nV y i0)) ∧ cond (!true) (K .ret (⟨[(4, dB false)], []⟩ : St)) (nxT (LP38_0 x y) m K (s38_0 x y (wrap64 (i0 + Z1)) ()))) (K (.exit 0) (⟨[], []⟩ : St))) := by kernel_rfl
theorem con38_ok : Con1 P 38 c38 := conR C38 func38 (kC con73_ok kN) fun args hp K h0 => by
 obtain ⟨x, y, rfl, rfl, h_x, h_y, p0, hK⟩ := g2e h0
 have h : ok (F.laws_eqValueS x y) (fun r => K (dB r) []) := ok_of_eq (F.laws_eqValueS_eq x y h_x h_y p0) hK
 refine ⟨rfl, ann38, (L38 x y), (.dat Ty.bool), (loopsN1 (i0 := 0) (by kernel_rfl) ?_), ?_⟩
 ·rintro _ _ K ⟨hc0, i0, v0, rfl, hl0, rfl, hv0, h⟩
  exact cast (lvc38_0 _ _ _ _ _ _).symm (loopI_step h (fun ht0 h => ⟨hl0, ⟨ht0, ⟨hl0, (oG h fun _ h => ⟨(sm_nth h_x i0), ⟨(sm_nth h_y i0), (oG h fun _ h => (oC h (fun _ h => h) fun _ h => (loopI_next (fun _ hm => ⟨hc0, hm⟩) _ rfl hl0 low0 ht0 (sm_len h_x) trivial h)))⟩⟩)⟩⟩⟩) fun h => (h trivial))
 ·rw [vc38]
  exact (oC h (fun _ h => h) fun _ h => (loopI_start (fun m hm => ⟨trivial, hm⟩) Z0 _ rfl (Int.natCast_nonneg 0) trivial (ok_then h (fun v0 h hv0 => h) (fun q0 h => h))))
def c13 : Con := ⟨[.dat (Ty.sl TVS), .dat (Ty.sl TVS)], fun args hp K => g2 (pD (Ty.sl TVS)) (pD (Ty.sl TVS)) (fun x y => (Sm (Ty.sl TVS) x) ∧ (Sm (Ty.sl TVS) y) ∧ (x = y) ∧ K (dB true) []) args hp, .bor⟩
@[reducible] def C13 : Ctx := cx [(38, c38)] 27 [] 0 false
def ann13 := an [[kp 3], [kp 1027], [kp 16], [kp 35], [kp 16419], [kp 35], [kp 67108899], [kp 16], [kp 16]] [[kp 0]]
@[reducible] def s13_0 (x : (List LV)) (y : (List LV)) (i0 : Int) (v0 : Unit) : St := ⟨[(0, .data (Ty.sl TVS) x), (1, .data (Ty.sl TVS) y), (5, dI i0)], []⟩
@[reducible] def LP13_0 (x : (List LV)) (y : (List LV)) (m : Nat) (st_ : St) (K : KX) : Prop := True ∧ LoopI (s13_0 x y) Z0 (x.length : Int) (F.laws_eqValueSS_l0 x y) (fun v0 : Unit => True) (outD (fun v0 : Unit => True → K (.exit 0) (⟨[], []⟩ : St)) (fun q0 : Unit => K .ret (⟨[(4, dB false)], []⟩ : St))) m st_
def L13 (x : (List LV)) (y : (List LV)) : Loops := lp1 0 (LP13_0 x y)
theorem vc13 (x : (List LV)) (y : (List LV)) (K : KA) : vcT C13 (L13 x y) ann13 f13 [.data (Ty.sl TVS) x, .data (Ty.sl TVS) y] [] (.dat Ty.bool) K =
 (cond (!decide ((x.length : Int) = (y.length : Int))) (K (dB false) []) (∃ m_, True ∧ LoopI (s13_0 x y) Z0 (x.length : Int) (F.laws_eqValueSS_l0 x y) (fun v0 : Unit => True) (outD (fun v0 : Unit => True → K (dB true) []) (fun q0 : Unit => K (dB false) [])) m_ (s13_0 x y Z0 ()))) := by kernel_rfl
theorem lvc13_0 (x : (List LV)) (y : (List LV))  (i0 : Int) (v0 : Unit) (m : Nat) (K : KX) : lvT C13 (L13 x y) ann13 f13 0 0 (s13_0 x y i0 v0) m K =
 (cond (decide (i0 < (x.length : Int))) ((0 ≤ i0) ∧ (i0 < (x.length : Int)) ∧ (0 ≤ i0) ∧ (i0 < (y.length : Int)) ∧ (Sm TVS (nth (t := TVS) x i0)) ∧ (Sm TVS (nth (t := TVS) y i0)) ∧ ((nth (t := TVS) x i0) = (nth (t := TVS) y i0)) ∧ cond (!true) (K .ret (⟨[(4, dB false)], []⟩ : St)) (nxT (LP13_0 x y) m K (s13_0 x y (wrap64 (i0 + Z1)) ()))) (K (.exit 0) (⟨[], []⟩ : St))) := by kernel_rfl
theorem con13_ok : Con1 P 13 c13 := conR C13 func13 (kC con38_ok kN) fun args hp K h0 => by
 obtain ⟨x, y, rfl, rfl, h_x, h_y, p0, hK⟩ := g2e h0
 have h : ok (F.laws_eqValueSS x y) (fun r => K (dB r) []) := ok_of_eq (F.laws_eqValueSS_eq x y h_x h_y p0) hK
 refine ⟨rfl, ann13, (L13 x y), (.dat Ty.bool), (loopsN1 (i0 := 0) (by kernel_rfl) ?_), ?_⟩
 ·rintro _ _ K ⟨hc0, i0, v0, rfl, hl0, rfl, hv0, h⟩
  exact cast (lvc13_0 _ _ _ _ _ _).symm (loopI_step h (fun ht0 h => ⟨hl0, ⟨ht0, ⟨hl0, (oG h fun _ h => ⟨(sm_nth h_x i0), ⟨(sm_nth h_y i0), (oG h fun _ h => (oC h (fun _ h => h) fun _ h => (loopI_next (fun _ hm => ⟨hc0, hm⟩) _ rfl hl0 low0 ht0 (sm_len h_x) trivial h)))⟩⟩)⟩⟩⟩) fun h => (h trivial))
 ·rw [vc13]
  exact (oC h (fun _ h => h) fun _ h => (loopI_start (fun m hm => ⟨trivial, hm⟩) Z0 _ rfl (Int.natCast_nonneg 0) trivial (ok_then h (fun v0 h hv0 => h) (fun q0 h => h))))
def c110 : Con := ⟨[.dat TColumn, .dat TColumn], fun args hp K => g2 (pD TColumn) (pD TColumn) (fun x y => (x = y) ∧ K (dB true) []) args hp, .plain⟩
@[reducible] def C110 : Ctx := cx [] 15 [] 0 false
def ann110 := an [[.fixRow 2 TColumn, .fixRow 3 TColumn, kp 12], [kp 524], [kp 16], [kp 16384], [kp 16], [kp 16]] []
theorem vc110 (x : TColumn.D) (y : TColumn.D) (K : KA) : vcT C110 noLoops ann110 f110 [.data TColumn x, .data TColumn y] [] (.dat Ty.bool) K =
 (cond (!decide (x.1 = y.1)) (K (dB false) []) (cond (!(Ty.beq Ty.bool x.2.1 y.2.1)) (K (dB false) []) (K (dB true) []))) := by kernel_rfl
theorem con110_ok : Con1 P 110 c110 := conR C110 func110 kN fun args hp K h0 => by
 obtain ⟨x, y, rfl, rfl, p0, hK⟩ := g2e h0
 have h : ok (F.laws_eqColumn x y) (fun r => K (dB r) []) := ok_of_eq (F.laws_eqColumn_eq x y p0) hK
 refine ⟨rfl, ann110, noLoops, (.dat Ty.bool), (no_loops (by kernel_rfl)), ?_⟩
 ·rw [vc110]
  exact (oC h (fun _ h => h) fun _ h => (oC h (fun _ h => h) fun _ h => h))
def c74 : Con := ⟨[.dat TCS, .dat TCS], fun args hp K => g2 (pD TCS) (pD TCS) (fun x y => (Sm TCS x) ∧ (Sm TCS y) ∧ (x = y) ∧ K (dB true) []) args hp, .bor⟩
@[reducible] def C74 : Ctx := cx [(110, c110)] 27 [] 0 false
def ann74 := an [[kp 3], [kp 1027], [kp 16], [kp 35], [kp 16419], [kp 35], [kp 67108899], [kp 16], [kp 16]] [[kp 0]]
@[reducible] def s74_0 (x : LC) (y : LC) (i0 : Int) (v0 : Unit) : St := ⟨[(0, .data TCS x), (1, .data TCS y), (5, dI i0)], []⟩
@[reducible] def LP74_0 (x : LC) (y : LC) (m : Nat) (st_ : St) (K : KX) : Prop := True ∧ LoopI (s74_0 x y) Z0 (x.length : Int) (F.laws_eqColumnS_l0 x y) (fun v0 : Unit => True) (outD (fun v0 : Unit => True → K (.exit 0) (⟨[], []⟩ : St)) (fun q0 : Unit => K .ret (⟨[(4, dB false)], []⟩ : St))) m st_
def L74 (x : LC) (y : LC) : Loops := lp1 0 (LP74_0 x y)
theorem vc74 (x : LC) (y : LC) (K : KA) : vcT C74 (L74 x y) ann74 f74 [.data TCS x, .data TCS y] [] (.dat Ty.bool) K =
 (cond (!decide ((x.length : Int) = (y.length : Int))) (K (dB false) []) (∃ m_, True ∧ LoopI (s74_0 x y) Z0 (x.length : Int) (F.laws_eqColumnS_l0 x y) (fun v0 : Unit => True) (outD (fun v0 : Unit => True → K (dB true) []) (fun q0 : Unit => K (dB false) [])) m_ (s74_0 x y Z0 ()))) := by kernel_rfl
theorem lvc74_0 (x : LC) (y : LC)  (i0 : Int) (v0 : Unit) (m : Nat) (K : KX) : lvT C74 (L74 x y) ann74 f74 0 0 (s74_0 x y i0 v0) m K =
 (cond (decide (i0 < (x.length : Int))) ((0 ≤ i0) ∧ (i0 < (x.length : Int)) ∧ (0 ≤ i0) ∧ (i0 < (y.length : Int)) ∧ ((nC x i0) = (nC y i0)) ∧ cond (!true) (K .ret (⟨[(4, dB false)], []⟩ : St)) (nxT (LP74_0 x y) m K (s74_0 x y (wrap64 (i0 + Z1)) ()))) (K (.exit 0) (⟨[], []⟩ : St))) := by kernel_rfl
theorem con74_ok : Con1 P 74 c74 := conR C74 func74 (kC con110_ok kN) fun args hp K h0 => by
 obtain ⟨x, y, rfl, rfl, h_x, h_y, p0, hK⟩ := g2e h0
 have h : ok (F.laws_eqColumnS x y) (fun r => K (dB r) []) := ok_of_eq (F.laws_eqColumnS_eq x y h_x h_y p0) hK
 refine ⟨rfl, ann74, (L74 x y), (.dat Ty.bool), (loopsN1 (i0 := 0) (by kernel_rfl) ?_), ?_⟩
 ·rintro _ _ K ⟨hc0, i0, v0, rfl, hl0, rfl, hv0, h⟩
  exact cast (lvc74_0 _ _ _ _ _ _).symm (loopI_step h (fun ht0 h => ⟨hl0, ⟨ht0, ⟨hl0, (oG h fun _ h => (oG h fun _ h => (oC h (fun _ h => h) fun _ h => (loopI_next (fun _ hm => ⟨hc0, hm⟩) _ rfl hl0 low0 ht0 (sm_len h_x) trivial h))))⟩⟩⟩) fun h => (h trivial))
 ·rw [vc74]
  exact (oC h (fun _ h => h) fun _ h => (loopI_start (fun m hm => ⟨trivial, hm⟩) Z0 _ rfl (Int.natCast_nonneg 0) trivial (ok_then h (fun v0 h hv0 => h) (fun q0 h => h))))
def c39 : Con := ⟨[.dat TTable, .dat TTable], fun args hp K => g2 (pD TTable) (pD TTable) (fun x y => (Sm TTable x) ∧ (Sm TTable y) ∧ (x = y) ∧ K (dB true) []) args hp, .plain⟩
@[reducible] def C39 : Ctx := cx [(13, c13), (74, c74)] 17 [] 0 false
def ann39 := an [[.fixRow 2 TTable, .fixRow 3 TTable, kp 12], [kp 1036], [kp 16], [kp 65536], [kp 16], [kp 16]] []
theorem vc39 (x : TTable.D) (y : TTable.D) (K : KA) : vcT C39 noLoops ann39 f39 [.data TTable x, .data TTable y] [] (.dat Ty.bool) K =
 ((Sm TCS x.1) ∧ (Sm TCS y.1) ∧ (x.1 = y.1) ∧ cond (!true) (K (dB false) []) ((Sm (Ty.sl TVS) x.2.1) ∧ (Sm (Ty.sl TVS) y.2.1) ∧ (x.2.1 = y.2.1) ∧ cond (!true) (K (dB false) []) (K (dB true) []))) := by kernel_rfl
theorem con39_ok : Con1 P 39 c39 := conR C39 func39 (kC con13_ok (kC con74_ok kN)) fun args hp K h0 => by
 obtain ⟨x, y, rfl, rfl, h_x, h_y, p0, hK⟩ := g2e h0
 have h : ok (F.laws_eqTable x y) (fun r => K (dB r) []) := ok_of_eq (F.laws_eqTable_eq x y h_x h_y p0) hK
 refine ⟨rfl, ann39, noLoops, (.dat Ty.bool), (no_loops (by kernel_rfl)), ?_⟩
 ·rw [vc39]
  exact ⟨h_x.1, ⟨h_y.1, (oG h fun _ h => (oC h (fun _ h => h) fun b_2 h => ⟨h_x.2.1, ⟨h_y.2.1, (oG h fun _ h => (cond_f (unf (bnf b_2)) h))⟩⟩))⟩⟩
def c14 : Con := ⟨[.dat TTb, .dat TTb], fun args hp K => g2 (pD TTb) (pD TTb) (fun x y => (Sm TTb x) ∧ (Sm TTb y) ∧ (x = y) ∧ K (dB true) []) args hp, .bor⟩
@[reducible] def C14 : Ctx := cx [(39, c39)] 27 [] 0 false
def ann14 := an [[kp 3], [kp 1027], [kp 16], [kp 35], [kp 16419], [kp 35], [kp 67108899], [kp 16], [kp 16]] [[kp 0]]
@[reducible] def s14_0 (x : LTb) (y : LTb) (i0 : Int) (v0 : Unit) : St := ⟨[(0, .data TTb x), (1, .data TTb y), (5, dI i0)], []⟩
@[reducible] def LP14_0 (x : LTb) (y : LTb) (m : Nat) (st_ : St) (K : KX) : Prop := True ∧ LoopI (s14_0 x y) Z0 (x.length : Int) (F.laws_eqTableS_l0 x y) (fun v0 : Unit => True) (outD (fun v0 : Unit => True → K (.exit 0) (⟨[], []⟩ : St)) (fun q0 : Unit => K .ret (⟨[(4, dB false)], []⟩ : St))) m st_
def L14 (x : LTb) (y : LTb) : Loops := lp1 0 (LP14_0 x y)
theorem vc14 (x : LTb) (y : LTb) (K : KA) : vcT C14 (L14 x y) ann14 f14 [.data TTb x, .data TTb y] [] (.dat Ty.bool) K =
 (cond (!decide ((x.length : Int) = (y.length : Int))) (K (dB false) []) (∃ m_, True ∧ LoopI (s14_0 x y) Z0 (x.length : Int) (F.laws_eqTableS_l0 x y) (fun v0 : Unit => True) (outD (fun v0 : Unit => True → K (dB true) []) (fun q0 : Unit => K (dB false) [])) m_ (s14_0 x y Z0 ()))) := by kernel_rfl
theorem lvc14_0 (x : LTb) (y : LTb)  (i0 : Int) (v0 : Unit) (m : Nat) (K : KX) : lvT C14 (L14 x y) ann14 f14 0 0 (s14_0 x y i0 v0) m K =
 (cond (decide (i0 < (x.length : Int))) ((0 ≤ i0) ∧ (i0 < (x.length : Int)) ∧ (0 ≤ i0) ∧ (i0 < (y.length : Int)) ∧ (Sm TTable (nT x i0)) ∧ (Sm TTable (nT y i0)) ∧ ((nT x i0) = (nT y i0)) ∧ cond (!true) (K .ret (⟨[(4, dB false)], []⟩ : St)) (nxT (LP14_0 x y) m K (s14_0 x y (wrap64 (i0 + Z1)) ()))) (K (.exit 0) (⟨[], []⟩ : St))) := by kernel_rfl
theorem con14_ok : Con1 P 14 c14 := conR C14 func14 (kC con39_ok kN) fun args hp K h0 => by
 obtain ⟨x, y, rfl, rfl, h_x, h_y, p0, hK⟩ := g2e h0
 have h : ok (F.laws_eqTableS x y) (fun r => K (dB r) []) := ok_of_eq (F.laws_eqTableS_eq x y h_x h_y p0) hK
 refine ⟨rfl, ann14, (L14 x y), (.dat Ty.bool), (loopsN1 (i0 := 0) (by kernel_rfl) ?_), ?_⟩
 ·rintro _ _ K ⟨hc0, i0, v0, rfl, hl0, rfl, hv0, h⟩
  exact cast (lvc14_0 _ _ _ _ _ _).symm (loopI_step h (fun ht0 h => ⟨hl0, ⟨ht0, ⟨hl0, (oG h fun _ h => ⟨(sm_nth h_x i0), ⟨(sm_nth h_y i0), (oG h fun _ h => (oC h (fun _ h => h) fun _ h => (loopI_next (fun _ hm => ⟨hc0, hm⟩) _ rfl hl0 low0 ht0 (sm_len h_x) trivial h)))⟩⟩)⟩⟩⟩) fun h => (h trivial))
 ·rw [vc14]
  exact (oC h (fun _ h => h) fun _ h => (loopI_start (fun m hm => ⟨trivial, hm⟩) Z0 _ rfl (Int.natCast_nonneg 0) trivial (ok_then h (fun v0 h hv0 => h) (fun q0 h => h))))
def c22 : Con := ⟨[.dat (Ty.sl TInt), .dat (Ty.sl TInt)], fun args hp K => g2 (pD (Ty.sl TInt)) (pD (Ty.sl TInt)) (fun x y => (Sm (Ty.sl TInt) x) ∧ (Sm (Ty.sl TInt) y) ∧ (x = y) ∧ K (dB true) []) args hp, .bor⟩
@[reducible] def C22 : Ctx := cx [] 26 [] 0 false
def ann22 := an [[kp 3], [kp 1027], [kp 16], [kp 35], [kp 16419], [kp 35], [kp 33554467], [kp 16], [kp 16]] [[kp 0]]
@[reducible] def s22_0 (x : (List Int)) (y : (List Int)) (i0 : Int) (v0 : Unit) : St := ⟨[(0, .data (Ty.sl TInt) x), (1, .data (Ty.sl TInt) y), (5, dI i0)], []⟩
@[reducible] def LP22_0 (x : (List Int)) (y : (List Int)) (m : Nat) (st_ : St) (K : KX) : Prop := True ∧ LoopI (s22_0 x y) Z0 (x.length : Int) (F.laws_eqIntS_l0 x y) (fun v0 : Unit => True) (outD (fun v0 : Unit => True → K (.exit 0) (⟨[], []⟩ : St)) (fun q0 : Unit => K .ret (⟨[(4, dB false)], []⟩ : St))) m st_
def L22 (x : (List Int)) (y : (List Int)) : Loops := lp1 0 (LP22_0 x y)
theorem vc22 (x : (List Int)) (y : (List Int)) (K : KA) : vcT C22 (L22 x y) ann22 f22 [.data (Ty.sl TInt) x, .data (Ty.sl TInt) y] [] (.dat Ty.bool) K =
 (cond (!decide ((x.length : Int) = (y.length : Int))) (K (dB false) []) (∃ m_, True ∧ LoopI (s22_0 x y) Z0 (x.length : Int) (F.laws_eqIntS_l0 x y) (fun v0 : Unit => True) (outD (fun v0 : Unit => True → K (dB true) []) (fun q0 : Unit => K (dB false) [])) m_ (s22_0 x y Z0 ()))) := by kernel_rfl
theorem lvc22_0 (x : (List Int)) (y : (List Int))  (i0 : Int) (v0 : Unit) (m : Nat) (K : KX) : lvT C22 (L22 x y) ann22 f22 0 0 (s22_0 x y i0 v0) m K =
 (cond (decide (i0 < (x.length : Int))) ((0 ≤ i0) ∧ (i0 < (x.length : Int)) ∧ (0 ≤ i0) ∧ (i0 < (y.length : Int)) ∧ cond (!decide ((nI x i0) = (nI y i0))) (K .ret (⟨[(4, dB false)], []⟩ : St)) (nxT (LP22_0 x y) m K (s22_0 x y (wrap64 (i0 + Z1)) ()))) (K (.exit 0) (⟨[], []⟩ : St))) := by kernel_rfl
theorem con22_ok : Con1 P 22 c22 := conR C22 func22 kN fun args hp K h0 => by
 obtain ⟨x, y, rfl, rfl, h_x, h_y, p0, hK⟩ := g2e h0
 have h : ok (F.laws_eqIntS x y) (fun r => K (dB r) []) := ok_of_eq (F.laws_eqIntS_eq x y h_x h_y p0) hK
 refine ⟨rfl, ann22, (L22 x y), (.dat Ty.bool), (loopsN1 (i0 := 0) (by kernel_rfl) ?_), ?_⟩
 ·rintro _ _ K ⟨hc0, i0, v0, rfl, hl0, rfl, hv0, h⟩
  exact cast (lvc22_0 _ _ _ _ _ _).symm (loopI_step h (fun ht0 h => ⟨hl0, ⟨ht0, ⟨hl0, (oG h fun _ h => (oC h (fun _ h => h) fun _ h => (loopI_next (fun _ hm => ⟨hc0, hm⟩) _ rfl hl0 low0 ht0 (sm_len h_x) trivial h)))⟩⟩⟩) fun h => (h trivial))
 ·rw [vc22]
  exact (oC h (fun _ h => h) fun _ h => (loopI_start (fun m hm => ⟨trivial, hm⟩) Z0 _ rfl (Int.natCast_nonneg 0) trivial (ok_then h (fun v0 h hv0 => h) (fun q0 h => h))))
def c111 : Con := ⟨[.dat TPart, .dat TPart], fun args hp K => g2 (pD TPart) (pD TPart) (fun x y => (Sm TPart x) ∧ (Sm TPart y) ∧ (x = y) ∧ K (dB true) []) args hp, .plain⟩
@[reducible] def C111 : Ctx := cx [(73, c73)] 21 [] 0 false
def ann111 := an [[.fixRow 2 TPart, .fixRow 3 TPart, kp 12], [kp 524], [kp 16], [kp 16396], [kp 16], [kp 1048576], [kp 16], [kp 16]] []
theorem vc111 (x : TPart.D) (y : TPart.D) (K : KA) : vcT C111 noLoops ann111 f111 [.data TPart x, .data TPart y] [] (.dat Ty.bool) K =
 (cond (!decide (x.1 = y.1)) (K (dB false) []) (cond (!decide (x.2.1 = y.2.1)) (K (dB false) []) ((Sm TValue x.2.2.1) ∧ (Sm TValue y.2.2.1) ∧ (x.2.2.1 = y.2.2.1) ∧ cond (!true) (K (dB false) []) (K (dB true) [])))) := by kernel_rfl
theorem con111_ok : Con1 P 111 c111 := conR C111 func111 (kC con73_ok kN) fun args hp K h0 => by
 obtain ⟨x, y, rfl, rfl, h_x, h_y, p0, hK⟩ := g2e h0
 have h : ok (F.laws_eqPart x y) (fun r => K (dB r) []) := ok_of_eq (F.laws_eqPart_eq x y h_x h_y p0) hK
 refine ⟨rfl, ann111, noLoops, (.dat Ty.bool), (no_loops (by kernel_rfl)), ?_⟩
 ·rw [vc111]
  exact (oC h (fun _ h => h) fun _ h => (oC h (fun _ h => h) fun _ h => ⟨h_x.2.2.1, ⟨h_y.2.2.1, (oG h fun _ h => (oC h (fun _ h => h) fun _ h => h))⟩⟩))
def c75 : Con := ⟨[.dat TPS, .dat TPS], fun args hp K => g2 (pD TPS) (pD TPS) (fun x y => (Sm TPS x) ∧ (Sm TPS y) ∧ (x = y) ∧ K (dB true) []) args hp, .bor⟩
@[reducible] def C75 : Ctx := cx [(111, c111)] 27 [] 0 false
def ann75 := an [[kp 3], [kp 1027], [kp 16], [kp 35], [kp 16419], [kp 35], [kp 67108899], [kp 16], [kp 16]] [[kp 0]]
@[reducible] def s75_0 (x : LPt) (y : LPt) (i0 : Int) (v0 : Unit) : St := ⟨[(0, .data TPS x), (1, .data TPS y), (5, dI i0)], []⟩
@[reducible] def LP75_0 (x : LPt) (y : LPt) (m : Nat) (st_ : St) (K : KX) : Prop := True ∧ LoopI (s75_0 x y) Z0 (x.length : Int) (F.laws_eqPartS_l0 x y) (fun v0 : Unit => True) (outD (fun v0 : Unit => True → K (.exit 0) (⟨[], []⟩ : St)) (fun q0 : Unit => K .ret (⟨[(4, dB false)], []⟩ : St))) m st_
def L75 (x : LPt) (y : LPt) : Loops := lp1 0 (LP75_0 x y)
theorem vc75 (x : LPt) (y : LPt) (K : KA) : vcT C75 (L75 x y) ann75 f75 [.data TPS x, .data TPS y] [] (.dat Ty.bool) K =
 (cond (!decide ((x.length : Int) = (y.length : Int))) (K (dB false) []) (∃ m_, True ∧ LoopI (s75_0 x y) Z0 (x.length : Int) (F.laws_eqPartS_l0 x y) (fun v0 : Unit => True) (outD (fun v0 : Unit => True → K (dB true) []) (fun q0 : Unit => K (dB false) [])) m_ (s75_0 x y Z0 ()))) := by kernel_rfl
theorem lvc75_0 (x : LPt) (y : LPt)  (i0 : Int) (v0 : Unit) (m : Nat) (K : KX) : lvT C75 (L75 x y) ann75 f75 0 0 (s75_0 x y i0 v0) m K =
 (cond (decide (i0 < (x.length : Int))) ((0 ≤ i0) ∧ (i0 < (x.length : Int)) ∧ (0 ≤ i0) ∧ (i0 < (y.length : Int)) ∧ (Sm TPart (nP x i0)) ∧ (Sm TPart (nP y i0)) ∧ ((nP x i0) = (nP y i0)) ∧ cond (!true) (K .ret (⟨[(4, dB false)], []⟩ : St)) (nxT (LP75_0 x y) m K (s75_0 x y (wrap64 (i0 + Z1)) ()))) (K (.exit 0) (⟨[], []⟩ : St))) := by kernel_rfl
theorem con75_ok : Con1 P 75 c75 := conR C75 func75 (kC con111_ok kN) fun args hp K h0 => by
 obtain ⟨x, y, rfl, rfl, h_x, h_y, p0, hK⟩ := g2e h0
 have h : ok (F.laws_eqPartS x y) (fun r => K (dB r) []) := ok_of_eq (F.laws_eqPartS_eq x y h_x h_y p0) hK
 refine ⟨rfl, ann75, (L75 x y), (.dat Ty.bool), (loopsN1 (i0 := 0) (by kernel_rfl) ?_), ?_⟩
 ·rintro _ _ K ⟨hc0, i0, v0, rfl, hl0, rfl, hv0, h⟩
  exact cast (lvc75_0 _ _ _ _ _ _).symm (loopI_step h (fun ht0 h => ⟨hl0, ⟨ht0, ⟨hl0, (oG h fun _ h => ⟨(sm_nth h_x i0), ⟨(sm_nth h_y i0), (oG h fun _ h => (oC h (fun _ h => h) fun _ h => (loopI_next (fun _ hm => ⟨hc0, hm⟩) _ rfl hl0 low0 ht0 (sm_len h_x) trivial h)))⟩⟩)⟩⟩⟩) fun h => (h trivial))
 ·rw [vc75]
  exact (oC h (fun _ h => h) fun _ h => (loopI_start (fun m hm => ⟨trivial, hm⟩) Z0 _ rfl (Int.natCast_nonneg 0) trivial (ok_then h (fun v0 h hv0 => h) (fun q0 h => h))))
def c40 : Con := ⟨[.dat TStep, .dat TStep], fun args hp K => g2 (pD TStep) (pD TStep) (fun x y => (Sm TStep x) ∧ (Sm TStep y) ∧ (x = y) ∧ K (dB true) []) args hp, .plain⟩
@[reducible] def C40 : Ctx := cx [(22, c22), (75, c75)] 37 [] 0 false
def ann40 := an [[.fixRow 2 TStep, .fixRow 3 TStep, kp 12], [kp 524], [kp 16], [kp 16396], [kp 16], [kp 524300], [kp 16], [kp 16777228], [kp 16], [kp 1073741836], [kp 16], [.keep [36]], [kp 16], [kp 16]] []
theorem vc40 (x : TStep.D) (y : TStep.D) (K : KA) : vcT C40 noLoops ann40 f40 [.data TStep x, .data TStep y] [] (.dat Ty.bool) K =
 (cond (!decide (x.1 = y.1)) (K (dB false) []) (cond (!decide (x.2.1 = y.2.1)) (K (dB false) []) (cond (!decide (x.2.2.1 = y.2.2.1)) (K (dB false) []) (cond (!decide (x.2.2.2.1 = y.2.2.2.1)) (K (dB false) []) ((Sm TPS x.2.2.2.2.1) ∧ (Sm TPS y.2.2.2.2.1) ∧ (x.2.2.2.2.1 = y.2.2.2.2.1) ∧ cond (!true) (K (dB false) []) ((Sm (Ty.sl TInt) x.2.2.2.2.2.1) ∧ (Sm (Ty.sl TInt) y.2.2.2.2.2.1) ∧ (x.2.2.2.2.2.1 = y.2.2.2.2.2.1) ∧ cond (!true) (K (dB false) []) (K (dB true) []))))))) := by kernel_rfl
theorem con40_ok : Con1 P 40 c40 := conR C40 func40 (kC con22_ok (kC con75_ok kN)) fun args hp K h0 => by
 obtain ⟨x, y, rfl, rfl, h_x, h_y, p0, hK⟩ := g2e h0
 have h : ok (F.laws_eqStep x y) (fun r => K (dB r) []) := ok_of_eq (F.laws_eqStep_eq x y h_x h_y p0) hK
 refine ⟨rfl, ann40, noLoops, (.dat Ty.bool), (no_loops (by kernel_rfl)), ?_⟩
 ·rw [vc40]
  exact (oC h (fun _ h => h) fun _ h => (oC h (fun _ h => h) fun _ h => (oC h (fun _ h => h) fun _ h => (oC h (fun _ h => h) fun _ h => ⟨h_x.2.2.2.2.1, ⟨h_y.2.2.2.2.1, (oG h fun _ h => (oC h (fun _ h => h) fun b_6 h => ⟨h_x.2.2.2.2.2.1, ⟨h_y.2.2.2.2.2.1, (oG h fun _ h => (cond_f (unf (bnf b_6)) h))⟩⟩))⟩⟩))))
def c15 : Con := ⟨[.dat TSS, .dat TSS], fun args hp K => g2 (pD TSS) (pD TSS) (fun x y => (Sm TSS x) ∧ (Sm TSS y) ∧ (x = y) ∧ K (dB true) []) args hp, .bor⟩
@[reducible] def C15 : Ctx := cx [(40, c40)] 27 [] 0 false
def ann15 := an [[kp 3], [kp 1027], [kp 16], [kp 35], [kp 16419], [kp 35], [kp 67108899], [kp 16], [kp 16]] [[kp 0]]
@[reducible] def s15_0 (x : LS) (y : LS) (i0 : Int) (v0 : Unit) : St := ⟨[(0, .data TSS x), (1, .data TSS y), (5, dI i0)], []⟩
@[reducible] def LP15_0 (x : LS) (y : LS) (m : Nat) (st_ : St) (K : KX) : Prop := True ∧ LoopI (s15_0 x y) Z0 (x.length : Int) (F.laws_eqStepS_l0 x y) (fun v0 : Unit => True) (outD (fun v0 : Unit => True → K (.exit 0) (⟨[], []⟩ : St)) (fun q0 : Unit => K .ret (⟨[(4, dB false)], []⟩ : St))) m st_
def L15 (x : LS) (y : LS) : Loops := lp1 0 (LP15_0 x y)
theorem vc15 (x : LS) (y : LS) (K : KA) : vcT C15 (L15 x y) ann15 f15 [.data TSS x, .data TSS y] [] (.dat Ty.bool) K =
 (cond (!decide ((x.length : Int) = (y.length : Int))) (K (dB false) []) (∃ m_, True ∧ LoopI (s15_0 x y) Z0 (x.length : Int) (F.laws_eqStepS_l0 x y) (fun v0 : Unit => True) (outD (fun v0 : Unit => True → K (dB true) []) (fun q0 : Unit => K (dB false) [])) m_ (s15_0 x y Z0 ()))) := by kernel_rfl
theorem lvc15_0 (x : LS) (y : LS)  (i0 : Int) (v0 : Unit) (m : Nat) (K : KX) : lvT C15 (L15 x y) ann15 f15 0 0 (s15_0 x y i0 v0) m K =
 (cond (decide (i0 < (x.length : Int))) ((0 ≤ i0) ∧ (i0 < (x.length : Int)) ∧ (0 ≤ i0) ∧ (i0 < (y.length : Int)) ∧ (Sm TStep (nS x i0)) ∧ (Sm TStep (nS y i0)) ∧ ((nS x i0) = (nS y i0)) ∧ cond (!true) (K .ret (⟨[(4, dB false)], []⟩ : St)) (nxT (LP15_0 x y) m K (s15_0 x y (wrap64 (i0 + Z1)) ()))) (K (.exit 0) (⟨[], []⟩ : St))) := by kernel_rfl
theorem con15_ok : Con1 P 15 c15 := conR C15 func15 (kC con40_ok kN) fun args hp K h0 => by
 obtain ⟨x, y, rfl, rfl, h_x, h_y, p0, hK⟩ := g2e h0
 have h : ok (F.laws_eqStepS x y) (fun r => K (dB r) []) := ok_of_eq (F.laws_eqStepS_eq x y h_x h_y p0) hK
 refine ⟨rfl, ann15, (L15 x y), (.dat Ty.bool), (loopsN1 (i0 := 0) (by kernel_rfl) ?_), ?_⟩
 ·rintro _ _ K ⟨hc0, i0, v0, rfl, hl0, rfl, hv0, h⟩
  exact cast (lvc15_0 _ _ _ _ _ _).symm (loopI_step h (fun ht0 h => ⟨hl0, ⟨ht0, ⟨hl0, (oG h fun _ h => ⟨(sm_nth h_x i0), ⟨(sm_nth h_y i0), (oG h fun _ h => (oC h (fun _ h => h) fun _ h => (loopI_next (fun _ hm => ⟨hc0, hm⟩) _ rfl hl0 low0 ht0 (sm_len h_x) trivial h)))⟩⟩)⟩⟩⟩) fun h => (h trivial))
 ·rw [vc15]
  exact (oC h (fun _ h => h) fun _ h => (loopI_start (fun m hm => ⟨trivial, hm⟩) Z0 _ rfl (Int.natCast_nonneg 0) trivial (ok_then h (fun v0 h hv0 => h) (fun q0 h => h))))
def c76 : Con := ⟨[.dat TInt], fun args hp K => g1 (pD TInt) (fun k => (k ≤ M.big) ∧ (∀ r : ByteArray, r = (M.markText k) → K (.data Ty.str r) [])) args hp, .plain⟩
@[reducible] def C76 : Ctx := cx [] 20 [] 0 false
def ann76 := an [[kp 1], [kp 33], [kp 4], [kp 9], [kp 137], [kp 9], [kp 9], [kp 4]] [[kp 8]]
@[reducible] def s76_0 (k : Int) (v0 : Int × ByteArray) : St := ⟨[(0, dI v0.1), (3, .data Ty.str v0.2)], []⟩
@[reducible] def LP76_0 (k : Int) (m : Nat) (st_ : St) (K : KX) : Prop := True ∧ LoopW (s76_0 k) (F.laws_markText_l0 k) (fun v0 : Int × ByteArray => True) (fun e0 : ByteArray => True → K (.exit 0) (⟨[(3, .data Ty.str e0)], []⟩ : St)) m st_
def L76 (k : Int) : Loops := lp1 0 (LP76_0 k)
theorem vc76 (k : Int) (K : KA) : vcT C76 (L76 k) ann76 f76 [dI k] [] (.dat Ty.str) K =
 (cond (decide (k ≤ Z0)) (K (.data Ty.str (⟨#[109, 48]⟩ : ByteArray)) []) (∃ m_, True ∧ LoopW (s76_0 k) (F.laws_markText_l0 k) (fun v0 : Int × ByteArray => True) (fun e0 : ByteArray => True → ((⟨#[109]⟩ : ByteArray).size + e0.size ≤ 9223372036854775807) ∧ K (.data Ty.str ((⟨#[109]⟩ : ByteArray) ++ e0)) []) m_ (s76_0 k (k, (⟨#[]⟩ : ByteArray))))) := by kernel_rfl
theorem lvc76_0 (k : Int)  (v0 : Int × ByteArray) (m : Nat) (K : KX) : lvT C76 (L76 k) ann76 f76 0 0 (s76_0 k v0) m K =
 (cond (decide (Z0 < v0.1)) (((10 : Int) ≠ 0) ∧ ((strOf [((wrap64 ((48 : Int) + (v0.1.tmod (10 : Int)))) % 256)]).size + v0.2.size ≤ 9223372036854775807) ∧ ((10 : Int) ≠ 0) ∧ (nxT (LP76_0 k) m K (s76_0 k (wrap64 (v0.1.tdiv (10 : Int)), ((strOf [((wrap64 ((48 : Int) + (v0.1.tmod (10 : Int)))) % 256)]) ++ v0.2))))) (K (.exit 0) (⟨[(3, .data Ty.str v0.2)], []⟩ : St))) := by kernel_rfl
theorem con76_ok : Con1 P 76 c76 := conR C76 func76 kN fun args hp K h0 => by
 obtain ⟨k, rfl, rfl, p0, hK⟩ := g1e h0
 have h : ok (F.laws_markText k) (fun r => K (.data Ty.str r) []) := ok_of_eq (F.laws_markText_eq k p0) (hK _ rfl)
 refine ⟨rfl, ann76, (L76 k), (.dat Ty.str), (loopsN1 (i0 := 0) (by kernel_rfl) ?_), ?_⟩
 ·rintro _ _ K ⟨hc0, v0, rfl, hv0, h⟩
  exact cast (lvc76_0 _ _ _ _).symm (loopW_step h (fun m1 hm0 h => (oC h (fun _ h => ⟨(by decide), (oG h fun _ h => ⟨(by decide), (loopW_next (fun _ hm => ⟨hc0, hm⟩) hm0 _ rfl trivial h)⟩)⟩) fun _ h => ((ok_ret h :) trivial))))
 ·rw [vc76]
  exact (oC h (fun _ h => h) fun _ h => (loopW_start (fun m hm => ⟨trivial, hm⟩) _ rfl trivial (ok_bind h (fun e0 h hv0 => (oG h fun _ h => h)))))
def c43 : Con := ⟨[.dat TInt], fun args hp K => hpN 1000000 false TValue (fun x => args2 (fun a0 a1 => withC 1000000 (x.length : Int) a0 (withD TInt a1 fun k => (Ln TVS x) ∧ (0 ≤ k) ∧ (k + (M.count TVS x : Int) ≤ M.big) ∧ (∀ r : LV × Int, r = (M.mark TVS x k, k + (M.count TVS x : Int)) → K (dI r.2) [(1000000, .arr false TValue r.1)]))) args []) hp, .io⟩
@[reducible] def C43 : Ctx := cx [(76, c76)] 35 [] 0 false
def ann43 := an [[kp 3], [kp 35], [kp 547], [kp 35], [kp 35], [kp 35], [kp 35], [kp 35], [kp 35], [kp 35], [kp 16]] [[kp 2]]
@[reducible] def s43_0 (x : LV) (k : Int) (i0 : Int) (v0 : Int × LV) : St := ⟨[(0, .clp 1000000 (x.length : Int)), (1, dI v0.1), (5, dI i0)], [(1000000, .arr false TValue v0.2)]⟩
@[reducible] def LP43_0 (x : LV) (k : Int) (m : Nat) (st_ : St) (K : KX) : Prop := True ∧ LoopI (s43_0 x k) Z0 (x.length : Int) (F.laws_markValueS_l0 x k) (fun v0 : Int × LV => True) (outD (fun v0 : Int × LV => True → K (.exit 0) (⟨[(1, dI v0.1)], [(1000000, .arr false TValue v0.2)]⟩ : St)) (fun _ => False)) m st_
def L43 (x : LV) (k : Int) : Loops := lp1 0 (LP43_0 x k)
theorem vc43 (x : LV) (k : Int) (K : KA) : vcT C43 (L43 x k) ann43 f43 [.clp 1000000 (x.length : Int), dI k] [(1000000, .arr false TValue x)] .raw K =
 (∃ m_, True ∧ LoopI (s43_0 x k) Z0 (x.length : Int) (F.laws_markValueS_l0 x k) (fun v0 : Int × LV => True) (outD (fun v0 : Int × LV => True → K (dI v0.1) [(1000000, .arr false TValue v0.2)]) (fun _ => False)) m_ (s43_0 x k Z0 (k, x))) := by kernel_rfl
theorem lvc43_0 (x : LV) (k : Int)  (i0 : Int) (v0 : Int × LV) (m : Nat) (K : KX) : lvT C43 (L43 x k) ann43 f43 0 0 (s43_0 x k i0 v0) m K =
 (cond (decide (i0 < (x.length : Int))) ((0 ≤ i0) ∧ (i0 < (x.length : Int)) ∧ (0 ≤ i0) ∧ (i0 < (x.length : Int)) ∧ (let y1 : LV := ((v0.2.set i0.toNat (v0.1, (nV v0.2 i0).2)).set i0.toNat ((nV (v0.2.set i0.toNat (v0.1, (nV v0.2 i0).2)) i0).1, (wrap64 (v0.1 + Z1), (nV (v0.2.set i0.toNat (v0.1, (nV v0.2 i0).2)) i0).2.2))); ((wrap64 (wrap64 (v0.1 + Z1) + Z1)) ≤ M.big) ∧ (∀ r1 : ByteArray, r1 = (M.markText (wrap64 (wrap64 (v0.1 + Z1) + Z1))) → (0 ≤ i0) ∧ (i0 < (x.length : Int)) ∧ (let y2 : LV := (y1.set i0.toNat ((nV y1 i0).1, ((nV y1 i0).2.1, (r1, ())))); (nxT (LP43_0 x k) m K (s43_0 x k (wrap64 (i0 + Z1)) (wrap64 (wrap64 (wrap64 (v0.1 + Z1) + Z1) + Z1), y2))))))) (K (.exit 0) (⟨[(1, dI v0.1)], [(1000000, .arr false TValue v0.2)]⟩ : St))) := by kernel_rfl
theorem con43_ok : Con1 P 43 c43 := conR C43 func43 (kC con76_ok kN) fun args hp K h0 => by
 unfold c43 at h0
 dsimp only at h0
 obtain ⟨x, rfl, h00⟩ := hpN_elim (n := 1000000) (d := false) (t := TValue) h0
 obtain ⟨a0, a1, rfl, _, h1⟩ := args2_elim h00
 obtain ⟨rfl, h2⟩ := withC_elim h1
 obtain ⟨k, rfl, h3⟩ := withD_elim h2
 obtain ⟨h_x, p0, p1, hK⟩ := h3
 have h : ok (F.laws_markValueS x k) (fun r => K (dI r.2) [(1000000, .arr false TValue r.1)]) := ok_of_eq (F.laws_markValueS_eq x k h_x p0 p1) (hK _ rfl)
 refine ⟨rfl, ann43, (L43 x k), .raw, (loopsN1 (i0 := 0) (by kernel_rfl) ?_), ?_⟩
 ·rintro _ _ K ⟨hc0, i0, v0, rfl, hl0, rfl, hv0, h⟩
  exact cast (lvc43_0 _ _ _ _ _ _).symm (loopI_step h (fun ht0 h => ⟨hl0, ⟨ht0, ⟨hl0, ⟨ht0, (have h := ok_let h _ rfl; (oG h fun _ h => (oL h fun _ _ h => ⟨hl0, ⟨ht0, (have h := ok_let h _ rfl; (loopI_next (fun _ hm => ⟨hc0, hm⟩) _ rfl hl0 low0 ht0 (sm_len h_x) trivial h))⟩⟩)))⟩⟩⟩⟩) fun h => (h trivial))
 ·rw [vc43]
  exact (loopI_start (fun m hm => ⟨trivial, hm⟩) Z0 _ rfl (Int.natCast_nonneg 0) trivial (ok_then h (fun v0 h hv0 => h) (fun _ h => h.elim)))
def c18 : Con := ⟨[.dat TInt], fun args hp K => hpN 1000000 true TVS (fun x => args2 (fun a0 a1 => withC 1000000 (x.length : Int) a0 (withD TInt a1 fun k => (Ln (Ty.sl TVS) x) ∧ (0 ≤ k) ∧ (k + (M.count (Ty.sl TVS) x : Int) ≤ M.big) ∧ (∀ r : (List LV) × Int, r = (M.mark (Ty.sl TVS) x k, k + (M.count (Ty.sl TVS) x : Int)) → K (dI r.2) [(1000000, .arr true TVS r.1)]))) args []) hp, .io⟩
@[reducible] def C18 : Ctx := cx [(43, c43)] 19 [] 0 false
def ann18 := an [[kp 3], [kp 35], [kp 547], [kp 35], [kp 35], [kp 16]] [[kp 2]]
@[reducible] def s18_0 (x : (List LV)) (k : Int) (i0 : Int) (v0 : Int × (List LV)) : St := ⟨[(0, .clp 1000000 (x.length : Int)), (1, dI v0.1), (5, dI i0)], [(1000000, .arr true TVS v0.2)]⟩
@[reducible] def LP18_0 (x : (List LV)) (k : Int) (m : Nat) (st_ : St) (K : KX) : Prop := True ∧ LoopI (s18_0 x k) Z0 (x.length : Int) (F.laws_markValueSS_l0 x k) (fun v0 : Int × (List LV) => True) (outD (fun v0 : Int × (List LV) => True → K (.exit 0) (⟨[(1, dI v0.1)], [(1000000, .arr true TVS v0.2)]⟩ : St)) (fun _ => False)) m st_
def L18 (x : (List LV)) (k : Int) : Loops := lp1 0 (LP18_0 x k)
theorem vc18 (x : (List LV)) (k : Int) (K : KA) : vcT C18 (L18 x k) ann18 f18 [.clp 1000000 (x.length : Int), dI k] [(1000000, .arr true TVS x)] .raw K =
 (∃ m_, True ∧ LoopI (s18_0 x k) Z0 (x.length : Int) (F.laws_markValueSS_l0 x k) (fun v0 : Int × (List LV) => True) (outD (fun v0 : Int × (List LV) => True → K (dI v0.1) [(1000000, .arr true TVS v0.2)]) (fun _ => False)) m_ (s18_0 x k Z0 (k, x))) := by kernel_rfl
theorem lvc18_0 (x : (List LV)) (k : Int)  (i0 : Int) (v0 : Int × (List LV)) (m : Nat) (K : KX) : lvT C18 (L18 x k) ann18 f18 0 0 (s18_0 x k i0 v0) m K =
 (cond (decide (i0 < (x.length : Int))) ((0 ≤ i0) ∧ (i0 < (x.length : Int)) ∧ (((nth (t := TVS) v0.2 i0).length : Int) = ((nth (t := TVS) v0.2 i0).length : Int)) ∧ (Ln TVS (nth (t := TVS) v0.2 i0)) ∧ (0 ≤ v0.1) ∧ (v0.1 + (M.count TVS (nth (t := TVS) v0.2 i0) : Int) ≤ M.big) ∧ (∀ r1 : LV × Int, r1 = (M.mark TVS (nth (t := TVS) v0.2 i0) v0.1, v0.1 + (M.count TVS (nth (t := TVS) v0.2 i0) : Int)) → (r1.1.length = (nth (t := TVS) v0.2 i0).length) ∧ (nxT (LP18_0 x k) m K (s18_0 x k (wrap64 (i0 + Z1)) (r1.2, (v0.2.set i0.toNat r1.1)))))) (K (.exit 0) (⟨[(1, dI v0.1)], [(1000000, .arr true TVS v0.2)]⟩ : St))) := by kernel_rfl
theorem con18_ok : Con1 P 18 c18 := conR C18 func18 (kC con43_ok kN) fun args hp K h0 => by
 unfold c18 at h0
 dsimp only at h0
 obtain ⟨x, rfl, h00⟩ := hpN_elim (n := 1000000) (d := true) (t := TVS) h0
 obtain ⟨a0, a1, rfl, _, h1⟩ := args2_elim h00
 obtain ⟨rfl, h2⟩ := withC_elim h1
 obtain ⟨k, rfl, h3⟩ := withD_elim h2
 obtain ⟨h_x, p0, p1, hK⟩ := h3
 have h : ok (F.laws_markValueSS x k) (fun r => K (dI r.2) [(1000000, .arr true TVS r.1)]) := ok_of_eq (F.laws_markValueSS_eq x k h_x p0 p1) (hK _ rfl)
 refine ⟨rfl, ann18, (L18 x k), .raw, (loopsN1 (i0 := 0) (by kernel_rfl) ?_), ?_⟩
 ·rintro _ _ K ⟨hc0, i0, v0, rfl, hl0, rfl, hv0, h⟩
  exact cast (lvc18_0 _ _ _ _ _ _).symm (loopI_step h (fun ht0 h => ⟨hl0, ⟨ht0, ⟨rfl, (oG h fun _ h => (oG h fun _ h => (oG h fun _ h => (oL h fun _ er1 h => ⟨(by rw [er1]; exact (M.mark_len TValue _ _)), (loopI_next (fun _ hm => ⟨hc0, hm⟩) _ rfl hl0 low0 ht0 (sm_len h_x) trivial h)⟩))))⟩⟩⟩) fun h => (h trivial))
 ·rw [vc18]
  exact (loopI_start (fun m hm => ⟨trivial, hm⟩) Z0 _ rfl (Int.natCast_nonneg 0) trivial (ok_then h (fun v0 h hv0 => h) (fun _ h => h.elim)))
def c41 : Con := ⟨[.dat TInt], fun args hp K => hpN 1000000 false TColumn (fun x => args2 (fun a0 a1 => withC 1000000 (x.length : Int) a0 (withD TInt a1 fun k => (Ln TCS x) ∧ (0 ≤ k) ∧ (k + (M.count TCS x : Int) ≤ M.big) ∧ (∀ r : LC × Int, r = (M.mark TCS x k, k + (M.count TCS x : Int)) → K (dI r.2) [(1000000, .arr false TColumn r.1)]))) args []) hp, .io⟩
@[reducible] def C41 : Ctx := cx [] 29 [] 0 false
def ann41 := an [[kp 3], [kp 35], [kp 547], [kp 35], [kp 35], [kp 35], [kp 35], [kp 35], [kp 16]] [[kp 2]]
@[reducible] def s41_0 (x : LC) (k : Int) (i0 : Int) (v0 : Int × LC) : St := ⟨[(0, .clp 1000000 (x.length : Int)), (1, dI v0.1), (5, dI i0)], [(1000000, .arr false TColumn v0.2)]⟩
@[reducible] def LP41_0 (x : LC) (k : Int) (m : Nat) (st_ : St) (K : KX) : Prop := True ∧ LoopI (s41_0 x k) Z0 (x.length : Int) (F.laws_markColumnS_l0 x k) (fun v0 : Int × LC => True) (outD (fun v0 : Int × LC => True → K (.exit 0) (⟨[(1, dI v0.1)], [(1000000, .arr false TColumn v0.2)]⟩ : St)) (fun _ => False)) m st_
def L41 (x : LC) (k : Int) : Loops := lp1 0 (LP41_0 x k)
theorem vc41 (x : LC) (k : Int) (K : KA) : vcT C41 (L41 x k) ann41 f41 [.clp 1000000 (x.length : Int), dI k] [(1000000, .arr false TColumn x)] .raw K =
 (∃ m_, True ∧ LoopI (s41_0 x k) Z0 (x.length : Int) (F.laws_markColumnS_l0 x k) (fun v0 : Int × LC => True) (outD (fun v0 : Int × LC => True → K (dI v0.1) [(1000000, .arr false TColumn v0.2)]) (fun _ => False)) m_ (s41_0 x k Z0 (k, x))) := by kernel_rfl
theorem lvc41_0 (x : LC) (k : Int)  (i0 : Int) (v0 : Int × LC) (m : Nat) (K : KX) : lvT C41 (L41 x k) ann41 f41 0 0 (s41_0 x k i0 v0) m K =
 (cond (decide (i0 < (x.length : Int))) ((0 ≤ i0) ∧ (i0 < (x.length : Int)) ∧ (Z3 ≠ 0) ∧ (0 ≤ i0) ∧ (i0 < (x.length : Int)) ∧ (let y1 : LC := ((v0.2.set i0.toNat (v0.1, (nC v0.2 i0).2)).set i0.toNat ((nC (v0.2.set i0.toNat (v0.1, (nC v0.2 i0).2)) i0).1, ((decide (((wrap64 (v0.1 + Z1)).tmod Z3) = Z0)), ()))); (nxT (LP41_0 x k) m K (s41_0 x k (wrap64 (i0 + Z1)) (wrap64 (wrap64 (v0.1 + Z1) + Z1), y1))))) (K (.exit 0) (⟨[(1, dI v0.1)], [(1000000, .arr false TColumn v0.2)]⟩ : St))) := by kernel_rfl
theorem con41_ok : Con1 P 41 c41 := conR C41 func41 kN fun args hp K h0 => by
 unfold c41 at h0
 dsimp only at h0
 obtain ⟨x, rfl, h00⟩ := hpN_elim (n := 1000000) (d := false) (t := TColumn) h0
 obtain ⟨a0, a1, rfl, _, h1⟩ := args2_elim h00
 obtain ⟨rfl, h2⟩ := withC_elim h1
 obtain ⟨k, rfl, h3⟩ := withD_elim h2
 obtain ⟨h_x, p0, p1, hK⟩ := h3
 have h : ok (F.laws_markColumnS x k) (fun r => K (dI r.2) [(1000000, .arr false TColumn r.1)]) := ok_of_eq (F.laws_markColumnS_eq x k h_x p0 p1) (hK _ rfl)
 refine ⟨rfl, ann41, (L41 x k), .raw, (loopsN1 (i0 := 0) (by kernel_rfl) ?_), ?_⟩
 ·rintro _ _ K ⟨hc0, i0, v0, rfl, hl0, rfl, hv0, h⟩
  exact cast (lvc41_0 _ _ _ _ _ _).symm (loopI_step h (fun ht0 h => ⟨hl0, ⟨ht0, ⟨(by decide), ⟨hl0, ⟨ht0, (have h := ok_let h _ rfl; (loopI_next (fun _ hm => ⟨hc0, hm⟩) _ rfl hl0 low0 ht0 (sm_len h_x) trivial h))⟩⟩⟩⟩⟩) fun h => (h trivial))
 ·rw [vc41]
  exact (loopI_start (fun m hm => ⟨trivial, hm⟩) Z0 _ rfl (Int.natCast_nonneg 0) trivial (ok_then h (fun v0 h hv0 => h) (fun _ h => h.elim)))
def c16 : Con := ⟨[.dat TInt], fun args hp K => hpN 1000000 true TTable (fun x => args2 (fun a0 a1 => withC 1000000 (x.length : Int) a0 (withD TInt a1 fun k => (Ln TTb x) ∧ (0 ≤ k) ∧ (k + (M.count TTb x : Int) ≤ M.big) ∧ (∀ r : LTb × Int, r = (M.mark TTb x k, k + (M.count TTb x : Int)) → K (dI r.2) [(1000000, .arr true TTable r.1)]))) args []) hp, .io⟩
@[reducible] def C16 : Ctx := cx [(18, c18), (41, c41)] 27 [] 0 false
def ann16 := an [[kp 3], [kp 35], [kp 547], [kp 35], [kp 35], [kp 35], [kp 16]] [[kp 2]]
@[reducible] def s16_0 (x : LTb) (k : Int) (i0 : Int) (v0 : Int × LTb) : St := ⟨[(0, .clp 1000000 (x.length : Int)), (1, dI v0.1), (5, dI i0)], [(1000000, .arr true TTable v0.2)]⟩
@[reducible] def LP16_0 (x : LTb) (k : Int) (m : Nat) (st_ : St) (K : KX) : Prop := True ∧ LoopI (s16_0 x k) Z0 (x.length : Int) (F.laws_markTableS_l0 x k) (fun v0 : Int × LTb => True) (outD (fun v0 : Int × LTb => True → K (.exit 0) (⟨[(1, dI v0.1)], [(1000000, .arr true TTable v0.2)]⟩ : St)) (fun _ => False)) m st_
def L16 (x : LTb) (k : Int) : Loops := lp1 0 (LP16_0 x k)
theorem vc16 (x : LTb) (k : Int) (K : KA) : vcT C16 (L16 x k) ann16 f16 [.clp 1000000 (x.length : Int), dI k] [(1000000, .arr true TTable x)] .raw K =
 (∃ m_, True ∧ LoopI (s16_0 x k) Z0 (x.length : Int) (F.laws_markTableS_l0 x k) (fun v0 : Int × LTb => True) (outD (fun v0 : Int × LTb => True → K (dI v0.1) [(1000000, .arr true TTable v0.2)]) (fun _ => False)) m_ (s16_0 x k Z0 (k, x))) := by kernel_rfl
theorem lvc16_0 (x : LTb) (k : Int)  (i0 : Int) (v0 : Int × LTb) (m : Nat) (K : KX) : lvT C16 (L16 x k) ann16 f16 0 0 (s16_0 x k i0 v0) m K =
 (cond (decide (i0 < (x.length : Int))) ((0 ≤ i0) ∧ (i0 < (x.length : Int)) ∧ (((nT v0.2 i0).1.length : Int) = ((nT v0.2 i0).1.length : Int)) ∧ (Ln TCS (nT v0.2 i0).1) ∧ (0 ≤ v0.1) ∧ (v0.1 + (M.count TCS (nT v0.2 i0).1 : Int) ≤ M.big) ∧ (∀ r1 : LC × Int, r1 = (M.mark TCS (nT v0.2 i0).1 v0.1, v0.1 + (M.count TCS (nT v0.2 i0).1 : Int)) → (r1.1.length = (nT v0.2 i0).1.length) ∧ (0 ≤ i0) ∧ (i0 < (x.length : Int)) ∧ (((nT (v0.2.set i0.toNat (r1.1, (nT v0.2 i0).2)) i0).2.1.length : Int) = ((nT (v0.2.set i0.toNat (r1.1, (nT v0.2 i0).2)) i0).2.1.length : Int)) ∧ (Ln (Ty.sl TVS) (nT (v0.2.set i0.toNat (r1.1, (nT v0.2 i0).2)) i0).2.1) ∧ (0 ≤ r1.2) ∧ (r1.2 + (M.count (Ty.sl TVS) (nT (v0.2.set i0.toNat (r1.1, (nT v0.2 i0).2)) i0).2.1 : Int) ≤ M.big) ∧ (∀ r2 : (List LV) × Int, r2 = (M.mark (Ty.sl TVS) (nT (v0.2.set i0.toNat (r1.1, (nT v0.2 i0).2)) i0).2.1 r1.2, r1.2 + (M.count (Ty.sl TVS) (nT (v0.2.set i0.toNat (r1.1, (nT v0.2 i0).2)) i0).2.1 : Int)) → (r2.1.length = (nT (v0.2.set i0.toNat (r1.1, (nT v0.2 i0).2)) i0).2.1.length) ∧ (nxT (LP16_0 x k) m K (s16_0 x k (wrap64 (i0 + Z1)) (r2.2, ((v0.2.set i0.toNat (r1.1, (nT v0.2 i0).2)).set i0.toNat ((nT (v0.2.set i0.toNat (r1.1, (nT v0.2 i0).2)) i0).1, (r2.1, ()))))))))) (K (.exit 0) (⟨[(1, dI v0.1)], [(1000000, .arr true TTable v0.2)]⟩ : St))) := by kernel_rfl
theorem con16_ok : Con1 P 16 c16 := conR C16 func16 (kC con18_ok (kC con41_ok kN)) fun args hp K h0 => by
 unfold c16 at h0
 dsimp only at h0
 obtain ⟨x, rfl, h00⟩ := hpN_elim (n := 1000000) (d := true) (t := TTable) h0
 obtain ⟨a0, a1, rfl, _, h1⟩ := args2_elim h00
 obtain ⟨rfl, h2⟩ := withC_elim h1
 obtain ⟨k, rfl, h3⟩ := withD_elim h2
 obtain ⟨h_x, p0, p1, hK⟩ := h3
 have h : ok (F.laws_markTableS x k) (fun r => K (dI r.2) [(1000000, .arr true TTable r.1)]) := ok_of_eq (F.laws_markTableS_eq x k h_x p0 p1) (hK _ rfl)
 refine ⟨rfl, ann16, (L16 x k), .raw, (loopsN1 (i0 := 0) (by kernel_rfl) ?_), ?_⟩
 ·rintro _ _ K ⟨hc0, i0, v0, rfl, hl0, rfl, hv0, h⟩
  exact cast (lvc16_0 _ _ _ _ _ _).symm (loopI_step h (fun ht0 h => ⟨hl0, ⟨ht0, ⟨rfl, (oG h fun _ h => (oG h fun _ h => (oG h fun _ h => (oL h fun _ er1 h => ⟨(by rw [er1]; exact (M.mark_len TColumn _ _)), ⟨hl0, ⟨ht0, ⟨rfl, (oG h fun _ h => (oG h fun _ h => (oG h fun _ h => (oL h fun _ er2 h => ⟨(by rw [er2]; exact (M.mark_len TVS _ _)), (loopI_next (fun _ hm => ⟨hc0, hm⟩) _ rfl hl0 low0 ht0 (sm_len h_x) trivial h)⟩))))⟩⟩⟩⟩))))⟩⟩⟩) fun h => (h trivial))
 ·rw [vc16]
  exact (loopI_start (fun m hm => ⟨trivial, hm⟩) Z0 _ rfl (Int.natCast_nonneg 0) trivial (ok_then h (fun v0 h hv0 => h) (fun _ h => h.elim)))
def c23 : Con := ⟨[.dat TInt], fun args hp K => hpN 1000000 false TInt (fun x => args2 (fun a0 a1 => withC 1000000 (x.length : Int) a0 (withD TInt a1 fun k => (Ln (Ty.sl TInt) x) ∧ (0 ≤ k) ∧ (k + (M.count (Ty.sl TInt) x : Int) ≤ M.big) ∧ (∀ r : (List Int) × Int, r = (M.mark (Ty.sl TInt) x k, k + (M.count (Ty.sl TInt) x : Int)) → K (dI r.2) [(1000000, .arr false TInt r.1)]))) args []) hp, .io⟩
@[reducible] def C23 : Ctx := cx [] 19 [] 0 false
def ann23 := an [[kp 3], [kp 35], [kp 547], [kp 35], [kp 35], [kp 35], [kp 16]] [[kp 2]]
@[reducible] def s23_0 (x : (List Int)) (k : Int) (i0 : Int) (v0 : Int × (List Int)) : St := ⟨[(0, .clp 1000000 (x.length : Int)), (1, dI v0.1), (5, dI i0)], [(1000000, .arr false TInt v0.2)]⟩
@[reducible] def LP23_0 (x : (List Int)) (k : Int) (m : Nat) (st_ : St) (K : KX) : Prop := True ∧ LoopI (s23_0 x k) Z0 (x.length : Int) (F.laws_markIntS_l0 x k) (fun v0 : Int × (List Int) => True) (outD (fun v0 : Int × (List Int) => True → K (.exit 0) (⟨[(1, dI v0.1)], [(1000000, .arr false TInt v0.2)]⟩ : St)) (fun _ => False)) m st_
def L23 (x : (List Int)) (k : Int) : Loops := lp1 0 (LP23_0 x k)
theorem vc23 (x : (List Int)) (k : Int) (K : KA) : vcT C23 (L23 x k) ann23 f23 [.clp 1000000 (x.length : Int), dI k] [(1000000, .arr false TInt x)] .raw K =
 (∃ m_, True ∧ LoopI (s23_0 x k) Z0 (x.length : Int) (F.laws_markIntS_l0 x k) (fun v0 : Int × (List Int) => True) (outD (fun v0 : Int × (List Int) => True → K (dI v0.1) [(1000000, .arr false TInt v0.2)]) (fun _ => False)) m_ (s23_0 x k Z0 (k, x))) := by kernel_rfl
theorem lvc23_0 (x : (List Int)) (k : Int)  (i0 : Int) (v0 : Int × (List Int)) (m : Nat) (K : KX) : lvT C23 (L23 x k) ann23 f23 0 0 (s23_0 x k i0 v0) m K =
 (cond (decide (i0 < (x.length : Int))) ((0 ≤ i0) ∧ (i0 < (x.length : Int)) ∧ (nxT (LP23_0 x k) m K (s23_0 x k (wrap64 (i0 + Z1)) (wrap64 (v0.1 + Z1), (v0.2.set i0.toNat v0.1))))) (K (.exit 0) (⟨[(1, dI v0.1)], [(1000000, .arr false TInt v0.2)]⟩ : St))) := by kernel_rfl
theorem con23_ok : Con1 P 23 c23 := conR C23 func23 kN fun args hp K h0 => by
 unfold c23 at h0
 dsimp only at h0
 obtain ⟨x, rfl, h00⟩ := hpN_elim (n := 1000000) (d := false) (t := TInt) h0
 obtain ⟨a0, a1, rfl, _, h1⟩ := args2_elim h00
 obtain ⟨rfl, h2⟩ := withC_elim h1
 obtain ⟨k, rfl, h3⟩ := withD_elim h2
 obtain ⟨h_x, p0, p1, hK⟩ := h3
 have h : ok (F.laws_markIntS x k) (fun r => K (dI r.2) [(1000000, .arr false TInt r.1)]) := ok_of_eq (F.laws_markIntS_eq x k h_x p0 p1) (hK _ rfl)
 refine ⟨rfl, ann23, (L23 x k), .raw, (loopsN1 (i0 := 0) (by kernel_rfl) ?_), ?_⟩
 ·rintro _ _ K ⟨hc0, i0, v0, rfl, hl0, rfl, hv0, h⟩
  exact cast (lvc23_0 _ _ _ _ _ _).symm (loopI_step h (fun ht0 h => ⟨hl0, ⟨ht0, (loopI_next (fun _ hm => ⟨hc0, hm⟩) _ rfl hl0 low0 ht0 (sm_len h_x) trivial h)⟩⟩) fun h => (h trivial))
 ·rw [vc23]
  exact (loopI_start (fun m hm => ⟨trivial, hm⟩) Z0 _ rfl (Int.natCast_nonneg 0) trivial (ok_then h (fun v0 h hv0 => h) (fun _ h => h.elim)))
def c42 : Con := ⟨[.dat TInt], fun args hp K => hpN 1000000 false TPart (fun x => args2 (fun a0 a1 => withC 1000000 (x.length : Int) a0 (withD TInt a1 fun k => (Ln TPS x) ∧ (0 ≤ k) ∧ (k + (M.count TPS x : Int) ≤ M.big) ∧ (∀ r : LPt × Int, r = (M.mark TPS x k, k + (M.count TPS x : Int)) → K (dI r.2) [(1000000, .arr false TPart r.1)]))) args []) hp, .io⟩
@[reducible] def C42 : Ctx := cx [(76, c76)] 52 [] 0 false
def ann42 := an [[kp 3], [kp 35], [kp 547], [kp 35], [kp 35], [kp 35], [kp 35], [kp 35], [kp 35], [kp 35], [kp 35], [kp 35], [kp 35], [kp 35], [kp 16]] [[kp 2]]
@[reducible] def s42_0 (x : LPt) (k : Int) (i0 : Int) (v0 : Int × LPt) : St := ⟨[(0, .clp 1000000 (x.length : Int)), (1, dI v0.1), (5, dI i0)], [(1000000, .arr false TPart v0.2)]⟩
@[reducible] def LP42_0 (x : LPt) (k : Int) (m : Nat) (st_ : St) (K : KX) : Prop := True ∧ LoopI (s42_0 x k) Z0 (x.length : Int) (F.laws_markPartS_l0 x k) (fun v0 : Int × LPt => True) (outD (fun v0 : Int × LPt => True → K (.exit 0) (⟨[(1, dI v0.1)], [(1000000, .arr false TPart v0.2)]⟩ : St)) (fun _ => False)) m st_
def L42 (x : LPt) (k : Int) : Loops := lp1 0 (LP42_0 x k)
theorem vc42 (x : LPt) (k : Int) (K : KA) : vcT C42 (L42 x k) ann42 f42 [.clp 1000000 (x.length : Int), dI k] [(1000000, .arr false TPart x)] .raw K =
 (∃ m_, True ∧ LoopI (s42_0 x k) Z0 (x.length : Int) (F.laws_markPartS_l0 x k) (fun v0 : Int × LPt => True) (outD (fun v0 : Int × LPt => True → K (dI v0.1) [(1000000, .arr false TPart v0.2)]) (fun _ => False)) m_ (s42_0 x k Z0 (k, x))) := by kernel_rfl
theorem lvc42_0 (x : LPt) (k : Int)  (i0 : Int) (v0 : Int × LPt) (m : Nat) (K : KX) : lvT C42 (L42 x k) ann42 f42 0 0 (s42_0 x k i0 v0) m K =
 (cond (decide (i0 < (x.length : Int))) ((0 ≤ i0) ∧ (i0 < (x.length : Int)) ∧ (0 ≤ i0) ∧ (i0 < (x.length : Int)) ∧ (let y1 : LPt := ((v0.2.set i0.toNat (v0.1, (nP v0.2 i0).2)).set i0.toNat ((nP (v0.2.set i0.toNat (v0.1, (nP v0.2 i0).2)) i0).1, (wrap64 (v0.1 + Z1), (nP (v0.2.set i0.toNat (v0.1, (nP v0.2 i0).2)) i0).2.2))); (0 ≤ i0) ∧ (i0 < (x.length : Int)) ∧ (let y2 : LPt := (y1.set i0.toNat ((nP y1 i0).1, ((nP y1 i0).2.1, ((wrap64 (wrap64 (v0.1 + Z1) + Z1), (nP y1 i0).2.2.1.2), ())))); (0 ≤ i0) ∧ (i0 < (x.length : Int)) ∧ (let y3 : LPt := (y2.set i0.toNat ((nP y2 i0).1, ((nP y2 i0).2.1, (((nP y2 i0).2.2.1.1, (wrap64 (wrap64 (wrap64 (v0.1 + Z1) + Z1) + Z1), (nP y2 i0).2.2.1.2.2)), ())))); ((wrap64 (wrap64 (wrap64 (wrap64 (v0.1 + Z1) + Z1) + Z1) + Z1)) ≤ M.big) ∧ (∀ r1 : ByteArray, r1 = (M.markText (wrap64 (wrap64 (wrap64 (wrap64 (v0.1 + Z1) + Z1) + Z1) + Z1))) → (0 ≤ i0) ∧ (i0 < (x.length : Int)) ∧ (let y4 : LPt := (y3.set i0.toNat ((nP y3 i0).1, ((nP y3 i0).2.1, (((nP y3 i0).2.2.1.1, ((nP y3 i0).2.2.1.2.1, (r1, ()))), ())))); (nxT (LP42_0 x k) m K (s42_0 x k (wrap64 (i0 + Z1)) (wrap64 (wrap64 (wrap64 (wrap64 (wrap64 (v0.1 + Z1) + Z1) + Z1) + Z1) + Z1), y4))))))))) (K (.exit 0) (⟨[(1, dI v0.1)], [(1000000, .arr false TPart v0.2)]⟩ : St))) := by kernel_rfl
theorem con42_ok : Con1 P 42 c42 := conR C42 func42 (kC con76_ok kN) fun args hp K h0 => by
 unfold c42 at h0
 dsimp only at h0
 obtain ⟨x, rfl, h00⟩ := hpN_elim (n := 1000000) (d := false) (t := TPart) h0
 obtain ⟨a0, a1, rfl, _, h1⟩ := args2_elim h00
 obtain ⟨rfl, h2⟩ := withC_elim h1
 obtain ⟨k, rfl, h3⟩ := withD_elim h2
 obtain ⟨h_x, p0, p1, hK⟩ := h3
 have h : ok (F.laws_markPartS x k) (fun r => K (dI r.2) [(1000000, .arr false TPart r.1)]) := ok_of_eq (F.laws_markPartS_eq x k h_x p0 p1) (hK _ rfl)
 refine ⟨rfl, ann42, (L42 x k), .raw, (loopsN1 (i0 := 0) (by kernel_rfl) ?_), ?_⟩
 ·rintro _ _ K ⟨hc0, i0, v0, rfl, hl0, rfl, hv0, h⟩
  exact cast (lvc42_0 _ _ _ _ _ _).symm (loopI_step h (fun ht0 h => ⟨hl0, ⟨ht0, ⟨hl0, ⟨ht0, (have h := ok_let h _ rfl; ⟨hl0, ⟨ht0, (have h := ok_let h _ rfl; ⟨hl0, ⟨ht0, (have h := ok_let h _ rfl; (oG h fun _ h => (oL h fun _ _ h => ⟨hl0, ⟨ht0, (have h := ok_let h _ rfl; (loopI_next (fun _ hm => ⟨hc0, hm⟩) _ rfl hl0 low0 ht0 (sm_len h_x) trivial h))⟩⟩)))⟩⟩)⟩⟩)⟩⟩⟩⟩) fun h => (h trivial))
 ·rw [vc42]
  exact (loopI_start (fun m hm => ⟨trivial, hm⟩) Z0 _ rfl (Int.natCast_nonneg 0) trivial (ok_then h (fun v0 h hv0 => h) (fun _ h => h.elim)))
def c17 : Con := ⟨[.dat TInt], fun args hp K => hpN 1000000 true TStep (fun x => args2 (fun a0 a1 => withC 1000000 (x.length : Int) a0 (withD TInt a1 fun k => (Ln TSS x) ∧ (0 ≤ k) ∧ (k + (M.count TSS x : Int) ≤ M.big) ∧ (∀ r : LS × Int, r = (M.mark TSS x k, k + (M.count TSS x : Int)) → K (dI r.2) [(1000000, .arr true TStep r.1)]))) args []) hp, .io⟩
@[reducible] def C17 : Ctx := cx [(23, c23), (42, c42)] 55 [] 0 false
def ann17 := an [[kp 3], [kp 35], [kp 547], [kp 35], [kp 35], [kp 35], [kp 35], [kp 35], [kp 35], [kp 35], [kp 35], [kp 35], [kp 35], [kp 35], [kp 16]] [[kp 2]]
@[reducible] def s17_0 (x : LS) (k : Int) (i0 : Int) (v0 : Int × LS) : St := ⟨[(0, .clp 1000000 (x.length : Int)), (1, dI v0.1), (5, dI i0)], [(1000000, .arr true TStep v0.2)]⟩
@[reducible] def LP17_0 (x : LS) (k : Int) (m : Nat) (st_ : St) (K : KX) : Prop := True ∧ LoopI (s17_0 x k) Z0 (x.length : Int) (F.laws_markStepS_l0 x k) (fun v0 : Int × LS => True) (outD (fun v0 : Int × LS => True → K (.exit 0) (⟨[(1, dI v0.1)], [(1000000, .arr true TStep v0.2)]⟩ : St)) (fun _ => False)) m st_
def L17 (x : LS) (k : Int) : Loops := lp1 0 (LP17_0 x k)
theorem vc17 (x : LS) (k : Int) (K : KA) : vcT C17 (L17 x k) ann17 f17 [.clp 1000000 (x.length : Int), dI k] [(1000000, .arr true TStep x)] .raw K =
 (∃ m_, True ∧ LoopI (s17_0 x k) Z0 (x.length : Int) (F.laws_markStepS_l0 x k) (fun v0 : Int × LS => True) (outD (fun v0 : Int × LS => True → K (dI v0.1) [(1000000, .arr true TStep v0.2)]) (fun _ => False)) m_ (s17_0 x k Z0 (k, x))) := by kernel_rfl
theorem lvc17_0 (x : LS) (k : Int)  (i0 : Int) (v0 : Int × LS) (m : Nat) (K : KX) : lvT C17 (L17 x k) ann17 f17 0 0 (s17_0 x k i0 v0) m K =
 (cond (decide (i0 < (x.length : Int))) ((0 ≤ i0) ∧ (i0 < (x.length : Int)) ∧ (0 ≤ i0) ∧ (i0 < (x.length : Int)) ∧ (let y1 : LS := ((v0.2.set i0.toNat (v0.1, (nS v0.2 i0).2)).set i0.toNat ((nS (v0.2.set i0.toNat (v0.1, (nS v0.2 i0).2)) i0).1, (wrap64 (v0.1 + Z1), (nS (v0.2.set i0.toNat (v0.1, (nS v0.2 i0).2)) i0).2.2))); (0 ≤ i0) ∧ (i0 < (x.length : Int)) ∧ (let y2 : LS := (y1.set i0.toNat ((nS y1 i0).1, ((nS y1 i0).2.1, (wrap64 (wrap64 (v0.1 + Z1) + Z1), (nS y1 i0).2.2.2)))); (0 ≤ i0) ∧ (i0 < (x.length : Int)) ∧ (let y3 : LS := (y2.set i0.toNat ((nS y2 i0).1, ((nS y2 i0).2.1, ((nS y2 i0).2.2.1, (wrap64 (wrap64 (wrap64 (v0.1 + Z1) + Z1) + Z1), (nS y2 i0).2.2.2.2))))); (0 ≤ i0) ∧ (i0 < (x.length : Int)) ∧ (((nS y3 i0).2.2.2.2.1.length : Int) = ((nS y3 i0).2.2.2.2.1.length : Int)) ∧ (Ln TPS (nS y3 i0).2.2.2.2.1) ∧ (0 ≤ (wrap64 (wrap64 (wrap64 (wrap64 (v0.1 + Z1) + Z1) + Z1) + Z1))) ∧ ((wrap64 (wrap64 (wrap64 (wrap64 (v0.1 + Z1) + Z1) + Z1) + Z1)) + (M.count TPS (nS y3 i0).2.2.2.2.1 : Int) ≤ M.big) ∧ (∀ r1 : LPt × Int, r1 = (M.mark TPS (nS y3 i0).2.2.2.2.1 (wrap64 (wrap64 (wrap64 (wrap64 (v0.1 + Z1) + Z1) + Z1) + Z1)), (wrap64 (wrap64 (wrap64 (wrap64 (v0.1 + Z1) + Z1) + Z1) + Z1)) + (M.count TPS (nS y3 i0).2.2.2.2.1 : Int)) → (r1.1.length = (nS y3 i0).2.2.2.2.1.length) ∧ (0 ≤ i0) ∧ (i0 < (x.length : Int)) ∧ (((nS (y3.set i0.toNat ((nS y3 i0).1, ((nS y3 i0).2.1, ((nS y3 i0).2.2.1, ((nS y3 i0).2.2.2.1, (r1.1, (nS y3 i0).2.2.2.2.2)))))) i0).2.2.2.2.2.1.length : Int) = ((nS (y3.set i0.toNat ((nS y3 i0).1, ((nS y3 i0).2.1, ((nS y3 i0).2.2.1, ((nS y3 i0).2.2.2.1, (r1.1, (nS y3 i0).2.2.2.2.2)))))) i0).2.2.2.2.2.1.length : Int)) ∧ (Ln (Ty.sl TInt) (nS (y3.set i0.toNat ((nS y3 i0).1, ((nS y3 i0).2.1, ((nS y3 i0).2.2.1, ((nS y3 i0).2.2.2.1, (r1.1, (nS y3 i0).2.2.2.2.2)))))) i0).2.2.2.2.2.1) ∧ (0 ≤ r1.2) ∧ (r1.2 + (M.count (Ty.sl TInt) (nS (y3.set i0.toNat ((nS y3 i0).1, ((nS y3 i0).2.1, ((nS y3 i0).2.2.1, ((nS y3 i0).2.2.2.1, (r1.1, (nS y3 i0).2.2.2.2.2)))))) i0).2.2.2.2.2.1 : Int) ≤ M.big) ∧ (∀ r2 : (List Int) × Int, r2 = (M.mark (Ty.sl TInt) (nS (y3.set i0.toNat ((nS y3 i0).1, ((nS y3 i0).2.1, ((nS y3 i0).2.2.1, ((nS y3 i0).2.2.2.1, (r1.1, (nS y3 i0).2.2.2.2.2)))))) i0).2.2.2.2.2.1 r1.2, r1.2 + (M.count (Ty.sl TInt) (nS (y3.set i0.toNat ((nS y3 i0).1, ((nS y3 i0).2.1, ((nS y3 i0).2.2.1, ((nS y3 i0).2.2.2.1, (r1.1, (nS y3 i0).2.2.2.2.2)))))) i0).2.2.2.2.2.1 : Int)) → (r2.1.length = (nS (y3.set i0.toNat ((nS y3 i0).1, ((nS y3 i0).2.1, ((nS y3 i0).2.2.1, ((nS y3 i0).2.2.2.1, (r1.1, (nS y3 i0).2.2.2.2.2)))))) i0).2.2.2.2.2.1.length) ∧ (nxT (LP17_0 x k) m K (s17_0 x k (wrap64 (i0 + Z1)) (r2.2, ((y3.set i0.toNat ((nS y3 i0).1, ((nS y3 i0).2.1, ((nS y3 i0).2.2.1, ((nS y3 i0).2.2.2.1, (r1.1, (nS y3 i0).2.2.2.2.2)))))).set i0.toNat ((nS (y3.set i0.toNat ((nS y3 i0).1, ((nS y3 i0).2.1, ((nS y3 i0).2.2.1, ((nS y3 i0).2.2.2.1, (r1.1, (nS y3 i0).2.2.2.2.2)))))) i0).1, ((nS (y3.set i0.toNat ((nS y3 i0).1, ((nS y3 i0).2.1, ((nS y3 i0).2.2.1, ((nS y3 i0).2.2.2.1, (r1.1, (nS y3 i0).2.2.2.2.2)))))) i0).2.1, ((nS (y3.set i0.toNat ((nS y3 i0).1, ((nS y3 i0).2.1, ((nS y3 i0).2.2.1, ((nS y3 i0).2.2.2.1, (r1.1, (nS y3 i0).2.2.2.2.2)))))) i0).2.2.1, ((nS (y3.set i0.toNat ((nS y3 i0).1, ((nS y3 i0).2.1, ((nS y3 i0).2.2.1, ((nS y3 i0).2.2.2.1, (r1.1, (nS y3 i0).2.2.2.2.2)))))) i0).2.2.2.1, ((nS (y3.set i0.toNat ((nS y3 i0).1, ((nS y3 i0).2.1, ((nS y3 i0).2.2.1, ((nS y3 i0).2.2.2.1, (r1.1, (nS y3 i0).2.2.2.2.2)))))) i0).2.2.2.2.1, (r2.1, ())))))))))))))))) (K (.exit 0) (⟨[(1, dI v0.1)], [(1000000, .arr true TStep v0.2)]⟩ : St))) := by kernel_rfl
theorem con17_ok : Con1 P 17 c17 := conR C17 func17 (kC con23_ok (kC con42_ok kN)) fun args hp K h0 => by
 unfold c17 at h0
 dsimp only at h0
 obtain ⟨x, rfl, h00⟩ := hpN_elim (n := 1000000) (d := true) (t := TStep) h0
 obtain ⟨a0, a1, rfl, _, h1⟩ := args2_elim h00
 obtain ⟨rfl, h2⟩ := withC_elim h1
 obtain ⟨k, rfl, h3⟩ := withD_elim h2
 obtain ⟨h_x, p0, p1, hK⟩ := h3
 have h : ok (F.laws_markStepS x k) (fun r => K (dI r.2) [(1000000, .arr true TStep r.1)]) := ok_of_eq (F.laws_markStepS_eq x k h_x p0 p1) (hK _ rfl)
 refine ⟨rfl, ann17, (L17 x k), .raw, (loopsN1 (i0 := 0) (by kernel_rfl) ?_), ?_⟩
 ·rintro _ _ K ⟨hc0, i0, v0, rfl, hl0, rfl, hv0, h⟩
  exact cast (lvc17_0 _ _ _ _ _ _).symm (loopI_step h (fun ht0 h => ⟨hl0, ⟨ht0, ⟨hl0, ⟨ht0, (have h := ok_let h _ rfl; ⟨hl0, ⟨ht0, (have h := ok_let h _ rfl; ⟨hl0, ⟨ht0, (have h := ok_let h _ rfl; ⟨hl0, ⟨ht0, ⟨rfl, (oG h fun _ h => (oG h fun _ h => (oG h fun _ h => (oL h fun _ er1 h => ⟨(by rw [er1]; exact (M.mark_len TPart _ _)), ⟨hl0, ⟨ht0, ⟨rfl, (oG h fun _ h => (oG h fun _ h => (oG h fun _ h => (oL h fun _ er2 h => ⟨(by rw [er2]; exact (M.mark_len TInt _ _)), (loopI_next (fun _ hm => ⟨hc0, hm⟩) _ rfl hl0 low0 ht0 (sm_len h_x) trivial h)⟩))))⟩⟩⟩⟩))))⟩⟩⟩)⟩⟩)⟩⟩)⟩⟩⟩⟩) fun h => (h trivial))
 ·rw [vc17]
  exact (loopI_start (fun m hm => ⟨trivial, hm⟩) Z0 _ rfl (Int.natCast_nonneg 0) trivial (ok_then h (fun v0 h hv0 => h) (fun _ h => h.elim)))
def c24 : Con := ⟨[.dat (Ty.sl TInt), .dat TInt], fun args hp K => g2 (pD (Ty.sl TInt)) (pD TInt) (fun x k => (Ln (Ty.sl TInt) x) ∧ (0 ≤ k) ∧ (k + (M.count (Ty.sl TInt) x : Int) ≤ M.big) ∧ (M.mark (Ty.sl TInt) x k = x) ∧ K (dI (k + (M.count (Ty.sl TInt) x : Int))) []) args hp, .bor⟩
@[reducible] def C24 : Ctx := cx [] 21 [] 0 false
def ann24 := an [[kp 3], [kp 35], [kp 547], [kp 35], [kp 131107], [kp 16], [kp 35], [kp 16]] [[kp 2]]
@[reducible] def s24_0 (x : (List Int)) (k : Int) (i0 : Int) (v0 : Int) : St := ⟨[(0, .data (Ty.sl TInt) x), (1, dI v0), (5, dI i0)], []⟩
@[reducible] def LP24_0 (x : (List Int)) (k : Int) (m : Nat) (st_ : St) (K : KX) : Prop := True ∧ LoopE (t := TInt) (s24_0 x k) x (F.laws_heldIntS_l0 x k) (fun v0 : Int => True) (outD (fun v0 : Int => True → K (.exit 0) (⟨[(1, dI v0)], []⟩ : St)) (fun q0 : Unit => K .ret (⟨[(4, dI (-1 : Int))], []⟩ : St))) m st_
def L24 (x : (List Int)) (k : Int) : Loops := lp1 0 (LP24_0 x k)
theorem vc24 (x : (List Int)) (k : Int) (K : KA) : vcT C24 (L24 x k) ann24 f24 [.data (Ty.sl TInt) x, dI k] [] (.dat TInt) K =
 (∃ m_, True ∧ LoopE (t := TInt) (s24_0 x k) x (F.laws_heldIntS_l0 x k) (fun v0 : Int => True) (outD (fun v0 : Int => True → K (dI v0) []) (fun q0 : Unit => K (dI (-1 : Int)) [])) m_ (s24_0 x k Z0 k)) := by kernel_rfl
theorem lvc24_0 (x : (List Int)) (k : Int)  (i0 : Int) (v0 : Int) (m : Nat) (K : KX) : lvT C24 (L24 x k) ann24 f24 0 0 (s24_0 x k i0 v0) m K =
 (cond (decide (i0 < (x.length : Int))) ((0 ≤ i0) ∧ (i0 < (x.length : Int)) ∧ cond (!decide ((nI x i0) = v0)) (K .ret (⟨[(4, dI (-1 : Int))], []⟩ : St)) (nxT (LP24_0 x k) m K (s24_0 x k (wrap64 (i0 + Z1)) (wrap64 (v0 + Z1))))) (K (.exit 0) (⟨[(1, dI v0)], []⟩ : St))) := by kernel_rfl
theorem con24_ok : Con1 P 24 c24 := conR C24 func24 kN fun args hp K h0 => by
 obtain ⟨x, k, rfl, rfl, h_x, p0, p1, p2, hK⟩ := g2e h0
 have h : ok (F.laws_heldIntS x k) (fun r => K (dI r) []) := ok_of_eq (F.laws_heldIntS_eq x k h_x p0 p1 p2) hK
 refine ⟨rfl, ann24, (L24 x k), (.dat TInt), (loopsN1 (i0 := 0) (by kernel_rfl) ?_), ?_⟩
 ·rintro _ _ K ⟨hc0, i0, v0, rfl, hl0, rfl, hv0, h⟩
  exact cast (lvc24_0 _ _ _ _ _ _).symm (loopE_step (t := TInt) hl0 h (fun ht0 h => ⟨hl0, ⟨ht0, (oC h (fun _ h => h) fun _ h => (loopE_next (t := TInt) (fun _ hm => ⟨hc0, hm⟩) _ rfl hl0 ht0 (sm_len h_x) trivial h))⟩⟩) fun h => (h trivial))
 ·rw [vc24]
  exact (loopE_start (t := TInt) (fun m hm => ⟨trivial, hm⟩) _ rfl trivial (ok_then h (fun v0 h hv0 => h) (fun q0 h => h)))
def c56 : Con := ⟨[.dat TPS, .dat TInt], fun args hp K => g2 (pD TPS) (pD TInt) (fun x k => (Ln TPS x) ∧ (0 ≤ k) ∧ (k + (M.count TPS x : Int) ≤ M.big) ∧ (M.mark TPS x k = x) ∧ K (dI (k + (M.count TPS x : Int))) []) args hp, .bor⟩
@[reducible] def C56 : Ctx := cx [(76, c76)] 62 [] 0 false
def ann56 := an [[kp 3], [kp 35], [kp 547], [kp 35], [kp 262179], [kp 16], [kp 35], [kp 134217763], [kp 16], [kp 35], [kp 137438953507], [kp 16], [kp 35], [kp 140737488355363], [kp 16], [kp 35], [.keep [0, 1, 5, 58]], [kp 16], [kp 35], [kp 16]] [[kp 2]]
@[reducible] def s56_0 (x : LPt) (k : Int) (i0 : Int) (v0 : Int) : St := ⟨[(0, .data TPS x), (1, dI v0), (5, dI i0)], []⟩
@[reducible] def LP56_0 (x : LPt) (k : Int) (m : Nat) (st_ : St) (K : KX) : Prop := True ∧ LoopE (t := TPart) (s56_0 x k) x (F.laws_heldPartS_l0 x k) (fun v0 : Int => True) (outD (fun v0 : Int => True → K (.exit 0) (⟨[(1, dI v0)], []⟩ : St)) (fun q0 : Unit => K .ret (⟨[(4, dI (-1 : Int))], []⟩ : St))) m st_
def L56 (x : LPt) (k : Int) : Loops := lp1 0 (LP56_0 x k)
theorem vc56 (x : LPt) (k : Int) (K : KA) : vcT C56 (L56 x k) ann56 f56 [.data TPS x, dI k] [] (.dat TInt) K =
 (∃ m_, True ∧ LoopE (t := TPart) (s56_0 x k) x (F.laws_heldPartS_l0 x k) (fun v0 : Int => True) (outD (fun v0 : Int => True → K (dI v0) []) (fun q0 : Unit => K (dI (-1 : Int)) [])) m_ (s56_0 x k Z0 k)) := by kernel_rfl
theorem lvc56_0 (x : LPt) (k : Int)  (i0 : Int) (v0 : Int) (m : Nat) (K : KX) : lvT C56 (L56 x k) ann56 f56 0 0 (s56_0 x k i0 v0) m K =
 (cond (decide (i0 < (x.length : Int))) ((0 ≤ i0) ∧ (i0 < (x.length : Int)) ∧ cond (!decide ((nP x i0).1 = v0)) (K .ret (⟨[(4, dI (-1 : Int))], []⟩ : St)) ((0 ≤ i0) ∧ (i0 < (x.length : Int)) ∧ cond (!decide ((nP x i0).2.1 = wrap64 (v0 + Z1))) (K .ret (⟨[(4, dI (-1 : Int))], []⟩ : St)) ((0 ≤ i0) ∧ (i0 < (x.length : Int)) ∧ cond (!decide ((nP x i0).2.2.1.1 = wrap64 (wrap64 (v0 + Z1) + Z1))) (K .ret (⟨[(4, dI (-1 : Int))], []⟩ : St)) ((0 ≤ i0) ∧ (i0 < (x.length : Int)) ∧ cond (!decide ((nP x i0).2.2.1.2.1 = wrap64 (wrap64 (wrap64 (v0 + Z1) + Z1) + Z1))) (K .ret (⟨[(4, dI (-1 : Int))], []⟩ : St)) ((0 ≤ i0) ∧ (i0 < (x.length : Int)) ∧ ((wrap64 (wrap64 (wrap64 (wrap64 (v0 + Z1) + Z1) + Z1) + Z1)) ≤ M.big) ∧ (∀ r1 : ByteArray, r1 = (M.markText (wrap64 (wrap64 (wrap64 (wrap64 (v0 + Z1) + Z1) + Z1) + Z1))) → cond (!decide ((nP x i0).2.2.1.2.2.1 = r1)) (K .ret (⟨[(4, dI (-1 : Int))], []⟩ : St)) (nxT (LP56_0 x k) m K (s56_0 x k (wrap64 (i0 + Z1)) (wrap64 (wrap64 (wrap64 (wrap64 (wrap64 (v0 + Z1) + Z1) + Z1) + Z1) + Z1)))))))))) (K (.exit 0) (⟨[(1, dI v0)], []⟩ : St))) := by kernel_rfl
theorem con56_ok : Con1 P 56 c56 := conR C56 func56 (kC con76_ok kN) fun args hp K h0 => by
 obtain ⟨x, k, rfl, rfl, h_x, p0, p1, p2, hK⟩ := g2e h0
 have h : ok (F.laws_heldPartS x k) (fun r => K (dI r) []) := ok_of_eq (F.laws_heldPartS_eq x k h_x p0 p1 p2) hK
 refine ⟨rfl, ann56, (L56 x k), (.dat TInt), (loopsN1 (i0 := 0) (by kernel_rfl) ?_), ?_⟩
 ·rintro _ _ K ⟨hc0, i0, v0, rfl, hl0, rfl, hv0, h⟩
  exact cast (lvc56_0 _ _ _ _ _ _).symm (loopE_step (t := TPart) hl0 h (fun ht0 h => ⟨hl0, ⟨ht0, (oC h (fun _ h => h) fun _ h => ⟨hl0, ⟨ht0, (oC h (fun _ h => h) fun _ h => ⟨hl0, ⟨ht0, (oC h (fun _ h => h) fun _ h => ⟨hl0, ⟨ht0, (oC h (fun _ h => h) fun _ h => ⟨hl0, ⟨ht0, (oG h fun _ h => (oL h fun _ _ h => (oC h (fun _ h => h) fun _ h => (loopE_next (t := TPart) (fun _ hm => ⟨hc0, hm⟩) _ rfl hl0 ht0 (sm_len h_x) trivial h))))⟩⟩)⟩⟩)⟩⟩)⟩⟩)⟩⟩) fun h => (h trivial))
 ·rw [vc56]
  exact (loopE_start (t := TPart) (fun m hm => ⟨trivial, hm⟩) _ rfl trivial (ok_then h (fun v0 h hv0 => h) (fun q0 h => h)))
def c27 : Con := ⟨[.dat TSS, .dat TInt], fun args hp K => g2 (pD TSS) (pD TInt) (fun x k => (Ln TSS x) ∧ (0 ≤ k) ∧ (k + (M.count TSS x : Int) ≤ M.big) ∧ (M.mark TSS x k = x) ∧ K (dI (k + (M.count TSS x : Int))) []) args hp, .bor⟩
@[reducible] def C27 : Ctx := cx [(24, c24), (56, c56)] 67 [] 0 false
def ann27 := an [[kp 3], [kp 35], [kp 547], [kp 35], [kp 262179], [kp 16], [kp 35], [kp 134217763], [kp 16], [kp 35], [kp 68719476771], [kp 16], [kp 35], [kp 35184372088867], [kp 16], [kp 35], [kp 35], [.keep [0, 1, 5, 56]], [kp 16], [kp 35], [.keep [0, 1, 5, 65]], [kp 16], [kp 16]] [[kp 2]]
@[reducible] def s27_0 (x : LS) (k : Int) (i0 : Int) (v0 : Int) : St := ⟨[(0, .data TSS x), (1, dI v0), (5, dI i0)], []⟩
@[reducible] def LP27_0 (x : LS) (k : Int) (m : Nat) (st_ : St) (K : KX) : Prop := True ∧ LoopE (t := TStep) (s27_0 x k) x (F.laws_heldStepS_l0 x k) (fun v0 : Int => True) (outD (fun v0 : Int => True → K (.exit 0) (⟨[(1, dI v0)], []⟩ : St)) (fun q0 : Unit => K .ret (⟨[(4, dI (-1 : Int))], []⟩ : St))) m st_
def L27 (x : LS) (k : Int) : Loops := lp1 0 (LP27_0 x k)
theorem vc27 (x : LS) (k : Int) (K : KA) : vcT C27 (L27 x k) ann27 f27 [.data TSS x, dI k] [] (.dat TInt) K =
 (∃ m_, True ∧ LoopE (t := TStep) (s27_0 x k) x (F.laws_heldStepS_l0 x k) (fun v0 : Int => True) (outD (fun v0 : Int => True → K (dI v0) []) (fun q0 : Unit => K (dI (-1 : Int)) [])) m_ (s27_0 x k Z0 k)) := by kernel_rfl
theorem lvc27_0 (x : LS) (k : Int)  (i0 : Int) (v0 : Int) (m : Nat) (K : KX) : lvT C27 (L27 x k) ann27 f27 0 0 (s27_0 x k i0 v0) m K =
 (cond (decide (i0 < (x.length : Int))) ((0 ≤ i0) ∧ (i0 < (x.length : Int)) ∧ cond (!decide ((nS x i0).1 = v0)) (K .ret (⟨[(4, dI (-1 : Int))], []⟩ : St)) ((0 ≤ i0) ∧ (i0 < (x.length : Int)) ∧ cond (!decide ((nS x i0).2.1 = wrap64 (v0 + Z1))) (K .ret (⟨[(4, dI (-1 : Int))], []⟩ : St)) ((0 ≤ i0) ∧ (i0 < (x.length : Int)) ∧ cond (!decide ((nS x i0).2.2.1 = wrap64 (wrap64 (v0 + Z1) + Z1))) (K .ret (⟨[(4, dI (-1 : Int))], []⟩ : St)) ((0 ≤ i0) ∧ (i0 < (x.length : Int)) ∧ cond (!decide ((nS x i0).2.2.2.1 = wrap64 (wrap64 (wrap64 (v0 + Z1) + Z1) + Z1))) (K .ret (⟨[(4, dI (-1 : Int))], []⟩ : St)) ((0 ≤ i0) ∧ (i0 < (x.length : Int)) ∧ (Ln TPS (nS x i0).2.2.2.2.1) ∧ (0 ≤ (wrap64 (wrap64 (wrap64 (wrap64 (v0 + Z1) + Z1) + Z1) + Z1))) ∧ ((wrap64 (wrap64 (wrap64 (wrap64 (v0 + Z1) + Z1) + Z1) + Z1)) + (M.count TPS (nS x i0).2.2.2.2.1 : Int) ≤ M.big) ∧ (M.mark TPS (nS x i0).2.2.2.2.1 (wrap64 (wrap64 (wrap64 (wrap64 (v0 + Z1) + Z1) + Z1) + Z1)) = (nS x i0).2.2.2.2.1) ∧ cond (decide (((wrap64 (wrap64 (wrap64 (wrap64 (v0 + Z1) + Z1) + Z1) + Z1)) + (M.count TPS (nS x i0).2.2.2.2.1 : Int)) < Z0)) (K .ret (⟨[(4, dI (-1 : Int))], []⟩ : St)) ((0 ≤ i0) ∧ (i0 < (x.length : Int)) ∧ (Ln (Ty.sl TInt) (nS x i0).2.2.2.2.2.1) ∧ (0 ≤ ((wrap64 (wrap64 (wrap64 (wrap64 (v0 + Z1) + Z1) + Z1) + Z1)) + (M.count TPS (nS x i0).2.2.2.2.1 : Int))) ∧ (((wrap64 (wrap64 (wrap64 (wrap64 (v0 + Z1) + Z1) + Z1) + Z1)) + (M.count TPS (nS x i0).2.2.2.2.1 : Int)) + (M.count (Ty.sl TInt) (nS x i0).2.2.2.2.2.1 : Int) ≤ M.big) ∧ (M.mark (Ty.sl TInt) (nS x i0).2.2.2.2.2.1 ((wrap64 (wrap64 (wrap64 (wrap64 (v0 + Z1) + Z1) + Z1) + Z1)) + (M.count TPS (nS x i0).2.2.2.2.1 : Int)) = (nS x i0).2.2.2.2.2.1) ∧ cond (decide ((((wrap64 (wrap64 (wrap64 (wrap64 (v0 + Z1) + Z1) + Z1) + Z1)) + (M.count TPS (nS x i0).2.2.2.2.1 : Int)) + (M.count (Ty.sl TInt) (nS x i0).2.2.2.2.2.1 : Int)) < Z0)) (K .ret (⟨[(4, dI (-1 : Int))], []⟩ : St)) (nxT (LP27_0 x k) m K (s27_0 x k (wrap64 (i0 + Z1)) (((wrap64 (wrap64 (wrap64 (wrap64 (v0 + Z1) + Z1) + Z1) + Z1)) + (M.count TPS (nS x i0).2.2.2.2.1 : Int)) + (M.count (Ty.sl TInt) (nS x i0).2.2.2.2.2.1 : Int)))))))))) (K (.exit 0) (⟨[(1, dI v0)], []⟩ : St))) := by kernel_rfl
theorem con27_ok : Con1 P 27 c27 := conR C27 func27 (kC con24_ok (kC con56_ok kN)) fun args hp K h0 => by
 obtain ⟨x, k, rfl, rfl, h_x, p0, p1, p2, hK⟩ := g2e h0
 have h : ok (F.laws_heldStepS x k) (fun r => K (dI r) []) := ok_of_eq (F.laws_heldStepS_eq x k h_x p0 p1 p2) hK
 refine ⟨rfl, ann27, (L27 x k), (.dat TInt), (loopsN1 (i0 := 0) (by kernel_rfl) ?_), ?_⟩
 ·rintro _ _ K ⟨hc0, i0, v0, rfl, hl0, rfl, hv0, h⟩
  exact cast (lvc27_0 _ _ _ _ _ _).symm (loopE_step (t := TStep) hl0 h (fun ht0 h => ⟨hl0, ⟨ht0, (oC h (fun _ h => h) fun _ h => ⟨hl0, ⟨ht0, (oC h (fun _ h => h) fun _ h => ⟨hl0, ⟨ht0, (oC h (fun _ h => h) fun _ h => ⟨hl0, ⟨ht0, (oC h (fun _ h => h) fun _ h => ⟨hl0, ⟨ht0, ⟨(sm_nth h_x i0).2.2.2.2.1, (oG h fun _ h => (oG h fun _ h => (oG h fun _ h => (oC h (fun _ h => h) fun _ h => ⟨hl0, ⟨ht0, ⟨(sm_nth h_x i0).2.2.2.2.2.1, (oG h fun _ h => (oG h fun _ h => (oG h fun _ h => (oC h (fun _ h => h) fun _ h => (loopE_next (t := TStep) (fun _ hm => ⟨hc0, hm⟩) _ rfl hl0 ht0 (sm_len h_x) trivial h)))))⟩⟩⟩))))⟩⟩⟩)⟩⟩)⟩⟩)⟩⟩)⟩⟩) fun h => (h trivial))
 ·rw [vc27]
  exact (loopE_start (t := TStep) (fun m hm => ⟨trivial, hm⟩) _ rfl trivial (ok_then h (fun v0 h hv0 => h) (fun q0 h => h)))
def c49 : Con := ⟨[.dat TInt, .dat TInt, .dat TInt], fun args hp K => g3 (pD TInt) (pD TInt) (pD TInt) (fun n low high => K (dB (M.inR n low high)) []) args hp, .plain⟩
@[reducible] def C49 : Ctx := cx [] 15 [] 0 false
def ann49 := an [[kp 7], [kp 64]] []
theorem vc49 (n : Int) (low : Int) (high : Int) (K : KA) : vcT C49 noLoops ann49 f49 [dI n, dI low, dI high] [] (.dat Ty.bool) K =
 (cond ((decide (low ≤ n)) == true) (K (dB (decide (n ≤ high))) []) (K (dB false) [])) := by kernel_rfl
theorem con49_ok : Con1 P 49 c49 := conR C49 func49 kN fun args hp K h0 => by
 obtain ⟨n, low, high, rfl, rfl, hK⟩ := g3e h0
 have h : ok (F.spec_l1In n low high) (fun r => K (dB r) []) := ok_of_eq (F.spec_l1In_eq n low high) hK
 refine ⟨rfl, ann49, noLoops, (.dat Ty.bool), (no_loops (by kernel_rfl)), ?_⟩
 ·rw [vc49]
  exact (oC h (fun _ h => h) fun _ h => h)
def c123 : Con := ⟨[.dat TStep], fun args hp K => g1 (pD TStep) (fun s => (Sm TStep s) ∧ K (dB (M.fieldsOk s)) []) args hp, .plain⟩
@[reducible] def C123 : Ctx := cx [] 68 [] 0 false
def ann123 := an [[.fixRow 1 TStep, kp 2], [kp 10], [kp 26], [kp 58], [kp 4]] []
@[reducible] def S123_0 (s : TStep.D) (K : KA) : Prop := cond ((decide (s.1 = Z3)) == false) (K (dB (decide ((s.2.2.2.2.2.1.length : Int) = Z0))) []) (K (dB true) [])
@[reducible] def S123_1 (s : TStep.D) (K : KA) : Prop := cond ((decide (s.1 = Z4)) == false) (cond ((decide ((s.2.2.2.2.1.length : Int) = Z0)) == true) (S123_0 s K) (K (dB false) [])) (S123_0 s K)
@[reducible] def S123_2 (s : TStep.D) (K : KA) : Prop := cond ((decide (s.1 = Z1)) == false) (cond ((decide (s.2.2.2.1 = Z0)) == true) (S123_1 s K) (K (dB false) [])) (S123_1 s K)
@[reducible] def S123_3 (s : TStep.D) (K : KA) : Prop := cond ((decide (s.1 = Z5)) == false) (cond ((decide (s.2.2.1 = Z0)) == true) (S123_2 s K) (K (dB false) [])) (S123_2 s K)
@[reducible] def S123_4 (s : TStep.D) (K : KA) : Prop := cond ((decide (s.1 = Z1)) == false) (cond ((decide (s.2.2.2.1 = Z0)) == true) (S123_0 s K) (K (dB false) [])) (S123_0 s K)
@[reducible] def S123_5 (s : TStep.D) (K : KA) : Prop := cond ((decide (s.1 = Z5)) == false) (cond ((decide (s.2.2.1 = Z0)) == true) (S123_4 s K) (K (dB false) [])) (S123_4 s K)
theorem vc123 (s : TStep.D) (K : KA) : vcT C123 noLoops ann123 f123 [.data TStep s] [] (.dat Ty.bool) K =
 (cond ((decide (s.1 = Z4)) == false) (cond ((decide (s.1 = Z2)) == false) (cond ((!(decide (s.1 = Z1))) == false) (cond ((decide (s.2.1 = Z0)) == true) (S123_3 s K) (K (dB false) [])) (S123_3 s K)) (cond ((!(decide (s.1 = Z1))) == false) (cond ((decide (s.2.1 = Z0)) == true) (S123_5 s K) (K (dB false) [])) (S123_5 s K))) (cond ((decide (s.1 = Z2)) == false) (cond ((!(decide (s.1 = Z1))) == false) (cond ((decide (s.2.1 = Z0)) == true) (S123_2 s K) (K (dB false) [])) (S123_2 s K)) (cond ((!(decide (s.1 = Z1))) == false) (cond ((decide (s.2.1 = Z0)) == true) (S123_4 s K) (K (dB false) [])) (S123_4 s K)))) := by kernel_rfl
theorem con123_ok : Con1 P 123 c123 := conR C123 func123 kN fun args hp K h0 => by
 obtain ⟨s, rfl, rfl, h_s, hK⟩ := g1e h0
 have h : ok (F.spec_l6Fields s) (fun r => K (dB r) []) := ok_of_eq (F.spec_l6Fields_eq s h_s) hK
 refine ⟨rfl, ann123, noLoops, (.dat Ty.bool), (no_loops (by kernel_rfl)), ?_⟩
 ·rw [vc123]
  exact (oC h (fun b_1 h => (oC h (fun _ h => (oC h (fun b_3 h => (oC h (fun _ h => (cond_t (ugt (dec_ne (bnf (bgt b_3)) (by decide))) (oC h (fun _ h => (cond_f (ugf (bnf (bgt b_3))) (cond_t (ugt (bgt b_1)) (oC h (fun _ h => (cond_t (ugt (dec_ne (bnf (bgt b_3)) (by decide))) h)) fun _ h => h)))) fun _ h => h))) fun _ h => h)) fun b_3 h => (oC h (fun _ h => (oC h (fun _ h => (cond_t (ugt (bnt (bgf b_3))) (oC h (fun _ h => (cond_t (ugt (bgt b_1)) (oC h (fun _ h => (oC h (fun _ h => h) fun _ h => h)) fun _ h => h))) fun _ h => h))) fun _ h => h)) fun b_27 h => (cond_t (ugt (bnt (bgf b_3))) (oC h (fun _ h => (cond_t (ugt (bgt b_1)) (oC h (fun _ h => (cond_t (ugt (dec_ne (bgf b_27) (by decide))) h)) fun _ h => h))) fun _ h => h))))) fun b_2 h => (cond_f (ugf (unt (dec_ne (bgf b_2) (by decide)))) (cond_t (ugt (dec_ne (bgf b_2) (by decide))) (oC h (fun _ h => (cond_t (ugt (dec_ne (bgf b_2) (by decide))) (oC h (fun _ h => (cond_t (ugt (dec_ne (bgf b_2) (by decide))) h)) fun _ h => h))) fun _ h => h))))) fun b_1 h => (cond_t (ugt (dec_ne (bgf b_1) (by decide))) (cond_f (ugf (unt (dec_ne (bgf b_1) (by decide)))) (cond_t (ugt (dec_ne (bgf b_1) (by decide))) (oC h (fun _ h => (cond_f (ugf (bgf b_1)) (cond_t (ugt (dec_ne (bgf b_1) (by decide))) h))) fun _ h => h)))))
def c131 : Con := ⟨[.dat TCS], fun args hp K => g1 (pD TCS) (fun columns => (Sm TCS columns) ∧ K (dB (M.columnsOk columns)) []) args hp, .plain⟩
@[reducible] def C131 : Ctx := cx [(49, c49)] 20 [] 0 false
def ann131 := an [[kp 1], [kp 9], [kp 137], [kp 9], [kp 65545], [kp 4], [kp 4]] [[kp 1]]
@[reducible] def s131_0 (columns : LC) (i0 : Int) (v0 : Unit) : St := ⟨[(0, .data TCS columns), (3, dI i0)], []⟩
@[reducible] def LP131_0 (columns : LC) (m : Nat) (st_ : St) (K : KX) : Prop := True ∧ LoopE (t := TColumn) (s131_0 columns) columns (F.spec_ColumnsOk_l0 columns) (fun v0 : Unit => True) (outD (fun v0 : Unit => True → K (.exit 0) (⟨[(0, .data TCS columns)], []⟩ : St)) (fun q0 : Unit => K .ret (⟨[(2, dB false)], []⟩ : St))) m st_
def L131 (columns : LC) : Loops := lp1 0 (LP131_0 columns)
theorem vc131 (columns : LC) (K : KA) : vcT C131 (L131 columns) ann131 f131 [.data TCS columns] [] (.dat Ty.bool) K =
 (∃ m_, True ∧ LoopE (t := TColumn) (s131_0 columns) columns (F.spec_ColumnsOk_l0 columns) (fun v0 : Unit => True) (outD (fun v0 : Unit => True → K (dB (decide ((columns.length : Int) ≤ Z4))) []) (fun q0 : Unit => K (dB false) [])) m_ (s131_0 columns Z0 ())) := by kernel_rfl
theorem lvc131_0 (columns : LC)  (i0 : Int) (v0 : Unit) (m : Nat) (K : KX) : lvT C131 (L131 columns) ann131 f131 0 0 (s131_0 columns i0 v0) m K =
 (cond (decide (i0 < (columns.length : Int))) ((0 ≤ i0) ∧ (i0 < (columns.length : Int)) ∧ cond (!(M.inR (nC columns i0).1 Z1 Z3)) (K .ret (⟨[(2, dB false)], []⟩ : St)) (nxT (LP131_0 columns) m K (s131_0 columns (wrap64 (i0 + Z1)) ()))) (K (.exit 0) (⟨[(0, .data TCS columns)], []⟩ : St))) := by kernel_rfl
theorem con131_ok : Con1 P 131 c131 := conR C131 func131 (kC con49_ok kN) fun args hp K h0 => by
 obtain ⟨columns, rfl, rfl, h_columns, hK⟩ := g1e h0
 have h : ok (F.spec_ColumnsOk columns) (fun r => K (dB r) []) := ok_of_eq (F.spec_ColumnsOk_eq columns h_columns) hK
 refine ⟨rfl, ann131, (L131 columns), (.dat Ty.bool), (loopsN1 (i0 := 0) (by kernel_rfl) ?_), ?_⟩
 ·rintro _ _ K ⟨hc0, i0, v0, rfl, hl0, rfl, hv0, h⟩
  exact cast (lvc131_0 _ _ _ _ _).symm (loopE_step (t := TColumn) hl0 h (fun ht0 h => ⟨hl0, ⟨ht0, (oC h (fun _ h => h) fun _ h => (loopE_next (t := TColumn) (fun _ hm => ⟨hc0, hm⟩) _ rfl hl0 ht0 (sm_len h_columns) trivial h))⟩⟩) fun h => (h trivial))
 ·rw [vc131]
  exact (loopE_start (t := TColumn) (fun m hm => ⟨trivial, hm⟩) _ rfl trivial (ok_then h (fun v0 h hv0 => h) (fun q0 h => h)))
def c201 : Con := ⟨[.dat Ty.str], fun args hp K => g1 (pD Ty.str) (fun s => (Sm Ty.str s) ∧ K (dB (M.text s)) []) args hp, .plain⟩
@[reducible] def C201 : Ctx := cx [] 23 [] 0 false
def ann201 := an [[kp 1], [kp 9], [kp 137], [kp 9], [kp 524297], [kp 4], [kp 4]] [[kp 1]]
@[reducible] def s201_0 (s : ByteArray) (i0 : Int) (v0 : Unit) : St := ⟨[(0, .data Ty.str s), (3, dI i0)], []⟩
@[reducible] def LP201_0 (s : ByteArray) (m : Nat) (st_ : St) (K : KX) : Prop := True ∧ LoopI (s201_0 s) Z0 (s.size : Int) (F.spec_l1Text_l0 s) (fun v0 : Unit => True) (outD (fun v0 : Unit => True → K (.exit 0) (⟨[(0, .data Ty.str s)], []⟩ : St)) (fun q0 : Unit => K .ret (⟨[(2, dB false)], []⟩ : St))) m st_
def L201 (s : ByteArray) : Loops := lp1 0 (LP201_0 s)
theorem vc201 (s : ByteArray) (K : KA) : vcT C201 (L201 s) ann201 f201 [.data Ty.str s] [] (.dat Ty.bool) K =
 (∃ m_, True ∧ LoopI (s201_0 s) Z0 (s.size : Int) (F.spec_l1Text_l0 s) (fun v0 : Unit => True) (outD (fun v0 : Unit => True → K (dB (decide ((s.size : Int) ≤ Z6))) []) (fun q0 : Unit => K (dB false) [])) m_ (s201_0 s Z0 ())) := by kernel_rfl
theorem lvc201_0 (s : ByteArray)  (i0 : Int) (v0 : Unit) (m : Nat) (K : KX) : lvT C201 (L201 s) ann201 f201 0 0 (s201_0 s i0 v0) m K =
 (cond (decide (i0 < (s.size : Int))) ((0 ≤ i0) ∧ (i0 < (s.size : Int)) ∧ cond ((decide (((s.get! i0.toNat).toNat : Int) < (97 : Int))) == false) ((0 ≤ i0) ∧ (i0 < (s.size : Int)) ∧ cond (decide ((122 : Int) < ((s.get! i0.toNat).toNat : Int))) (K .ret (⟨[(2, dB false)], []⟩ : St)) (nxT (LP201_0 s) m K (s201_0 s (wrap64 (i0 + Z1)) ()))) (K .ret (⟨[(2, dB false)], []⟩ : St))) (K (.exit 0) (⟨[(0, .data Ty.str s)], []⟩ : St))) := by kernel_rfl
theorem con201_ok : Con1 P 201 c201 := conR C201 func201 kN fun args hp K h0 => by
 obtain ⟨s, rfl, rfl, h_s, hK⟩ := g1e h0
 have h : ok (F.spec_l1Text s) (fun r => K (dB r) []) := ok_of_eq (F.spec_l1Text_eq s h_s) hK
 refine ⟨rfl, ann201, (L201 s), (.dat Ty.bool), (loopsN1 (i0 := 0) (by kernel_rfl) ?_), ?_⟩
 ·rintro _ _ K ⟨hc0, i0, v0, rfl, hl0, rfl, hv0, h⟩
  exact cast (lvc201_0 _ _ _ _ _).symm (loopI_step h (fun ht0 h => ⟨hl0, ⟨ht0, (oC h (fun _ h => ⟨hl0, ⟨ht0, (oC h (fun _ h => h) fun _ h => (loopI_next (fun _ hm => ⟨hc0, hm⟩) _ rfl hl0 low0 ht0 (sm_size h_s) trivial h))⟩⟩) fun _ h => h)⟩⟩) fun h => (h trivial))
 ·rw [vc201]
  exact (loopI_start (fun m hm => ⟨trivial, hm⟩) Z0 _ rfl (Int.natCast_nonneg 0) trivial (ok_then h (fun v0 h hv0 => h) (fun q0 h => h)))
def c177 : Con := ⟨[.dat TValue], fun args hp K => g1 (pD TValue) (fun v => (Sm TValue v) ∧ K (dB (M.valueOk v)) []) args hp, .plain⟩
@[reducible] def C177 : Ctx := cx [(49, c49), (201, c201)] 45 [] 0 false
def ann177 := an [[.fixRow 1 TValue, kp 2], [kp 18], [kp 50], [kp 4], [kp 32786], [kp 4], [kp 33554450], [kp 4], [.keep [1, 35]], [kp 4], [kp 4]] []
theorem vc177 (v : TValue.D) (K : KA) : vcT C177 noLoops ann177 f177 [.data TValue v] [] (.dat Ty.bool) K =
 (cond (decide (v.1 = Z0)) (cond ((decide (v.2.1 = Z0)) == true) (K (dB (decide (v.2.2.1 = (⟨#[]⟩ : ByteArray)))) []) (K (dB false) [])) (cond (decide (v.1 = Z1)) (cond ((M.inR v.2.1 (-9999 : Int) (9999 : Int)) == true) (K (dB (decide (v.2.2.1 = (⟨#[]⟩ : ByteArray)))) []) (K (dB false) [])) (cond (decide (v.1 = Z2)) (cond ((decide (v.2.1 = Z0)) == true) ((Sm Ty.str v.2.2.1) ∧ K (dB (M.text v.2.2.1)) []) (K (dB false) [])) (cond (decide (v.1 = Z3)) (cond ((M.inR v.2.1 Z0 Z1) == true) (K (dB (decide (v.2.2.1 = (⟨#[]⟩ : ByteArray)))) []) (K (dB false) [])) (K (dB false) []))))) := by kernel_rfl
theorem con177_ok : Con1 P 177 c177 := conR C177 func177 (kC con49_ok (kC con201_ok kN)) fun args hp K h0 => by
 obtain ⟨v, rfl, rfl, h_v, hK⟩ := g1e h0
 have h : ok (F.spec_ValueOk v) (fun r => K (dB r) []) := ok_of_eq (F.spec_ValueOk_eq v h_v) hK
 refine ⟨rfl, ann177, noLoops, (.dat Ty.bool), (no_loops (by kernel_rfl)), ?_⟩
 ·rw [vc177]
  exact (oC h (fun _ h => (oC h (fun _ h => h) fun _ h => h)) fun _ h => (oC h (fun _ h => (oC h (fun _ h => h) fun _ h => h)) fun _ h => (oC h (fun _ h => (oC h (fun _ h => ⟨h_v.2.2.1, h⟩) fun _ h => h)) fun _ h => (oC h (fun _ h => (oC h (fun _ h => h) fun _ h => h)) fun _ h => h))))
def c156 : Con := ⟨[.dat TCS, .mv, .dat TPart], fun args hp K => hpN 0 false TInt (fun kinds => args3 (fun a0 a1 a2 => withD TCS a0 fun columns => withO 0 a1 (withD TPart a2 fun p => (Sm TCS columns) ∧ (Sm (Ty.sl TInt) kinds) ∧ (Sm TPart p) ∧ (kinds.length ≤ 1000) ∧ (∀ r : (List Int) × Bool, r = (M.l4Step columns kinds p) → K (.tup [.own 0 none, dB r.2]) [(0, .arr false TInt r.1)]))) args []) hp, .mv⟩
@[reducible] def C156 : Ctx := cx [(49, c49), (177, c177)] 191 [] 0 true
def ann156 := an [[.fixRow 5 TPart, kp 35], [kp 291], [kp 137438953763], [kp 192], [kp 1099511628067], [kp 3298534883619], [.keep [1, 5, 52]], [kp 192], [kp 192], [kp 1152922604118475043], [.keep [0, 1, 5, 68]], [kp 192], [kp 192], [.keep [1, 5, 8, 40, 79]], [kp 770], [kp 192], [.keep [1, 5, 8, 40, 107]], [kp 1282], [kp 192], [.keep [1, 8, 40, 137]], [.keep [1, 8, 40, 137]], [kp 2306], [kp 192], [.keep [1, 8, 40, 166]], [kp 192], [.keep [1, 8, 179]], [kp 192], [kp 192]] []
@[reducible] def S156_0 (columns : LC) (kinds : (List Int)) (p : TPart.D) (K : KA) : Prop := (0 ≤ Z0) ∧ (Z0 ≤ (maxI (wrap64 ((kinds.length : Int) - Z2)) Z0)) ∧ ((maxI (wrap64 ((kinds.length : Int) - Z2)) Z0) ≤ (kinds.length : Int)) ∧ ((maxI (wrap64 ((kinds.length : Int) - Z2)) Z0) = (maxI (wrap64 ((kinds.length : Int) - Z2)) Z0)) ∧ (Z0 = 0) ∧ (((maxI (wrap64 ((kinds.length : Int) - Z2)) Z0).toNat + [Z1].length) * 8 ≤ lim) ∧ K (.tup [.own 0 none, dB false]) [(0, .arr false TInt (kinds.take (maxI (wrap64 ((kinds.length : Int) - Z2)) Z0).toNat ++ [Z1]))]
@[reducible] def S156_1 (columns : LC) (kinds : (List Int)) (p : TPart.D) (K : KA) : Prop := (0 ≤ Z0) ∧ (Z0 ≤ (maxI (wrap64 ((kinds.length : Int) - Z2)) Z0)) ∧ ((maxI (wrap64 ((kinds.length : Int) - Z2)) Z0) ≤ (kinds.length : Int)) ∧ ((maxI (wrap64 ((kinds.length : Int) - Z2)) Z0) = (maxI (wrap64 ((kinds.length : Int) - Z2)) Z0)) ∧ (Z0 = 0) ∧ (((maxI (wrap64 ((kinds.length : Int) - Z2)) Z0).toNat + [Z3].length) * 8 ≤ lim) ∧ K (.tup [.own 0 none, dB false]) [(0, .arr false TInt (kinds.take (maxI (wrap64 ((kinds.length : Int) - Z2)) Z0).toNat ++ [Z3]))]
@[reducible] def S156_2 (columns : LC) (kinds : (List Int)) (p : TPart.D) (K : KA) : Prop := (S156_1 columns kinds p K)
@[reducible] def S156_3 (columns : LC) (kinds : (List Int)) (p : TPart.D) (K : KA) : Prop := cond ((decide (Z1 < (kinds.length : Int))) == true) ((0 ≤ wrap64 ((kinds.length : Int) - Z1)) ∧ (wrap64 ((kinds.length : Int) - Z1) < (kinds.length : Int)) ∧ cond ((decide ((nI kinds (wrap64 ((kinds.length : Int) - Z1))) = Z3)) == true) ((0 ≤ wrap64 ((kinds.length : Int) - Z2)) ∧ (wrap64 ((kinds.length : Int) - Z2) < (kinds.length : Int)) ∧ (0 ≤ Z0) ∧ (Z0 ≤ (maxI (wrap64 ((kinds.length : Int) - Z2)) Z0)) ∧ ((maxI (wrap64 ((kinds.length : Int) - Z2)) Z0) ≤ (kinds.length : Int)) ∧ ((maxI (wrap64 ((kinds.length : Int) - Z2)) Z0) = (maxI (wrap64 ((kinds.length : Int) - Z2)) Z0)) ∧ (Z0 = 0) ∧ (((maxI (wrap64 ((kinds.length : Int) - Z2)) Z0).toNat + [Z3].length) * 8 ≤ lim) ∧ K (.tup [.own 0 none, dB (decide ((nI kinds (wrap64 ((kinds.length : Int) - Z2))) = Z3))]) [(0, .arr false TInt (kinds.take (maxI (wrap64 ((kinds.length : Int) - Z2)) Z0).toNat ++ [Z3]))]) (S156_2 columns kinds p K)) (S156_2 columns kinds p K)
@[reducible] def S156_4 (columns : LC) (kinds : (List Int)) (p : TPart.D) (K : KA) : Prop := cond (decide (p.1 = (7 : Int))) (cond ((decide (Z0 < (kinds.length : Int))) == true) ((0 ≤ wrap64 ((kinds.length : Int) - Z1)) ∧ (wrap64 ((kinds.length : Int) - Z1) < (kinds.length : Int)) ∧ K (.tup [.own 0 none, dB (decide ((nI kinds (wrap64 ((kinds.length : Int) - Z1))) = Z3))]) [(0, .arr false TInt kinds)]) (K (.tup [.own 0 none, dB false]) [(0, .arr false TInt kinds)])) (cond (decide (p.1 = (8 : Int))) ((0 ≤ Z0) ∧ (Z0 ≤ (maxI (wrap64 ((kinds.length : Int) - Z1)) Z0)) ∧ ((maxI (wrap64 ((kinds.length : Int) - Z1)) Z0) ≤ (kinds.length : Int)) ∧ ((maxI (wrap64 ((kinds.length : Int) - Z1)) Z0) = (maxI (wrap64 ((kinds.length : Int) - Z1)) Z0)) ∧ (Z0 = 0) ∧ (((maxI (wrap64 ((kinds.length : Int) - Z1)) Z0).toNat + [Z3].length) * 8 ≤ lim) ∧ K (.tup [.own 0 none, dB (decide (Z0 < (kinds.length : Int)))]) [(0, .arr false TInt (kinds.take (maxI (wrap64 ((kinds.length : Int) - Z1)) Z0).toNat ++ [Z3]))]) (K (.tup [.own 0 none, dB false]) [(0, .arr false TInt kinds)]))
@[reducible] def S156_5 (columns : LC) (kinds : (List Int)) (p : TPart.D) (K : KA) : Prop := cond (decide (p.1 = Z1)) ((Sm TValue p.2.2.1) ∧ cond ((!(M.valueOk p.2.2.1)) == false) (cond (decide (p.2.2.1.1 = Z0)) (K (.tup [.own 0 none, dB false]) [(0, .arr false TInt kinds)]) (((kinds.length + [p.2.2.1.1].length) * 8 ≤ lim) ∧ K (.tup [.own 0 none, dB true]) [(0, .arr false TInt (kinds ++ [p.2.2.1.1]))])) (K (.tup [.own 0 none, dB false]) [(0, .arr false TInt kinds)])) (cond (decide (p.1 = Z2)) (cond (!(M.inR p.2.1 Z0 (wrap64 ((columns.length : Int) - Z1)))) (K (.tup [.own 0 none, dB false]) [(0, .arr false TInt kinds)]) ((0 ≤ p.2.1) ∧ (p.2.1 < (columns.length : Int)) ∧ ((kinds.length + [(nC columns p.2.1).1].length) * 8 ≤ lim) ∧ K (.tup [.own 0 none, dB true]) [(0, .arr false TInt (kinds ++ [(nC columns p.2.1).1]))])) (cond (decide (p.1 = Z3)) (cond ((decide (Z1 < (kinds.length : Int))) == true) ((0 ≤ wrap64 ((kinds.length : Int) - Z1)) ∧ (wrap64 ((kinds.length : Int) - Z1) < (kinds.length : Int)) ∧ cond ((decide ((nI kinds (wrap64 ((kinds.length : Int) - Z1))) = Z1)) == true) ((0 ≤ wrap64 ((kinds.length : Int) - Z2)) ∧ (wrap64 ((kinds.length : Int) - Z2) < (kinds.length : Int)) ∧ (0 ≤ Z0) ∧ (Z0 ≤ (maxI (wrap64 ((kinds.length : Int) - Z2)) Z0)) ∧ ((maxI (wrap64 ((kinds.length : Int) - Z2)) Z0) ≤ (kinds.length : Int)) ∧ ((maxI (wrap64 ((kinds.length : Int) - Z2)) Z0) = (maxI (wrap64 ((kinds.length : Int) - Z2)) Z0)) ∧ (Z0 = 0) ∧ (((maxI (wrap64 ((kinds.length : Int) - Z2)) Z0).toNat + [Z1].length) * 8 ≤ lim) ∧ K (.tup [.own 0 none, dB (decide ((nI kinds (wrap64 ((kinds.length : Int) - Z2))) = Z1))]) [(0, .arr false TInt (kinds.take (maxI (wrap64 ((kinds.length : Int) - Z2)) Z0).toNat ++ [Z1]))]) (S156_0 columns kinds p K)) (S156_0 columns kinds p K)) (cond (decide (p.1 = Z4)) (cond ((decide (Z1 < (kinds.length : Int))) == true) ((0 ≤ wrap64 ((kinds.length : Int) - Z1)) ∧ (wrap64 ((kinds.length : Int) - Z1) < (kinds.length : Int)) ∧ (0 ≤ wrap64 ((kinds.length : Int) - Z2)) ∧ (wrap64 ((kinds.length : Int) - Z2) < (kinds.length : Int)) ∧ cond ((decide ((nI kinds (wrap64 ((kinds.length : Int) - Z1))) = (nI kinds (wrap64 ((kinds.length : Int) - Z2))))) == true) ((0 ≤ Z0) ∧ (Z0 ≤ (maxI (wrap64 ((kinds.length : Int) - Z2)) Z0)) ∧ ((maxI (wrap64 ((kinds.length : Int) - Z2)) Z0) ≤ (kinds.length : Int)) ∧ ((maxI (wrap64 ((kinds.length : Int) - Z2)) Z0) = (maxI (wrap64 ((kinds.length : Int) - Z2)) Z0)) ∧ (Z0 = 0) ∧ (((maxI (wrap64 ((kinds.length : Int) - Z2)) Z0).toNat + [Z3].length) * 8 ≤ lim) ∧ K (.tup [.own 0 none, dB (M.inR p.2.1 Z1 Z4)]) [(0, .arr false TInt (kinds.take (maxI (wrap64 ((kinds.length : Int) - Z2)) Z0).toNat ++ [Z3]))]) (S156_2 columns kinds p K)) (S156_2 columns kinds p K)) (cond (decide (p.1 = Z5)) (cond (decide (p.1 = Z5)) (S156_3 columns kinds p K) (S156_4 columns kinds p K)) (cond (decide (p.1 = Z6)) (S156_3 columns kinds p K) (S156_4 columns kinds p K))))))
@[reducible] def S156_6 (columns : LC) (kinds : (List Int)) (p : TPart.D) (K : KA) : Prop := cond ((!decide (p.1 = Z2)) == true) (cond ((!decide (p.1 = Z4)) == true) (cond (!decide (p.2.1 = Z0)) (K (.tup [.own 0 none, dB false]) [(0, .arr false TInt kinds)]) (S156_5 columns kinds p K)) (S156_5 columns kinds p K)) (S156_5 columns kinds p K)
theorem vc156 (columns : LC) (kinds : (List Int)) (p : TPart.D) (K : KA) : vcT C156 noLoops ann156 f156 [.data TCS columns, .own 0 none, .data TPart p] [(0, .arr false TInt kinds)] .raw K =
 (cond ((!decide (p.1 = Z1)) == true) (cond ((!(Ty.beq TValue p.2.2.1 (Z0, (Z0, ((⟨#[]⟩ : ByteArray), ()))))) == false) (S156_6 columns kinds p K) (K (.tup [.own 0 none, dB false]) [(0, .arr false TInt kinds)])) (S156_6 columns kinds p K)) := by kernel_rfl
theorem con156_ok : Con1 P 156 c156 := conR C156 func156 (kC con49_ok (kC con177_ok kN)) fun args hp K h0 => by
 unfold c156 at h0
 dsimp only at h0
 obtain ⟨kinds, rfl, h00⟩ := hpN_elim (n := 0) (d := false) (t := TInt) h0
 obtain ⟨a0, a1, a2, rfl, _, h1⟩ := args3_elim h00
 obtain ⟨columns, rfl, h2⟩ := withD_elim h1
 obtain ⟨rfl, h3⟩ := withO_elim h2
 obtain ⟨p, rfl, h4⟩ := withD_elim h3
 obtain ⟨h_columns, h_kinds, h_p, p0, hK⟩ := h4
 have h : ok (F.spec_l4Step columns kinds p) (fun r => K (.tup [.own 0 none, dB r.2]) [(0, .arr false TInt r.1)]) := ok_of_eq (F.spec_l4Step_eq columns kinds p h_columns h_kinds h_p p0) (hK _ rfl)
 refine ⟨rfl, ann156, noLoops, .raw, (no_loops (by kernel_rfl)), ?_⟩
 ·rw [vc156]
  exact (oC h (fun b_1 h => (oC h (fun _ h => (oC h (fun b_3 h => (oC h (fun b_4 h => (oC h (fun _ h => h) fun _ h => (cond_f (bnt (bet b_1)) (cond_f (bnt (bet b_3)) (oC h (fun _ h => (oC h (fun _ h => (oG h fun _ h => (oG h fun _ h => (oC h (fun _ h => (oG h fun _ h => (oG h fun _ h => ⟨(Int.natCast_nonneg 0), (oG h fun _ h => (oG h fun _ h => ⟨rfl, ⟨rfl, (oG h fun _ h => h)⟩⟩))⟩))) fun _ h => ⟨(Int.natCast_nonneg 0), (oG h fun _ h => (oG h fun _ h => ⟨rfl, ⟨rfl, (oG h fun _ h => h)⟩⟩))⟩)))) fun _ h => ⟨(Int.natCast_nonneg 0), (oG h fun _ h => (oG h fun _ h => ⟨rfl, ⟨rfl, (oG h fun _ h => h)⟩⟩))⟩)) fun _ h => (cond_f (bnt (bet b_4)) (oC h (fun b_25 h => (cond_t b_25 (oC h (fun _ h => (oG h fun _ h => (oG h fun _ h => (oC h (fun _ h => (oG h fun _ h => (oG h fun _ h => ⟨(Int.natCast_nonneg 0), (oG h fun _ h => (oG h fun _ h => ⟨rfl, ⟨rfl, (oG h fun _ h => h)⟩⟩))⟩))) fun _ h => ⟨(Int.natCast_nonneg 0), (oG h fun _ h => (oG h fun _ h => ⟨rfl, ⟨rfl, (oG h fun _ h => h)⟩⟩))⟩)))) fun _ h => ⟨(Int.natCast_nonneg 0), (oG h fun _ h => (oG h fun _ h => ⟨rfl, ⟨rfl, (oG h fun _ h => h)⟩⟩))⟩))) fun _ h => (oC h (fun _ h => (oC h (fun _ h => (oG h fun _ h => (oG h fun _ h => (oC h (fun _ h => (oG h fun _ h => (oG h fun _ h => ⟨(Int.natCast_nonneg 0), (oG h fun _ h => (oG h fun _ h => ⟨rfl, ⟨rfl, (oG h fun _ h => h)⟩⟩))⟩))) fun _ h => ⟨(Int.natCast_nonneg 0), (oG h fun _ h => (oG h fun _ h => ⟨rfl, ⟨rfl, (oG h fun _ h => h)⟩⟩))⟩)))) fun _ h => ⟨(Int.natCast_nonneg 0), (oG h fun _ h => (oG h fun _ h => ⟨rfl, ⟨rfl, (oG h fun _ h => h)⟩⟩))⟩)) fun _ h => (oC h (fun _ h => (oC h (fun _ h => (oG h fun _ h => (oG h fun _ h => h))) fun _ h => h)) fun _ h => (oC h (fun _ h => ⟨(Int.natCast_nonneg 0), (oG h fun _ h => (oG h fun _ h => ⟨rfl, ⟨rfl, (oG h fun _ h => h)⟩⟩))⟩) fun _ h => h)))))))))) fun b_4 h => (cond_f (bnt (bet b_1)) (cond_f (bnt (bet b_3)) (cond_f (dec_ne (bnf (bef b_4)) (by decide)) (cond_t (bnf (bef b_4)) (oC h (fun _ h => (oG h fun _ h => (oG h fun _ h => (oG h fun _ h => (oG h fun _ h => (oC h (fun _ h => ⟨(Int.natCast_nonneg 0), (oG h fun _ h => (oG h fun _ h => ⟨rfl, ⟨rfl, (oG h fun _ h => h)⟩⟩))⟩) fun _ h => ⟨(Int.natCast_nonneg 0), (oG h fun _ h => (oG h fun _ h => ⟨rfl, ⟨rfl, (oG h fun _ h => h)⟩⟩))⟩)))))) fun _ h => ⟨(Int.natCast_nonneg 0), (oG h fun _ h => (oG h fun _ h => ⟨rfl, ⟨rfl, (oG h fun _ h => h)⟩⟩))⟩))))))) fun b_3 h => (cond_f (bnt (bet b_1)) (cond_t (bnf (bef b_3)) (oC h (fun _ h => h) fun b_110 h => ⟨(inR_lo (bnf b_110)), ⟨(inR_hi (bnf b_110)), ⟨(sm_lim2 h_kinds (sm_one trivial) rfl), h⟩⟩⟩))))) fun _ h => h)) fun b_1 h => (cond_t (uet (unt (dec_ne (bnf (bef b_1)) (by decide)))) (cond_t (uet (unt (dec_ne (bnf (bef b_1)) (by decide)))) (oC h (fun _ h => h) fun _ h => (cond_t (bnf (bef b_1)) ⟨h_p.2.2.1, (oC h (fun _ h => (oC h (fun _ h => h) fun _ h => ⟨(sm_lim2 h_kinds (sm_one trivial) rfl), h⟩)) fun _ h => h)⟩)))))
def c124 : Con := ⟨[.dat TCS, .dat TPS], fun args hp K => g2 (pD TCS) (pD TPS) (fun columns e => (Sm TCS columns) ∧ (Sm TPS e) ∧ K (dI (M.exprKind columns e)) []) args hp, .plain⟩
@[reducible] def C124 : Ctx := cx [(131, c131), (156, c156)] 46 [] 0 false
def ann124 := an [[kp 3], [kp 32771], [kp 16], [kp 35], [kp 99], [kp 227], [kp 8388835], [kp 227], [kp 227], [.keep [5, 42]], [kp 16], [kp 16]] [[kp 96]]
@[reducible] def s124_0 (columns : LC) (e : LPt) (v0 : Bool × Int × (List Int)) : St := ⟨[(0, .data TCS columns), (1, .data TPS e), (5, .own 16 none), (6, dB v0.1), (7, dI v0.2.1)], [(16, .arr false TInt v0.2.2)]⟩
@[reducible] def LP124_0 (columns : LC) (e : LPt) (m : Nat) (st_ : St) (K : KX) : Prop := True ∧ LoopW (s124_0 columns e) (F.spec_ExprKind_l0 columns e) (fun v0 : Bool × Int × (List Int) => True) (fun e0 : Bool × (List Int) => True → K (.exit 0) (⟨[(5, .own 16 none), (6, dB e0.1)], [(16, .arr false TInt e0.2)]⟩ : St)) m st_
def L124 (columns : LC) (e : LPt) : Loops := lp1 0 (LP124_0 columns e)
theorem vc124 (columns : LC) (e : LPt) (K : KA) : vcT C124 (L124 columns e) ann124 f124 [.data TCS columns, .data TPS e] [] (.dat TInt) K =
 ((Sm TCS columns) ∧ cond ((!(M.columnsOk columns)) == false) (cond (decide ((12 : Int) < (e.length : Int))) (K (dI (-1 : Int)) []) (∃ m_, True ∧ LoopW (s124_0 columns e) (F.spec_ExprKind_l0 columns e) (fun v0 : Bool × Int × (List Int) => True) (fun e0 : Bool × (List Int) => True → cond ((!e0.1) == false) (cond (!decide ((e0.2.length : Int) = Z1)) (K (dI (-1 : Int)) []) ((0 ≤ Z0) ∧ (Z0 < (e0.2.length : Int)) ∧ K (dI (nI e0.2 Z0)) [])) (K (dI (-1 : Int)) [])) m_ (s124_0 columns e (true, Z0, [])))) (K (dI (-1 : Int)) [])) := by kernel_rfl
theorem lvc124_0 (columns : LC) (e : LPt)  (v0 : Bool × Int × (List Int)) (m : Nat) (K : KX) : lvT C124 (L124 columns e) ann124 f124 0 0 (s124_0 columns e v0) m K =
 (cond ((decide (v0.2.1 < (e.length : Int))) == true) (cond v0.1 ((0 ≤ v0.2.1) ∧ (v0.2.1 < (e.length : Int)) ∧ (Sm TCS columns) ∧ (Sm (Ty.sl TInt) v0.2.2) ∧ (Sm TPart (nP e v0.2.1)) ∧ (v0.2.2.length ≤ 1000) ∧ (∀ r1 : (List Int) × Bool, r1 = (M.l4Step columns v0.2.2 (nP e v0.2.1)) → (nxT (LP124_0 columns e) m K (s124_0 columns e (r1.2, wrap64 (v0.2.1 + Z1), r1.1))))) (K (.exit 0) (⟨[(5, .own 16 none), (6, dB v0.1)], [(16, .arr false TInt v0.2.2)]⟩ : St))) (K (.exit 0) (⟨[(5, .own 16 none), (6, dB v0.1)], [(16, .arr false TInt v0.2.2)]⟩ : St))) := by kernel_rfl
theorem con124_ok : Con1 P 124 c124 := conR C124 func124 (kC con131_ok (kC con156_ok kN)) fun args hp K h0 => by
 obtain ⟨columns, e, rfl, rfl, h_columns, h_e, hK⟩ := g2e h0
 have h : ok (F.spec_ExprKind columns e) (fun r => K (dI r) []) := ok_of_eq (F.spec_ExprKind_eq columns e h_columns h_e) hK
 refine ⟨rfl, ann124, (L124 columns e), (.dat TInt), (loopsN1 (i0 := 0) (by kernel_rfl) ?_), ?_⟩
 ·rintro _ _ K ⟨hc0, v0, rfl, hv0, h⟩
  exact cast (lvc124_0 _ _ _ _ _).symm (loopW_step h (fun m1 hm0 h => (oC h (fun _ h => (oC h (fun _ h => (oG h fun _ h => (oG h fun _ h => ⟨h_columns, (oG h fun _ h => ⟨(sm_nth h_e v0.2.1), (oG h fun _ h => (oL h fun _ _ h => (loopW_next (fun _ hm => ⟨hc0, hm⟩) hm0 _ rfl trivial h)))⟩)⟩))) fun _ h => ((ok_ret h :) trivial))) fun _ h => ((ok_ret h :) trivial))))
 ·rw [vc124]
  exact ⟨h_columns, (oC h (fun _ h => (oC h (fun _ h => h) fun _ h => (loopW_start (fun m hm => ⟨trivial, hm⟩) _ rfl trivial (ok_bind h (fun e0 h hv0 => (oC h (fun _ h => (oC h (fun _ h => h) fun _ h => ⟨(Int.natCast_nonneg 0), (oG h fun _ h => h)⟩)) fun _ h => h)))))) fun _ h => h)⟩
def c80 : Con := ⟨[.dat TTb, .lent TCS, .dat TStep], fun args hp K => g3 (pD TTb) (pB TCS) (pD TStep) (fun tables ahead s => (Sm TTb tables) ∧ (Sm (Ty.sl TCS) ahead) ∧ (Sm TStep s) ∧ (∀ r : LC × Bool, r = (M.l6Columns tables ahead s) → K (.tup [.data TCS r.1, dB r.2]) [])) args hp, .plain⟩
@[reducible] def C80 : Ctx := cx [(49, c49), (123, c123), (124, c124)] 185 [] 0 false
def ann80 := an [[.fixRow 5 TStep, kp 35], [kp 32803], [kp 192], [kp 524323], [kp 67108897], [kp 192], [kp 192], [.keep [1, 5, 51]], [kp 192], [kp 290], [.keep [1, 5, 8, 61]], [kp 6917529027641082146], [kp 192], [.keep [1, 5, 8, 61, 70]], [kp 800], [kp 1824], [.keep [5, 8, 9, 10, 77]], [kp 1824], [.keep [5, 8, 9, 10, 89]], [kp 192], [kp 1824], [kp 192], [.keep [1, 5, 8, 61, 106]], [kp 2080], [kp 192], [.keep [1, 5, 8, 61, 126]], [.keep [1, 5, 8, 136]], [kp 192], [kp 4386], [.keep [1, 5, 8, 12, 141]], [kp 4386], [.keep [1, 5, 8, 12, 158]], [kp 192], [kp 4386], [kp 192], [.keep [8, 181]], [kp 192], [kp 192]] [[], [kp 512], [], [kp 256]]
@[reducible] def s80_1 (tables : LTb) (ahead : (List LC)) (s : TStep.D) (i1 : Int) (v1 : LC) : St := ⟨[(5, .adr TStep s), (8, .own 53 none), (9, .own 72 none), (10, dI i1)], [(53, .arr false TColumn ([] ++ (nth (t := TCS) ahead s.2.1))), (72, .arr false TColumn v1)]⟩
@[reducible] def LP80_1 (tables : LTb) (ahead : (List LC)) (s : TStep.D) (m : Nat) (st_ : St) (K : KX) : Prop := True ∧ LoopE (t := TInt) (s80_1 tables ahead s) s.2.2.2.2.2.1 (F.spec_l6Columns_l1 tables ahead s) (fun v1 : LC => True) (outD (fun v1 : LC => True → K (.exit 1) (⟨[(9, .own 72 none)], [(72, .arr false TColumn v1)]⟩ : St)) (fun q1 : Unit => K .ret (⟨[(6, .own 90 none), (7, dB false)], [(90, .arr false TColumn [])]⟩ : St))) m st_
@[reducible] def s80_3 (tables : LTb) (ahead : (List LC)) (s : TStep.D) (v3 : Int × LC) : St := ⟨[(1, .brw TCS ahead), (5, .adr TStep s), (8, .own 53 none), (12, dI v3.1)], [(53, .arr false TColumn v3.2)]⟩
@[reducible] def LP80_3 (tables : LTb) (ahead : (List LC)) (s : TStep.D) (m : Nat) (st_ : St) (K : KX) : Prop := True ∧ LoopW (s80_3 tables ahead s) (F.spec_l6Columns_l3 tables ahead s) (fun v3 : Int × LC => True) (outD (fun e3 : LC => True → K (.exit 3) (⟨[(8, .own 53 none)], [(53, .arr false TColumn e3)]⟩ : St)) (fun q3 : Unit => K .ret (⟨[(6, .own 159 none), (7, dB false)], [(159, .arr false TColumn [])]⟩ : St))) m st_
def L80 (tables : LTb) (ahead : (List LC)) (s : TStep.D) : Loops := lp2 1 (LP80_1 tables ahead s) 3 (LP80_3 tables ahead s)
theorem vc80 (tables : LTb) (ahead : (List LC)) (s : TStep.D) (K : KA) : vcT C80 (L80 tables ahead s) ann80 f80 [.data TTb tables, .brw TCS ahead, .data TStep s] [] (.tup [TCS, Ty.bool]) K =
 ((Sm TStep s) ∧ cond (!(M.fieldsOk s)) (K (.tup [.data TCS [], dB false]) []) (cond (decide (s.1 = Z1)) (cond (!(M.inR s.2.2.2.1 Z0 (wrap64 ((tables.length : Int) - Z1)))) (K (.tup [.data TCS [], dB false]) []) ((0 ≤ s.2.2.2.1) ∧ (s.2.2.2.1 < (tables.length : Int)) ∧ ((([] : List TColumn.D).length + (nT tables s.2.2.2.1).1.length) * 16 ≤ lim) ∧ K (.tup [.data TCS ([] ++ (nT tables s.2.2.2.1).1), dB true]) [])) (cond ((!(M.inR s.2.1 Z0 (wrap64 ((ahead.length : Int) - Z1)))) == false) (cond (!(M.inR s.2.2.1 Z0 (wrap64 ((ahead.length : Int) - Z1)))) (K (.tup [.data TCS [], dB false]) []) ((0 ≤ s.2.1) ∧ (s.2.1 < (ahead.length : Int)) ∧ ((([] : List TColumn.D).length + (nth (t := TCS) ahead s.2.1).length) * 16 ≤ lim) ∧ cond (decide (s.1 = Z2)) ((Sm TCS ([] ++ (nth (t := TCS) ahead s.2.1))) ∧ (Sm TPS s.2.2.2.2.1) ∧ K (.tup [.data TCS ([] ++ (nth (t := TCS) ahead s.2.1)), dB (decide ((M.exprKind ([] ++ (nth (t := TCS) ahead s.2.1)) s.2.2.2.2.1) = Z3))]) []) (cond (decide (s.1 = Z3)) (∃ m_, True ∧ LoopE (t := TInt) (s80_1 tables ahead s) s.2.2.2.2.2.1 (F.spec_l6Columns_l1 tables ahead s) (fun v1 : LC => True) (outD (fun v1 : LC => True → K (.tup [.data TCS v1, dB (decide ((v1.length : Int) ≤ Z4))]) []) (fun q1 : Unit => K (.tup [.data TCS [], dB false]) [])) m_ (s80_1 tables ahead s Z0 [])) (cond (decide (s.1 = Z4)) ((0 ≤ s.2.2.1) ∧ (s.2.2.1 < (ahead.length : Int)) ∧ ((([] ++ (nth (t := TCS) ahead s.2.1)).length + (nth (t := TCS) ahead s.2.2.1).length) * 16 ≤ lim) ∧ cond ((decide (((([] ++ (nth (t := TCS) ahead s.2.1)) ++ (nth (t := TCS) ahead s.2.2.1)).length : Int) ≤ Z4)) == true) ((Sm TCS (([] ++ (nth (t := TCS) ahead s.2.1)) ++ (nth (t := TCS) ahead s.2.2.1))) ∧ (Sm TPS s.2.2.2.2.1) ∧ K (.tup [.data TCS (([] ++ (nth (t := TCS) ahead s.2.1)) ++ (nth (t := TCS) ahead s.2.2.1)), dB (decide ((M.exprKind (([] ++ (nth (t := TCS) ahead s.2.1)) ++ (nth (t := TCS) ahead s.2.2.1)) s.2.2.2.2.1) = Z3))]) []) (K (.tup [.data TCS (([] ++ (nth (t := TCS) ahead s.2.1)) ++ (nth (t := TCS) ahead s.2.2.1)), dB false]) [])) (cond (decide (s.1 = Z5)) ((0 ≤ s.2.2.1) ∧ (s.2.2.1 < (ahead.length : Int)) ∧ cond (!decide ((([] ++ (nth (t := TCS) ahead s.2.1)).length : Int) = ((nth (t := TCS) ahead s.2.2.1).length : Int))) (K (.tup [.data TCS [], dB false]) []) (∃ m_, True ∧ LoopW (s80_3 tables ahead s) (F.spec_l6Columns_l3 tables ahead s) (fun v3 : Int × LC => True) (outD (fun e3 : LC => True → K (.tup [.data TCS e3, dB true]) []) (fun q3 : Unit => K (.tup [.data TCS [], dB false]) [])) m_ (s80_3 tables ahead s (Z0, ([] ++ (nth (t := TCS) ahead s.2.1)))))) (cond (decide (s.1 = Z6)) (K (.tup [.data TCS ([] ++ (nth (t := TCS) ahead s.2.1)), dB true]) []) (K (.tup [.data TCS [], dB false]) []))))))) (K (.tup [.data TCS [], dB false]) [])))) := by kernel_rfl
theorem lvc80_0 (tables : LTb) (ahead : (List LC)) (s : TStep.D)  (i1 : Int) (v1 : LC) (m : Nat) (K : KX) : lvT C80 (L80 tables ahead s) ann80 f80 0 1 (s80_1 tables ahead s i1 v1) m K =
 (cond (decide (i1 < (s.2.2.2.2.2.1.length : Int))) ((0 ≤ i1) ∧ (i1 < (s.2.2.2.2.2.1.length : Int)) ∧ cond (!(M.inR (nI s.2.2.2.2.2.1 i1) Z0 (wrap64 ((([] ++ (nth (t := TCS) ahead s.2.1)).length : Int) - Z1)))) (K .ret (⟨[(6, .own 90 none), (7, dB false)], [(90, .arr false TColumn [])]⟩ : St)) ((0 ≤ i1) ∧ (i1 < (s.2.2.2.2.2.1.length : Int)) ∧ (0 ≤ (nI s.2.2.2.2.2.1 i1)) ∧ ((nI s.2.2.2.2.2.1 i1) < (([] ++ (nth (t := TCS) ahead s.2.1)).length : Int)) ∧ ((v1.length + ([(nC ([] ++ (nth (t := TCS) ahead s.2.1)) (nI s.2.2.2.2.2.1 i1))] : List TColumn.D).length) * 16 ≤ lim) ∧ (nxT (LP80_1 tables ahead s) m K (s80_1 tables ahead s (wrap64 (i1 + Z1)) (v1 ++ [(nC ([] ++ (nth (t := TCS) ahead s.2.1)) (nI s.2.2.2.2.2.1 i1))]))))) (K (.exit 1) (⟨[(9, .own 72 none)], [(72, .arr false TColumn v1)]⟩ : St))) := by kernel_rfl
theorem lvc80_1 (tables : LTb) (ahead : (List LC)) (s : TStep.D)  (v3 : Int × LC) (m : Nat) (K : KX) : lvT C80 (L80 tables ahead s) ann80 f80 1 3 (s80_3 tables ahead s v3) m K =
 (cond (decide (v3.1 < (v3.2.length : Int))) ((0 ≤ v3.1) ∧ (v3.1 < (v3.2.length : Int)) ∧ (0 ≤ s.2.2.1) ∧ (s.2.2.1 < (ahead.length : Int)) ∧ (0 ≤ v3.1) ∧ (v3.1 < ((nth (t := TCS) ahead s.2.2.1).length : Int)) ∧ cond (!decide ((nC v3.2 v3.1).1 = (nC (nth (t := TCS) ahead s.2.2.1) v3.1).1)) (K .ret (⟨[(6, .own 159 none), (7, dB false)], [(159, .arr false TColumn [])]⟩ : St)) ((0 ≤ v3.1) ∧ (v3.1 < (v3.2.length : Int)) ∧ cond ((nC v3.2 v3.1).2.1 == false) ((0 ≤ s.2.2.1) ∧ (s.2.2.1 < (ahead.length : Int)) ∧ (0 ≤ v3.1) ∧ (v3.1 < ((nth (t := TCS) ahead s.2.2.1).length : Int)) ∧ (0 ≤ v3.1) ∧ (v3.1 < (v3.2.length : Int)) ∧ (let y1 : LC := (v3.2.set v3.1.toNat ((nC v3.2 v3.1).1, (nC (nth (t := TCS) ahead s.2.2.1) v3.1).2)); (nxT (LP80_3 tables ahead s) m K (s80_3 tables ahead s (wrap64 (v3.1 + Z1), y1))))) ((0 ≤ v3.1) ∧ (v3.1 < (v3.2.length : Int)) ∧ (nxT (LP80_3 tables ahead s) m K (s80_3 tables ahead s (wrap64 (v3.1 + Z1), (v3.2.set v3.1.toNat ((nC v3.2 v3.1).1, (true, ()))))))))) (K (.exit 3) (⟨[(8, .own 53 none)], [(53, .arr false TColumn v3.2)]⟩ : St))) := by kernel_rfl
theorem con80_ok : Con1 P 80 c80 := conR C80 func80 (kC con49_ok (kC con123_ok (kC con124_ok kN))) fun args hp K h0 => by
 obtain ⟨tables, ahead, s, rfl, rfl, h_tables, h_ahead, h_s, hK⟩ := g3e h0
 have h : ok (F.spec_l6Columns tables ahead s) (fun r => K (.tup [.data TCS r.1, dB r.2]) []) := ok_of_eq (F.spec_l6Columns_eq tables ahead s h_tables h_ahead h_s) (hK _ rfl)
 refine ⟨rfl, ann80, (L80 tables ahead s), (.tup [TCS, Ty.bool]), (loopsN2 (i0 := 1) (i1 := 3) (by kernel_rfl) ?_ ?_), ?_⟩
 ·rintro _ _ K ⟨hc1, i1, v1, rfl, hl1, rfl, hv1, h⟩
  exact cast (lvc80_0 _ _ _ _ _ _ _).symm (loopE_step (t := TInt) hl1 h (fun ht1 h => ⟨hl1, ⟨ht1, (oC h (fun _ h => h) fun b_22 h => ⟨hl1, ⟨ht1, ⟨(inR_lo (bnf b_22)), ⟨(inR_hi (bnf b_22)), (oG h fun _ h => (loopE_next (t := TInt) (fun _ hm => ⟨hc1, hm⟩) _ rfl hl1 ht1 (sm_len h_s.2.2.2.2.2.1) trivial h))⟩⟩⟩⟩)⟩⟩) fun h => (h trivial))
 ·rintro _ _ K ⟨hc3, v3, rfl, hv3, h⟩
  exact cast (lvc80_1 _ _ _ _ _ _).symm (loopW_step h (fun m1 hm3 h => (oC h (fun _ h => (oG h fun g1 h => (oG h fun g2 h => (oG h fun g3 h => (oG h fun g4 h => ⟨g1, (oG h fun g5 h => (oC h (fun _ h => h) fun _ h => ⟨g1, ⟨g2, (oC h (fun _ h => ⟨g3, ⟨g4, ⟨g1, ⟨g5, ⟨g1, ⟨g2, (have h := ok_let h _ rfl; (loopW_next (fun _ hm => ⟨hc3, hm⟩) hm3 _ rfl trivial h))⟩⟩⟩⟩⟩⟩) fun _ h => ⟨g1, ⟨g2, (loopW_next (fun _ hm => ⟨hc3, hm⟩) hm3 _ rfl trivial h)⟩⟩)⟩⟩))⟩))))) fun _ h => ((ok_ret h :) trivial))))
 ·rw [vc80]
  exact ⟨h_s, (oC h (fun _ h => h) fun _ h => (oC h (fun _ h => (oC h (fun _ h => h) fun b_3 h => ⟨(inR_lo (bnf b_3)), ⟨(inR_hi (bnf b_3)), ⟨(sm_lim2 (sm_nil TColumn) (sm_nth h_tables s.2.2.2.1).1 rfl), h⟩⟩⟩)) fun _ h => (oC h (fun b_4 h => (oC h (fun _ h => h) fun b_5 h => ⟨(inR_lo (bnf (bgt b_4))), ⟨(inR_hi (bnf (bgt b_4))), ⟨(sm_lim2 (sm_nil TColumn) (sm_nth h_ahead s.2.1) rfl), (oC h (fun _ h => (oG h fun _ h => ⟨h_s.2.2.2.2.1, h⟩)) fun _ h => (oC h (fun _ h => (loopE_start (t := TInt) (fun m hm => ⟨trivial, hm⟩) _ rfl trivial (ok_then h (fun v1 h hv1 => h) (fun q1 h => h)))) fun _ h => (oC h (fun _ h => ⟨(inR_lo (bnf b_5)), ⟨(inR_hi (bnf b_5)), (oG h fun _ h => (oC h (fun _ h => (oG h fun _ h => ⟨h_s.2.2.2.2.1, h⟩)) fun _ h => h))⟩⟩) fun _ h => (oC h (fun _ h => ⟨(inR_lo (bnf b_5)), ⟨(inR_hi (bnf b_5)), (oC h (fun _ h => h) fun _ h => (loopW_start (fun m hm => ⟨trivial, hm⟩) _ rfl trivial (ok_then h (fun e3 h hv3 => h) (fun q3 h => h))))⟩⟩) fun _ h => (oC h (fun _ h => h) fun _ h => h)))))⟩⟩⟩)) fun _ h => h)))⟩
def c81 : Con := ⟨[.lent TInt, .dat TStep], fun args hp K => g2 (pB TInt) (pD TStep) (fun ahead s => (Sm (Ty.sl TInt) ahead) ∧ (Sm TStep s) ∧ (M.stepIn (ahead.length : Int) s) ∧ K (dI (M.stepMost ahead s)) []) args hp, .plain⟩
@[reducible] def C81 : Ctx := cx [] 40 [] 0 false
def ann81 := an [[.fixRow 3 TStep, kp 9], [kp 73], [kp 201], [kp 16], [kp 585], [kp 16], [kp 4194313], [kp 16], [kp 16]] []
theorem vc81 (ahead : (List Int)) (s : TStep.D) (K : KA) : vcT C81 noLoops ann81 f81 [.brw TInt ahead, .data TStep s] [] (.dat TInt) K =
 (cond (decide (s.1 = Z1)) (K (dI Z6) []) (cond (decide (s.1 = Z4)) ((0 ≤ s.2.1) ∧ (s.2.1 < (ahead.length : Int)) ∧ (0 ≤ s.2.2.1) ∧ (s.2.2.1 < (ahead.length : Int)) ∧ K (dI (wrap64 ((nI ahead s.2.1) * (nI ahead s.2.2.1)))) []) (cond (decide (s.1 = Z5)) ((0 ≤ s.2.1) ∧ (s.2.1 < (ahead.length : Int)) ∧ (0 ≤ s.2.2.1) ∧ (s.2.2.1 < (ahead.length : Int)) ∧ K (dI (wrap64 ((nI ahead s.2.1) + (nI ahead s.2.2.1)))) []) ((0 ≤ s.2.1) ∧ (s.2.1 < (ahead.length : Int)) ∧ K (dI (nI ahead s.2.1)) [])))) := by kernel_rfl
theorem con81_ok : Con1 P 81 c81 := conR C81 func81 kN fun args hp K h0 => by
 obtain ⟨ahead, s, rfl, rfl, h_ahead, h_s, p0, hK⟩ := g2e h0
 have h : ok (F.spec_l6Made ahead s) (fun r => K (dI r) []) := ok_of_eq (F.spec_l6Made_eq ahead s h_ahead h_s p0) hK
 refine ⟨rfl, ann81, noLoops, (.dat TInt), (no_loops (by kernel_rfl)), ?_⟩
 ·rw [vc81]
  exact (oC h (fun _ h => h) fun _ h => (oC h (fun _ h => (oG h fun _ h => (oG h fun _ h => (oG h fun _ h => (oG h fun _ h => h))))) fun _ h => (oC h (fun _ h => (oG h fun _ h => (oG h fun _ h => (oG h fun _ h => (oG h fun _ h => h))))) fun _ h => (oG h fun _ h => (oG h fun _ h => h)))))
def c50 : Con := ⟨[.dat TTb, .dat TSS], fun args hp K => g2 (pD TTb) (pD TSS) (fun tables plan => (Sm TTb tables) ∧ (Sm TSS plan) ∧ (∀ r : (List LC) × Bool, r = (M.planAll tables plan) → K (.tup [.data (Ty.sl TCS) r.1, dB r.2]) [])) args hp, .plain⟩
@[reducible] def C50 : Ctx := cx [(80, c80), (81, c81)] 52 [] 0 false
def ann50 := an [[kp 3], [kp 67], [kp 195], [kp 451], [kp 65987], [kp 451], [kp 1987], [kp 1073742787], [.freeze 31, kp 48], [kp 451], [kp 451], [kp 562949953421763], [.freeze 50, kp 48], [kp 48]] [[kp 64]]
@[reducible] def s50_0 (tables : LTb) (plan : LS) (i0 : Int) (v0 : (List LC) × (List Int)) : St := ⟨[(0, .data TTb tables), (1, .data TSS plan), (6, .own 11 none), (7, .own 12 none), (8, dI i0)], [(11, .arr false TCS v0.1), (12, .arr false TInt v0.2)]⟩
@[reducible] def LP50_0 (tables : LTb) (plan : LS) (m : Nat) (st_ : St) (K : KX) : Prop := True ∧ LoopI (s50_0 tables plan) Z0 (plan.length : Int) (F.spec_l6All_l0 tables plan) (fun v0 : (List LC) × (List Int) => True) (outD (fun v0 : (List LC) × (List Int) => True → K (.exit 0) (⟨[(6, .own 11 none)], [(11, .arr false TCS v0.1)]⟩ : St)) (fun q0 : Unit => K .ret (⟨[(4, .data (Ty.sl TCS) []), (5, dB false)], []⟩ : St))) m st_
def L50 (tables : LTb) (plan : LS) : Loops := lp1 0 (LP50_0 tables plan)
theorem vc50 (tables : LTb) (plan : LS) (K : KA) : vcT C50 (L50 tables plan) ann50 f50 [.data TTb tables, .data TSS plan] [] (.tup [(Ty.sl TCS), Ty.bool]) K =
 (∃ m_, True ∧ LoopI (s50_0 tables plan) Z0 (plan.length : Int) (F.spec_l6All_l0 tables plan) (fun v0 : (List LC) × (List Int) => True) (outD (fun v0 : (List LC) × (List Int) => True → K (.tup [.data (Ty.sl TCS) v0.1, dB true]) []) (fun q0 : Unit => K (.tup [.data (Ty.sl TCS) [], dB false]) [])) m_ (s50_0 tables plan Z0 ([], []))) := by kernel_rfl
theorem lvc50_0 (tables : LTb) (plan : LS)  (i0 : Int) (v0 : (List LC) × (List Int)) (m : Nat) (K : KX) : lvT C50 (L50 tables plan) ann50 f50 0 0 (s50_0 tables plan i0 v0) m K =
 (cond (decide (i0 < (plan.length : Int))) ((0 ≤ i0) ∧ (i0 < (plan.length : Int)) ∧ (Sm TTb tables) ∧ (Sm (Ty.sl TCS) v0.1) ∧ (Sm TStep (nS plan i0)) ∧ (∀ r1 : LC × Bool, r1 = (M.l6Columns tables v0.1 (nS plan i0)) → cond (!r1.2) (K .ret (⟨[(4, .data (Ty.sl TCS) []), (5, dB false)], []⟩ : St)) (((v0.1.length + [r1.1].length) * 24 ≤ lim) ∧ (0 ≤ i0) ∧ (i0 < (plan.length : Int)) ∧ (Sm (Ty.sl TInt) v0.2) ∧ (Sm TStep (nS plan i0)) ∧ (M.stepIn (v0.2.length : Int) (nS plan i0)) ∧ ((v0.2.length + [(M.stepMost v0.2 (nS plan i0))].length) * 8 ≤ lim) ∧ (0 ≤ i0) ∧ (i0 < ((v0.2 ++ [(M.stepMost v0.2 (nS plan i0))]).length : Int)) ∧ cond (decide ((300 : Int) < (nI (v0.2 ++ [(M.stepMost v0.2 (nS plan i0))]) i0))) (K .ret (⟨[(4, .data (Ty.sl TCS) []), (5, dB false)], []⟩ : St)) (nxT (LP50_0 tables plan) m K (s50_0 tables plan (wrap64 (i0 + Z1)) ((v0.1 ++ [r1.1]), (v0.2 ++ [(M.stepMost v0.2 (nS plan i0))]))))))) (K (.exit 0) (⟨[(6, .own 11 none)], [(11, .arr false TCS v0.1)]⟩ : St))) := by kernel_rfl
theorem con50_ok : Con1 P 50 c50 := conR C50 func50 (kC con80_ok (kC con81_ok kN)) fun args hp K h0 => by
 obtain ⟨tables, plan, rfl, rfl, h_tables, h_plan, hK⟩ := g2e h0
 have h : ok (F.spec_l6All tables plan) (fun r => K (.tup [.data (Ty.sl TCS) r.1, dB r.2]) []) := ok_of_eq (F.spec_l6All_eq tables plan h_tables h_plan) (hK _ rfl)
 refine ⟨rfl, ann50, (L50 tables plan), (.tup [(Ty.sl TCS), Ty.bool]), (loopsN1 (i0 := 0) (by kernel_rfl) ?_), ?_⟩
 ·rintro _ _ K ⟨hc0, i0, v0, rfl, hl0, rfl, hv0, h⟩
  exact cast (lvc50_0 _ _ _ _ _ _).symm (loopI_step h (fun ht0 h => ⟨hl0, ⟨ht0, ⟨h_tables, (oG h fun _ h => ⟨(sm_nth h_plan i0), (oL h fun _ _ h => (oC h (fun _ h => h) fun _ h => (oG h fun _ h => ⟨hl0, ⟨ht0, (oG h fun _ h => ⟨(sm_nth h_plan i0), (oG h fun _ h => (oG h fun _ h => ⟨hl0, (oG h fun _ h => (oC h (fun _ h => h) fun _ h => (loopI_next (fun _ hm => ⟨hc0, hm⟩) _ rfl hl0 low0 ht0 (sm_len h_plan) trivial h)))⟩))⟩)⟩⟩)))⟩)⟩⟩⟩) fun h => (h trivial))
 ·rw [vc50]
  exact (loopI_start (fun m hm => ⟨trivial, hm⟩) Z0 _ rfl (Int.natCast_nonneg 0) trivial (ok_then h (fun v0 h hv0 => h) (fun q0 h => h)))
def c159 : Con := ⟨[.dat TVS], fun args hp K => g1 (pD TVS) (fun row => (Sm TVS row) ∧ K (dB (M.rowOk row)) []) args hp, .plain⟩
@[reducible] def C159 : Ctx := cx [(177, c177)] 19 [] 0 false
def ann159 := an [[kp 1], [kp 9], [kp 137], [kp 9], [kp 32777], [kp 4], [kp 4]] [[kp 1]]
@[reducible] def s159_0 (row : LV) (i0 : Int) (v0 : Unit) : St := ⟨[(0, .data TVS row), (3, dI i0)], []⟩
@[reducible] def LP159_0 (row : LV) (m : Nat) (st_ : St) (K : KX) : Prop := True ∧ LoopE (t := TValue) (s159_0 row) row (F.spec_RowOk_l0 row) (fun v0 : Unit => True) (outD (fun v0 : Unit => True → K (.exit 0) (⟨[(0, .data TVS row)], []⟩ : St)) (fun q0 : Unit => K .ret (⟨[(2, dB false)], []⟩ : St))) m st_
def L159 (row : LV) : Loops := lp1 0 (LP159_0 row)
theorem vc159 (row : LV) (K : KA) : vcT C159 (L159 row) ann159 f159 [.data TVS row] [] (.dat Ty.bool) K =
 (∃ m_, True ∧ LoopE (t := TValue) (s159_0 row) row (F.spec_RowOk_l0 row) (fun v0 : Unit => True) (outD (fun v0 : Unit => True → K (dB (decide ((row.length : Int) ≤ Z4))) []) (fun q0 : Unit => K (dB false) [])) m_ (s159_0 row Z0 ())) := by kernel_rfl
theorem lvc159_0 (row : LV)  (i0 : Int) (v0 : Unit) (m : Nat) (K : KX) : lvT C159 (L159 row) ann159 f159 0 0 (s159_0 row i0 v0) m K =
 (cond (decide (i0 < (row.length : Int))) ((0 ≤ i0) ∧ (i0 < (row.length : Int)) ∧ (Sm TValue (nV row i0)) ∧ cond (!(M.valueOk (nV row i0))) (K .ret (⟨[(2, dB false)], []⟩ : St)) (nxT (LP159_0 row) m K (s159_0 row (wrap64 (i0 + Z1)) ()))) (K (.exit 0) (⟨[(0, .data TVS row)], []⟩ : St))) := by kernel_rfl
theorem con159_ok : Con1 P 159 c159 := conR C159 func159 (kC con177_ok kN) fun args hp K h0 => by
 obtain ⟨row, rfl, rfl, h_row, hK⟩ := g1e h0
 have h : ok (F.spec_RowOk row) (fun r => K (dB r) []) := ok_of_eq (F.spec_RowOk_eq row h_row) hK
 refine ⟨rfl, ann159, (L159 row), (.dat Ty.bool), (loopsN1 (i0 := 0) (by kernel_rfl) ?_), ?_⟩
 ·rintro _ _ K ⟨hc0, i0, v0, rfl, hl0, rfl, hv0, h⟩
  exact cast (lvc159_0 _ _ _ _ _).symm (loopE_step (t := TValue) hl0 h (fun ht0 h => ⟨hl0, ⟨ht0, ⟨(sm_nth h_row i0), (oC h (fun _ h => h) fun _ h => (loopE_next (t := TValue) (fun _ hm => ⟨hc0, hm⟩) _ rfl hl0 ht0 (sm_len h_row) trivial h))⟩⟩⟩) fun h => (h trivial))
 ·rw [vc159]
  exact (loopE_start (t := TValue) (fun m hm => ⟨trivial, hm⟩) _ rfl trivial (ok_then h (fun v0 h hv0 => h) (fun q0 h => h)))
def c130 : Con := ⟨[.dat TCS, .dat TVS], fun args hp K => g2 (pD TCS) (pD TVS) (fun columns row => (Sm TCS columns) ∧ (Sm TVS row) ∧ K (dB (M.rowFits columns row)) []) args hp, .plain⟩
@[reducible] def C130 : Ctx := cx [(131, c131), (159, c159)] 54 [] 0 false
def ann130 := an [[kp 3], [kp 1048579], [kp 16], [kp 35], [kp 16777251], [kp 35], [kp 9007199254741027], [kp 16], [kp 16]] [[kp 0]]
@[reducible] def s130_0 (columns : LC) (row : LV) (i0 : Int) (v0 : Unit) : St := ⟨[(0, .data TCS columns), (1, .data TVS row), (5, dI i0)], []⟩
@[reducible] def LP130_0 (columns : LC) (row : LV) (m : Nat) (st_ : St) (K : KX) : Prop := True ∧ LoopI (s130_0 columns row) Z0 (row.length : Int) (F.spec_RowFits_l0 columns row) (fun v0 : Unit => True) (outD (fun v0 : Unit => True → K (.exit 0) (⟨[], []⟩ : St)) (fun q0 : Unit => K .ret (⟨[(4, dB false)], []⟩ : St))) m st_
def L130 (columns : LC) (row : LV) : Loops := lp1 0 (LP130_0 columns row)
theorem vc130 (columns : LC) (row : LV) (K : KA) : vcT C130 (L130 columns row) ann130 f130 [.data TCS columns, .data TVS row] [] (.dat Ty.bool) K =
 ((Sm TCS columns) ∧ cond ((!(M.columnsOk columns)) == false) ((Sm TVS row) ∧ cond ((!(M.rowOk row)) == false) (cond (!decide ((row.length : Int) = (columns.length : Int))) (K (dB false) []) (∃ m_, True ∧ LoopI (s130_0 columns row) Z0 (row.length : Int) (F.spec_RowFits_l0 columns row) (fun v0 : Unit => True) (outD (fun v0 : Unit => True → K (dB true) []) (fun q0 : Unit => K (dB false) [])) m_ (s130_0 columns row Z0 ()))) (K (dB false) [])) (K (dB false) [])) := by kernel_rfl
theorem lvc130_0 (columns : LC) (row : LV)  (i0 : Int) (v0 : Unit) (m : Nat) (K : KX) : lvT C130 (L130 columns row) ann130 f130 0 0 (s130_0 columns row i0 v0) m K =
 (cond (decide (i0 < (row.length : Int))) ((0 ≤ i0) ∧ (i0 < (row.length : Int)) ∧ (0 ≤ i0) ∧ (i0 < (columns.length : Int)) ∧ cond ((!decide ((nV row i0).1 = (nC columns i0).1)) == true) ((0 ≤ i0) ∧ (i0 < (row.length : Int)) ∧ cond ((!decide ((nV row i0).1 = Z0)) == false) ((0 ≤ i0) ∧ (i0 < (columns.length : Int)) ∧ cond (!(nC columns i0).2.1) (K .ret (⟨[(4, dB false)], []⟩ : St)) (nxT (LP130_0 columns row) m K (s130_0 columns row (wrap64 (i0 + Z1)) ()))) (K .ret (⟨[(4, dB false)], []⟩ : St))) (nxT (LP130_0 columns row) m K (s130_0 columns row (wrap64 (i0 + Z1)) ()))) (K (.exit 0) (⟨[], []⟩ : St))) := by kernel_rfl
theorem con130_ok : Con1 P 130 c130 := conR C130 func130 (kC con131_ok (kC con159_ok kN)) fun args hp K h0 => by
 obtain ⟨columns, row, rfl, rfl, h_columns, h_row, hK⟩ := g2e h0
 have h : ok (F.spec_RowFits columns row) (fun r => K (dB r) []) := ok_of_eq (F.spec_RowFits_eq columns row h_columns h_row) hK
 refine ⟨rfl, ann130, (L130 columns row), (.dat Ty.bool), (loopsN1 (i0 := 0) (by kernel_rfl) ?_), ?_⟩
 ·rintro _ _ K ⟨hc0, i0, v0, rfl, hl0, rfl, hv0, h⟩
  exact cast (lvc130_0 _ _ _ _ _ _).symm (loopI_step h (fun ht0 h => ⟨hl0, ⟨ht0, ⟨hl0, (oG h fun g1 h => (oC h (fun _ h => ⟨hl0, ⟨ht0, (oC h (fun _ h => ⟨hl0, ⟨g1, (oC h (fun _ h => h) fun _ h => (loopI_next (fun _ hm => ⟨hc0, hm⟩) _ rfl hl0 low0 ht0 (sm_len h_row) trivial h))⟩⟩) fun _ h => h)⟩⟩) fun _ h => (loopI_next (fun _ hm => ⟨hc0, hm⟩) _ rfl hl0 low0 ht0 (sm_len h_row) trivial h)))⟩⟩⟩) fun h => (h trivial))
 ·rw [vc130]
  exact ⟨h_columns, (oC h (fun _ h => ⟨h_row, (oC h (fun _ h => (oC h (fun _ h => h) fun _ h => (loopI_start (fun m hm => ⟨trivial, hm⟩) Z0 _ rfl (Int.natCast_nonneg 0) trivial (ok_then h (fun v0 h hv0 => h) (fun q0 h => h))))) fun _ h => h)⟩) fun _ h => h)⟩
def c92 : Con := ⟨[.dat TCS, .dat (Ty.sl TVS)], fun args hp K => g2 (pD TCS) (pD (Ty.sl TVS)) (fun columns rows => (Sm TCS columns) ∧ (Sm (Ty.sl TVS) rows) ∧ K (dB (M.rowsOk columns rows)) []) args hp, .plain⟩
@[reducible] def C92 : Ctx := cx [(130, c130), (131, c131)] 21 [] 0 false
def ann92 := an [[kp 3], [kp 35], [kp 547], [kp 35], [kp 262179], [kp 16], [kp 16]] [[kp 1]]
@[reducible] def s92_0 (columns : LC) (rows : (List LV)) (i0 : Int) (v0 : Unit) : St := ⟨[(0, .data TCS columns), (1, .data (Ty.sl TVS) rows), (5, dI i0)], []⟩
@[reducible] def LP92_0 (columns : LC) (rows : (List LV)) (m : Nat) (st_ : St) (K : KX) : Prop := True ∧ LoopE (t := TVS) (s92_0 columns rows) rows (F.spec_RowsOk_l0 columns rows) (fun v0 : Unit => True) (outD (fun v0 : Unit => True → K (.exit 0) (⟨[(0, .data TCS columns)], []⟩ : St)) (fun q0 : Unit => K .ret (⟨[(4, dB false)], []⟩ : St))) m st_
def L92 (columns : LC) (rows : (List LV)) : Loops := lp1 0 (LP92_0 columns rows)
theorem vc92 (columns : LC) (rows : (List LV)) (K : KA) : vcT C92 (L92 columns rows) ann92 f92 [.data TCS columns, .data (Ty.sl TVS) rows] [] (.dat Ty.bool) K =
 (∃ m_, True ∧ LoopE (t := TVS) (s92_0 columns rows) rows (F.spec_RowsOk_l0 columns rows) (fun v0 : Unit => True) (outD (fun v0 : Unit => True → (Sm TCS columns) ∧ K (dB (M.columnsOk columns)) []) (fun q0 : Unit => K (dB false) [])) m_ (s92_0 columns rows Z0 ())) := by kernel_rfl
theorem lvc92_0 (columns : LC) (rows : (List LV))  (i0 : Int) (v0 : Unit) (m : Nat) (K : KX) : lvT C92 (L92 columns rows) ann92 f92 0 0 (s92_0 columns rows i0 v0) m K =
 (cond (decide (i0 < (rows.length : Int))) ((0 ≤ i0) ∧ (i0 < (rows.length : Int)) ∧ (Sm TCS columns) ∧ (Sm TVS (nth (t := TVS) rows i0)) ∧ cond (!(M.rowFits columns (nth (t := TVS) rows i0))) (K .ret (⟨[(4, dB false)], []⟩ : St)) (nxT (LP92_0 columns rows) m K (s92_0 columns rows (wrap64 (i0 + Z1)) ()))) (K (.exit 0) (⟨[(0, .data TCS columns)], []⟩ : St))) := by kernel_rfl
theorem con92_ok : Con1 P 92 c92 := conR C92 func92 (kC con130_ok (kC con131_ok kN)) fun args hp K h0 => by
 obtain ⟨columns, rows, rfl, rfl, h_columns, h_rows, hK⟩ := g2e h0
 have h : ok (F.spec_RowsOk columns rows) (fun r => K (dB r) []) := ok_of_eq (F.spec_RowsOk_eq columns rows h_columns h_rows) hK
 refine ⟨rfl, ann92, (L92 columns rows), (.dat Ty.bool), (loopsN1 (i0 := 0) (by kernel_rfl) ?_), ?_⟩
 ·rintro _ _ K ⟨hc0, i0, v0, rfl, hl0, rfl, hv0, h⟩
  exact cast (lvc92_0 _ _ _ _ _ _).symm (loopE_step (t := TVS) hl0 h (fun ht0 h => ⟨hl0, ⟨ht0, ⟨h_columns, ⟨(sm_nth h_rows i0), (oC h (fun _ h => h) fun _ h => (loopE_next (t := TVS) (fun _ hm => ⟨hc0, hm⟩) _ rfl hl0 ht0 (sm_len h_rows) trivial h))⟩⟩⟩⟩) fun h => (h trivial))
 ·rw [vc92]
  exact (loopE_start (t := TVS) (fun m hm => ⟨trivial, hm⟩) _ rfl trivial (ok_then h (fun v0 h hv0 => ⟨h_columns, h⟩) (fun q0 h => h)))
def c64 : Con := ⟨[.dat TTb], fun args hp K => g1 (pD TTb) (fun tables => (Sm TTb tables) ∧ K (dB (M.tablesOk tables)) []) args hp, .plain⟩
@[reducible] def C64 : Ctx := cx [(92, c92)] 34 [] 0 false
def ann64 := an [[kp 1], [kp 9], [kp 137], [kp 9], [kp 1073741833], [kp 4], [kp 4]] [[kp 1]]
@[reducible] def s64_0 (tables : LTb) (i0 : Int) (v0 : Unit) : St := ⟨[(0, .data TTb tables), (3, dI i0)], []⟩
@[reducible] def LP64_0 (tables : LTb) (m : Nat) (st_ : St) (K : KX) : Prop := True ∧ LoopE (t := TTable) (s64_0 tables) tables (F.spec_TablesOk_l0 tables) (fun v0 : Unit => True) (outD (fun v0 : Unit => True → K (.exit 0) (⟨[(0, .data TTb tables)], []⟩ : St)) (fun q0 : Unit => K .ret (⟨[(2, dB false)], []⟩ : St))) m st_
def L64 (tables : LTb) : Loops := lp1 0 (LP64_0 tables)
theorem vc64 (tables : LTb) (K : KA) : vcT C64 (L64 tables) ann64 f64 [.data TTb tables] [] (.dat Ty.bool) K =
 (∃ m_, True ∧ LoopE (t := TTable) (s64_0 tables) tables (F.spec_TablesOk_l0 tables) (fun v0 : Unit => True) (outD (fun v0 : Unit => True → K (dB (decide ((tables.length : Int) ≤ Z3))) []) (fun q0 : Unit => K (dB false) [])) m_ (s64_0 tables Z0 ())) := by kernel_rfl
theorem lvc64_0 (tables : LTb)  (i0 : Int) (v0 : Unit) (m : Nat) (K : KX) : lvT C64 (L64 tables) ann64 f64 0 0 (s64_0 tables i0 v0) m K =
 (cond (decide (i0 < (tables.length : Int))) ((0 ≤ i0) ∧ (i0 < (tables.length : Int)) ∧ cond ((decide (Z6 < ((nT tables i0).2.1.length : Int))) == false) ((0 ≤ i0) ∧ (i0 < (tables.length : Int)) ∧ (0 ≤ i0) ∧ (i0 < (tables.length : Int)) ∧ (Sm TCS (nT tables i0).1) ∧ (Sm (Ty.sl TVS) (nT tables i0).2.1) ∧ cond (!(M.rowsOk (nT tables i0).1 (nT tables i0).2.1)) (K .ret (⟨[(2, dB false)], []⟩ : St)) (nxT (LP64_0 tables) m K (s64_0 tables (wrap64 (i0 + Z1)) ()))) (K .ret (⟨[(2, dB false)], []⟩ : St))) (K (.exit 0) (⟨[(0, .data TTb tables)], []⟩ : St))) := by kernel_rfl
theorem con64_ok : Con1 P 64 c64 := conR C64 func64 (kC con92_ok kN) fun args hp K h0 => by
 obtain ⟨tables, rfl, rfl, h_tables, hK⟩ := g1e h0
 have h : ok (F.spec_TablesOk tables) (fun r => K (dB r) []) := ok_of_eq (F.spec_TablesOk_eq tables h_tables) hK
 refine ⟨rfl, ann64, (L64 tables), (.dat Ty.bool), (loopsN1 (i0 := 0) (by kernel_rfl) ?_), ?_⟩
 ·rintro _ _ K ⟨hc0, i0, v0, rfl, hl0, rfl, hv0, h⟩
  exact cast (lvc64_0 _ _ _ _ _).symm (loopE_step (t := TTable) hl0 h (fun ht0 h => ⟨hl0, ⟨ht0, (oC h (fun _ h => ⟨hl0, ⟨ht0, ⟨hl0, ⟨ht0, ⟨(sm_nth h_tables i0).1, ⟨(sm_nth h_tables i0).2.1, (oC h (fun _ h => h) fun _ h => (loopE_next (t := TTable) (fun _ hm => ⟨hc0, hm⟩) _ rfl hl0 ht0 (sm_len h_tables) trivial h))⟩⟩⟩⟩⟩⟩) fun _ h => h)⟩⟩) fun h => (h trivial))
 ·rw [vc64]
  exact (loopE_start (t := TTable) (fun m hm => ⟨trivial, hm⟩) _ rfl trivial (ok_then h (fun v0 h hv0 => h) (fun q0 h => h)))
def c32 : Con := ⟨[.dat TTb, .dat TSS], fun args hp K => g2 (pD TTb) (pD TSS) (fun tables plan => (Sm TTb tables) ∧ (Sm TSS plan) ∧ K (dB (M.planOk tables plan)) []) args hp, .plain⟩
@[reducible] def C32 : Ctx := cx [(49, c49), (50, c50), (64, c64)] 23 [] 0 false
def ann32 := an [[kp 3], [kp 67], [kp 16]] []
theorem vc32 (tables : LTb) (plan : LS) (K : KA) : vcT C32 noLoops ann32 f32 [.data TTb tables, .data TSS plan] [] (.dat Ty.bool) K =
 ((Sm TTb tables) ∧ (Sm TSS plan) ∧ (∀ r1 : (List LC) × Bool, r1 = (M.planAll tables plan) → cond (r1.2 == true) ((Sm TTb tables) ∧ cond ((M.tablesOk tables) == true) (K (dB (M.inR (plan.length : Int) Z1 Z6)) []) (K (dB false) [])) (K (dB false) []))) := by kernel_rfl
theorem con32_ok : Con1 P 32 c32 := conR C32 func32 (kC con49_ok (kC con50_ok (kC con64_ok kN))) fun args hp K h0 => by
 obtain ⟨tables, plan, rfl, rfl, h_tables, h_plan, hK⟩ := g2e h0
 have h : ok (F.spec_PlanOk tables plan) (fun r => K (dB r) []) := ok_of_eq (F.spec_PlanOk_eq tables plan h_tables h_plan) hK
 refine ⟨rfl, ann32, noLoops, (.dat Ty.bool), (no_loops (by kernel_rfl)), ?_⟩
 ·rw [vc32]
  exact ⟨h_tables, ⟨h_plan, (oL h fun _ _ h => (oC h (fun _ h => ⟨h_tables, (oC h (fun _ h => h) fun _ h => h)⟩) fun _ h => h))⟩⟩
def c82 : Con := ⟨[.dat TPS, .dat TPS], fun args hp K => g2 (pD TPS) (pD TPS) (fun a b => (Sm TPS a) ∧ (Sm TPS b) ∧ (∀ r : LPt, r = (M.bothE a b) → K (.own 0 none) [(0, .arr false TPart r)])) args hp, .plain⟩
@[reducible] def C82 : Ctx := cx [] 15 [] 0 false
def ann82 := an [[kp 3], [kp 32], [kp 16]] []
theorem vc82 (a : LPt) (b : LPt) (K : KA) : vcT C82 noLoops ann82 f82 [.data TPS a, .data TPS b] [] .raw K =
 (((([] : List TPart.D).length + a.length) * 48 ≤ lim) ∧ ((([] ++ a).length + b.length) * 48 ≤ lim) ∧ (((([] ++ a) ++ b).length + ([(Z5, (Z0, ((Z0, (Z0, ((⟨#[]⟩ : ByteArray), ()))), ())))] : List TPart.D).length) * 48 ≤ lim) ∧ K (.own 0 none) [(0, .arr false TPart ((([] ++ a) ++ b) ++ [(Z5, (Z0, ((Z0, (Z0, ((⟨#[]⟩ : ByteArray), ()))), ())))]))]) := by kernel_rfl
theorem con82_ok : Con1 P 82 c82 := conR C82 func82 kN fun args hp K h0 => by
 obtain ⟨a, b, rfl, rfl, h_a, h_b, hK⟩ := g2e h0
 have h : ok (F.spec_l7Both a b) (fun r => K (.own 0 none) [(0, .arr false TPart r)]) := ok_of_eq (F.spec_l7Both_eq a b h_a h_b) (hK _ rfl)
 refine ⟨rfl, ann82, noLoops, .raw, (no_loops (by kernel_rfl)), ?_⟩
 ·rw [vc82]
  exact ⟨(sm_lim2 (sm_nil TPart) h_a rfl), (oG h fun _ h => (oG h fun _ h => h))⟩
def c83 : Con := ⟨[.dat TCS, .dat TPS, .dat (Ty.sl TInt)], fun args hp K => g3 (pD TCS) (pD TPS) (pD (Ty.sl TInt)) (fun columns e to => (Sm TCS columns) ∧ (Sm TPS e) ∧ (Sm (Ty.sl TInt) to) ∧ (∀ r : LPt, r = (M.exprMoved columns e to) → K (.own 0 none) [(0, .arr false TPart r)])) args hp, .plain⟩
@[reducible] def C83 : Ctx := cx [(49, c49), (124, c124)] 61 [] 0 false
def ann83 := an [[kp 7], [kp 135], [kp 4194438], [kp 64], [kp 390], [kp 134218118], [kp 390], [kp 34359738758], [kp 64], [kp 646], [kp 1099511628422], [kp 646], [kp 1670], [kp 562949953422982], [kp 1670], [kp 646], [kp 64]] [[kp 134], [], [kp 128]]
@[reducible] def s83_0 (columns : LC) (e : LPt) (to : (List Int)) (i0 : Int) (v0 : Unit) : St := ⟨[(1, .data TPS e), (2, .data (Ty.sl TInt) to), (7, .own 11 none), (8, dI i0)], [(11, .arr false TPart [])]⟩
@[reducible] def LP83_0 (columns : LC) (e : LPt) (to : (List Int)) (m : Nat) (st_ : St) (K : KX) : Prop := True ∧ LoopE (t := TInt) (s83_0 columns e to) to (F.spec_ExprMoved_l0 columns e to) (fun v0 : Unit => True) (outD (fun v0 : Unit => True → K (.exit 0) (⟨[(1, .data TPS e), (2, .data (Ty.sl TInt) to), (7, .own 11 none)], [(11, .arr false TPart [])]⟩ : St)) (fun q0 : Unit => K .ret (⟨[(6, .own 36 none)], [(36, .arr false TPart [])]⟩ : St))) m st_
@[reducible] def s83_2 (columns : LC) (e : LPt) (to : (List Int)) (i2 : Int) (v2 : LPt) : St := ⟨[(1, .data TPS e), (2, .data (Ty.sl TInt) to), (7, .own 11 none), (9, dI i2)], [(11, .arr false TPart v2)]⟩
@[reducible] def LP83_2 (columns : LC) (e : LPt) (to : (List Int)) (m : Nat) (st_ : St) (K : KX) : Prop := True ∧ LoopE (t := TPart) (s83_2 columns e to) e (F.spec_ExprMoved_l2 columns e to) (fun v2 : LPt => True) (outD (fun v2 : LPt => True → K (.exit 2) (⟨[(7, .own 11 none)], [(11, .arr false TPart v2)]⟩ : St)) (fun _ => False)) m st_
def L83 (columns : LC) (e : LPt) (to : (List Int)) : Loops := lp2 0 (LP83_0 columns e to) 2 (LP83_2 columns e to)
theorem vc83 (columns : LC) (e : LPt) (to : (List Int)) (K : KA) : vcT C83 (L83 columns e to) ann83 f83 [.data TCS columns, .data TPS e, .data (Ty.sl TInt) to] [] .raw K =
 ((Sm TCS columns) ∧ (Sm TPS e) ∧ cond ((decide ((M.exprKind columns e) < Z0)) == false) (cond (!decide ((to.length : Int) = (columns.length : Int))) (K (.own 0 none) [(0, .arr false TPart [])]) (∃ m_, True ∧ LoopE (t := TInt) (s83_0 columns e to) to (F.spec_ExprMoved_l0 columns e to) (fun v0 : Unit => True) (outD (fun v0 : Unit => True → (∃ m_, True ∧ LoopE (t := TPart) (s83_2 columns e to) e (F.spec_ExprMoved_l2 columns e to) (fun v2 : LPt => True) (outD (fun v2 : LPt => True → K (.own 0 none) [(0, .arr false TPart v2)]) (fun _ => False)) m_ (s83_2 columns e to Z0 []))) (fun q0 : Unit => K (.own 0 none) [(0, .arr false TPart [])])) m_ (s83_0 columns e to Z0 ()))) (K (.own 0 none) [(0, .arr false TPart [])])) := by kernel_rfl
theorem lvc83_0 (columns : LC) (e : LPt) (to : (List Int))  (i0 : Int) (v0 : Unit) (m : Nat) (K : KX) : lvT C83 (L83 columns e to) ann83 f83 0 0 (s83_0 columns e to i0 v0) m K =
 (cond (decide (i0 < (to.length : Int))) ((0 ≤ i0) ∧ (i0 < (to.length : Int)) ∧ cond (!(M.inR (nI to i0) Z0 Z3)) (K .ret (⟨[(6, .own 36 none)], [(36, .arr false TPart [])]⟩ : St)) (nxT (LP83_0 columns e to) m K (s83_0 columns e to (wrap64 (i0 + Z1)) ()))) (K (.exit 0) (⟨[(1, .data TPS e), (2, .data (Ty.sl TInt) to), (7, .own 11 none)], [(11, .arr false TPart [])]⟩ : St))) := by kernel_rfl
theorem lvc83_1 (columns : LC) (e : LPt) (to : (List Int))  (i2 : Int) (v2 : LPt) (m : Nat) (K : KX) : lvT C83 (L83 columns e to) ann83 f83 1 2 (s83_2 columns e to i2 v2) m K =
 (cond (decide (i2 < (e.length : Int))) ((0 ≤ i2) ∧ (i2 < (e.length : Int)) ∧ cond (decide ((nP e i2).1 = Z2)) ((0 ≤ (nP e i2).2.1) ∧ ((nP e i2).2.1 < (to.length : Int)) ∧ ((v2.length + [((nP e i2).1, ((nI to (nP e i2).2.1), (nP e i2).2.2))].length) * 48 ≤ lim) ∧ (nxT (LP83_2 columns e to) m K (s83_2 columns e to (wrap64 (i2 + Z1)) (v2 ++ [((nP e i2).1, ((nI to (nP e i2).2.1), (nP e i2).2.2))])))) (((v2.length + [(nP e i2)].length) * 48 ≤ lim) ∧ (nxT (LP83_2 columns e to) m K (s83_2 columns e to (wrap64 (i2 + Z1)) (v2 ++ [(nP e i2)]))))) (K (.exit 2) (⟨[(7, .own 11 none)], [(11, .arr false TPart v2)]⟩ : St))) := by kernel_rfl
theorem con83_ok : Con1 P 83 c83 := conR C83 func83 (kC con49_ok (kC con124_ok kN)) fun args hp K h0 => by
 obtain ⟨columns, e, to, rfl, rfl, h_columns, h_e, h_to, hK⟩ := g3e h0
 have h : ok (F.spec_ExprMoved columns e to) (fun r => K (.own 0 none) [(0, .arr false TPart r)]) := ok_of_eq (F.spec_ExprMoved_eq columns e to h_columns h_e h_to) (hK _ rfl)
 refine ⟨rfl, ann83, (L83 columns e to), .raw, (loopsN2 (i0 := 0) (i1 := 2) (by kernel_rfl) ?_ ?_), ?_⟩
 ·rintro _ _ K ⟨hc0, i0, v0, rfl, hl0, rfl, hv0, h⟩
  exact cast (lvc83_0 _ _ _ _ _ _ _).symm (loopE_step (t := TInt) hl0 h (fun ht0 h => ⟨hl0, ⟨ht0, (oC h (fun _ h => h) fun _ h => (loopE_next (t := TInt) (fun _ hm => ⟨hc0, hm⟩) _ rfl hl0 ht0 (sm_len h_to) trivial h))⟩⟩) fun h => (h trivial))
 ·rintro _ _ K ⟨hc2, i2, v2, rfl, hl2, rfl, hv2, h⟩
  exact cast (lvc83_1 _ _ _ _ _ _ _).symm (loopE_step (t := TPart) hl2 h (fun ht2 h => ⟨hl2, ⟨ht2, (oC h (fun _ h => (oG h fun _ h => (oG h fun _ h => (oG h fun _ h => (loopE_next (t := TPart) (fun _ hm => ⟨hc2, hm⟩) _ rfl hl2 ht2 (sm_len h_e) trivial h))))) fun _ h => (oG h fun _ h => (loopE_next (t := TPart) (fun _ hm => ⟨hc2, hm⟩) _ rfl hl2 ht2 (sm_len h_e) trivial h)))⟩⟩) fun h => (h trivial))
 ·rw [vc83]
  exact ⟨h_columns, ⟨h_e, (oC h (fun _ h => (oC h (fun _ h => h) fun _ h => (loopE_start (t := TInt) (fun m hm => ⟨trivial, hm⟩) _ rfl trivial (ok_then h (fun v0 h hv0 => (loopE_start (t := TPart) (fun m hm => ⟨trivial, hm⟩) _ rfl trivial (ok_then h (fun v2 h hv2 => h) (fun _ h => h.elim)))) (fun q0 h => h))))) fun _ h => h)⟩⟩
def c51 : Con := ⟨[.dat (Ty.sl TCS), .dat TSS, .dat TInt, .dat TInt], fun args hp K => g4 (pD (Ty.sl TCS)) (pD TSS) (pD TInt) (pD TInt) (fun columns plan at_ rule => (Sm (Ty.sl TCS) columns) ∧ (Sm TSS plan) ∧ (M.turnSafe plan at_) ∧ (M.turnCols columns plan at_) ∧ (∀ r : LS, r = (M.newSteps plan at_ rule) → K (.own 0 none) [(0, .arr false TStep r)])) args hp, .plain⟩
@[reducible] def C51 : Ctx := cx [(82, c82), (83, c83)] 210 [] 0 false
def ann51 := an [[kp 15], [.fixRow 9 TStep, kp 527], [kp 1049103], [kp 256], [.fixRow 10 TStep, kp 1549], [kp 3597], [kp 1073745421], [kp 256], [kp 1125899906846221], [kp 256], [kp 4722366482869645217293], [kp 256], [.keep [2, 3, 9, 10, 11, 103]], [kp 256], [.keep [2, 3, 9, 10, 124]], [kp 256], [.keep [3, 9, 10, 154]], [kp 5632], [kp 13824], [.keep [9, 10, 12, 13, 172]], [kp 13824], [kp 13824], [kp 256], [.keep [10, 192]], [kp 256], [kp 256]] [[], [kp 5120]]
@[reducible] def s51_1 (columns : (List LC)) (plan : LS) (at_ : Int) (rule : Int) (i1 : Int) (v1 : (List Int)) : St := ⟨[(9, .adr TStep (nS plan at_)), (10, .adr TStep (nS plan (nS plan at_).2.1)), (12, .own 167 none), (13, dI i1)], [(167, .arr false TInt v1)]⟩
@[reducible] def LP51_1 (columns : (List LC)) (plan : LS) (at_ : Int) (rule : Int) (m : Nat) (st_ : St) (K : KX) : Prop := True ∧ LoopE (t := TInt) (s51_1 columns plan at_ rule) (nS plan at_).2.2.2.2.2.1 (F.spec_l7New_l1 columns plan at_ rule) (fun v1 : (List Int) => True) (outD (fun v1 : (List Int) => True → K (.exit 1) (⟨[(10, .adr TStep (nS plan (nS plan at_).2.1)), (12, .own 167 none)], [(167, .arr false TInt v1)]⟩ : St)) (fun _ => False)) m st_
def L51 (columns : (List LC)) (plan : LS) (at_ : Int) (rule : Int) : Loops := lp1 1 (LP51_1 columns plan at_ rule)
@[reducible] def S51_0 (columns : (List LC)) (plan : LS) (at_ : Int) (rule : Int) (K : KA) : Prop := (Sm TCS (nth (t := TCS) columns (nS plan at_).2.1)) ∧ (Sm TPS (nS plan at_).2.2.2.2.1) ∧ (Sm (Ty.sl TInt) (nS plan (nS plan at_).2.1).2.2.2.2.2.1) ∧ (∀ r1 : LPt, r1 = (M.exprMoved (nth (t := TCS) columns (nS plan at_).2.1) (nS plan at_).2.2.2.2.1 (nS plan (nS plan at_).2.1).2.2.2.2.2.1) → ((([] : List TInt.D).length + (nS plan (nS plan at_).2.1).2.2.2.2.2.1.length) * 8 ≤ lim) ∧ K (.own 0 none) [(0, .arr false TStep [(Z2, ((nS plan (nS plan at_).2.1).2.1, (Z0, (Z0, (r1, ([], ())))))), (Z3, (at_, (Z0, (Z0, ([], (([] ++ (nS plan (nS plan at_).2.1).2.2.2.2.2.1), ()))))))])])
@[reducible] def S51_1 (columns : (List LC)) (plan : LS) (at_ : Int) (rule : Int) (K : KA) : Prop := ((([] : List TPart.D).length + (nS plan at_).2.2.2.2.1.length) * 48 ≤ lim) ∧ ((([] : List TPart.D).length + (nS plan at_).2.2.2.2.1.length) * 48 ≤ lim) ∧ K (.own 0 none) [(0, .arr false TStep [(Z2, ((nS plan (nS plan at_).2.1).2.1, (Z0, (Z0, (([] ++ (nS plan at_).2.2.2.2.1), ([], ())))))), (Z2, ((nS plan (nS plan at_).2.1).2.2.1, (Z0, (Z0, (([] ++ (nS plan at_).2.2.2.2.1), ([], ())))))), (Z5, (at_, (wrap64 (at_ + Z1), (Z0, ([], ([], ()))))))])]
@[reducible] def S51_2 (columns : (List LC)) (plan : LS) (at_ : Int) (rule : Int) (K : KA) : Prop := cond ((decide (rule = (7 : Int))) == true) (cond ((decide ((nS plan at_).1 = Z6)) == true) (cond (decide ((nS plan (nS plan at_).2.1).1 = Z6)) (K (.own 0 none) [(0, .arr false TStep [(Z6, ((nS plan (nS plan at_).2.1).2.1, (Z0, (Z0, ([], ([], ()))))))])]) (K (.own 0 none) [(0, .arr false TStep [])])) (K (.own 0 none) [(0, .arr false TStep [])])) (K (.own 0 none) [(0, .arr false TStep [])])
@[reducible] def S51_3 (columns : (List LC)) (plan : LS) (at_ : Int) (rule : Int) (K : KA) : Prop := cond ((decide (rule = Z6)) == true) (cond ((decide ((nS plan at_).1 = Z3)) == true) (cond (decide ((nS plan (nS plan at_).2.1).1 = Z3)) (∃ m_, True ∧ LoopE (t := TInt) (s51_1 columns plan at_ rule) (nS plan at_).2.2.2.2.2.1 (F.spec_l7New_l1 columns plan at_ rule) (fun v1 : (List Int) => True) (outD (fun v1 : (List Int) => True → K (.own 0 none) [(0, .arr false TStep [(Z3, ((nS plan (nS plan at_).2.1).2.1, (Z0, (Z0, ([], (v1, ()))))))])]) (fun _ => False)) m_ (s51_1 columns plan at_ rule Z0 [])) (S51_2 columns plan at_ rule K)) (S51_2 columns plan at_ rule K)) (S51_2 columns plan at_ rule K)
@[reducible] def S51_4 (columns : (List LC)) (plan : LS) (at_ : Int) (rule : Int) (K : KA) : Prop := cond ((decide (rule = Z5)) == true) (cond ((decide ((nS plan at_).1 = Z2)) == true) (cond (decide ((nS plan (nS plan at_).2.1).1 = Z5)) (((S51_1 columns plan at_ rule K) ∧ (S51_1 columns plan at_ rule K)) ∧ (S51_1 columns plan at_ rule K)) (S51_3 columns plan at_ rule K)) (S51_3 columns plan at_ rule K)) (S51_3 columns plan at_ rule K)
@[reducible] def S51_5 (columns : (List LC)) (plan : LS) (at_ : Int) (rule : Int) (K : KA) : Prop := cond ((decide (rule = Z4)) == true) (cond ((decide ((nS plan at_).1 = Z2)) == true) (cond (decide ((nS plan (nS plan at_).2.1).1 = Z6)) (((([] : List TPart.D).length + (nS plan at_).2.2.2.2.1.length) * 48 ≤ lim) ∧ K (.own 0 none) [(0, .arr false TStep [(Z2, ((nS plan (nS plan at_).2.1).2.1, (Z0, (Z0, (([] ++ (nS plan at_).2.2.2.2.1), ([], ())))))), (Z6, (at_, (Z0, (Z0, ([], ([], ()))))))])]) (S51_4 columns plan at_ rule K)) (S51_4 columns plan at_ rule K)) (S51_4 columns plan at_ rule K)
@[reducible] def S51_6 (columns : (List LC)) (plan : LS) (at_ : Int) (rule : Int) (K : KA) : Prop := cond ((decide (rule = Z3)) == true) (cond ((decide ((nS plan at_).1 = Z2)) == true) (cond (decide ((nS plan (nS plan at_).2.1).1 = Z3)) ((0 ≤ (nS plan at_).2.1) ∧ ((nS plan at_).2.1 < (columns.length : Int)) ∧ (S51_0 columns plan at_ rule K) ∧ (S51_0 columns plan at_ rule K)) (S51_5 columns plan at_ rule K)) (S51_5 columns plan at_ rule K)) (S51_5 columns plan at_ rule K)
@[reducible] def S51_7 (columns : (List LC)) (plan : LS) (at_ : Int) (rule : Int) (K : KA) : Prop := cond ((decide (rule = Z2)) == true) (cond ((decide ((nS plan at_).1 = Z2)) == true) (cond (decide ((nS plan (nS plan at_).2.1).1 = Z4)) ((Sm TPS (nS plan (nS plan at_).2.1).2.2.2.2.1) ∧ (Sm TPS (nS plan at_).2.2.2.2.1) ∧ (∀ r2 : LPt, r2 = (M.bothE (nS plan (nS plan at_).2.1).2.2.2.2.1 (nS plan at_).2.2.2.2.1) → K (.own 0 none) [(0, .arr false TStep [(Z4, ((nS plan (nS plan at_).2.1).2.1, ((nS plan (nS plan at_).2.1).2.2.1, (Z0, (r2, ([], ()))))))])])) (S51_6 columns plan at_ rule K)) (S51_6 columns plan at_ rule K)) (S51_6 columns plan at_ rule K)
theorem vc51 (columns : (List LC)) (plan : LS) (at_ : Int) (rule : Int) (K : KA) : vcT C51 (L51 columns plan at_ rule) ann51 f51 [.data (Ty.sl TCS) columns, .data TSS plan, dI at_, dI rule] [] .raw K =
 ((0 ≤ at_) ∧ (at_ < (plan.length : Int)) ∧ cond (decide ((nS plan at_).1 = Z1)) (K (.own 0 none) [(0, .arr false TStep [])]) ((0 ≤ (nS plan at_).2.1) ∧ ((nS plan at_).2.1 < (plan.length : Int)) ∧ cond ((decide (rule = Z1)) == true) (cond ((decide ((nS plan at_).1 = Z2)) == true) (cond (decide ((nS plan (nS plan at_).2.1).1 = Z2)) ((Sm TPS (nS plan (nS plan at_).2.1).2.2.2.2.1) ∧ (Sm TPS (nS plan at_).2.2.2.2.1) ∧ (∀ r3 : LPt, r3 = (M.bothE (nS plan (nS plan at_).2.1).2.2.2.2.1 (nS plan at_).2.2.2.2.1) → K (.own 0 none) [(0, .arr false TStep [(Z2, ((nS plan (nS plan at_).2.1).2.1, (Z0, (Z0, (r3, ([], ()))))))])])) (S51_7 columns plan at_ rule K)) (S51_7 columns plan at_ rule K)) (S51_7 columns plan at_ rule K))) := by kernel_rfl
theorem lvc51_0 (columns : (List LC)) (plan : LS) (at_ : Int) (rule : Int)  (i1 : Int) (v1 : (List Int)) (m : Nat) (K : KX) : lvT C51 (L51 columns plan at_ rule) ann51 f51 0 1 (s51_1 columns plan at_ rule i1 v1) m K =
 (cond (decide (i1 < ((nS plan at_).2.2.2.2.2.1.length : Int))) ((0 ≤ i1) ∧ (i1 < ((nS plan at_).2.2.2.2.2.1.length : Int)) ∧ (0 ≤ (nI (nS plan at_).2.2.2.2.2.1 i1)) ∧ ((nI (nS plan at_).2.2.2.2.2.1 i1) < ((nS plan (nS plan at_).2.1).2.2.2.2.2.1.length : Int)) ∧ ((v1.length + [(nI (nS plan (nS plan at_).2.1).2.2.2.2.2.1 (nI (nS plan at_).2.2.2.2.2.1 i1))].length) * 8 ≤ lim) ∧ (nxT (LP51_1 columns plan at_ rule) m K (s51_1 columns plan at_ rule (wrap64 (i1 + Z1)) (v1 ++ [(nI (nS plan (nS plan at_).2.1).2.2.2.2.2.1 (nI (nS plan at_).2.2.2.2.2.1 i1))])))) (K (.exit 1) (⟨[(10, .adr TStep (nS plan (nS plan at_).2.1)), (12, .own 167 none)], [(167, .arr false TInt v1)]⟩ : St))) := by kernel_rfl
theorem con51_ok : Con1 P 51 c51 := conR C51 func51 (kC con82_ok (kC con83_ok kN)) fun args hp K h0 => by
 obtain ⟨columns, plan, at_, rule, rfl, rfl, h_columns, h_plan, p0, p1, hK⟩ := g4e h0
 have h : ok (F.spec_l7New columns plan at_ rule) (fun r => K (.own 0 none) [(0, .arr false TStep r)]) := ok_of_eq (F.spec_l7New_eq columns plan at_ rule h_columns h_plan p0 p1) (hK _ rfl)
 refine ⟨rfl, ann51, (L51 columns plan at_ rule), .raw, (loopsN1 (i0 := 1) (by kernel_rfl) ?_), ?_⟩
 ·rintro _ _ K ⟨hc1, i1, v1, rfl, hl1, rfl, hv1, h⟩
  exact cast (lvc51_0 _ _ _ _ _ _ _ _).symm (loopE_step (t := TInt) hl1 h (fun ht1 h => ⟨hl1, ⟨ht1, (oG h fun _ h => (oG h fun _ h => (oG h fun _ h => (loopE_next (t := TInt) (fun _ hm => ⟨hc1, hm⟩) _ rfl hl1 ht1 (sm_len (sm_nth h_plan at_).2.2.2.2.2.1) trivial h))))⟩⟩) fun h => (h trivial))
 ·rw [vc51]
  exact (oG h fun _ h => (oG h fun _ h => (oC h (fun _ h => h) fun _ h => (oG h fun g1 h => (oG h fun _ h => (oC h (fun b_6 h => (oC h (fun _ h => (oC h (fun _ h => ⟨(sm_nth h_plan (nS plan at_).2.1).2.2.2.2.1, ⟨(sm_nth h_plan at_).2.2.2.2.1, (oL h fun _ _ h => h)⟩⟩) fun _ h => (cond_f (uef (dec_ne (bet b_6) (by decide))) (cond_f (uef (dec_ne (bet b_6) (by decide))) (cond_f (uef (dec_ne (bet b_6) (by decide))) (cond_f (uef (dec_ne (bet b_6) (by decide))) (cond_f (uef (dec_ne (bet b_6) (by decide))) (cond_f (uef (dec_ne (bet b_6) (by decide))) h)))))))) fun _ h => (cond_f (uef (dec_ne (bet b_6) (by decide))) (cond_f (uef (dec_ne (bet b_6) (by decide))) (cond_f (uef (dec_ne (bet b_6) (by decide))) (cond_f (uef (dec_ne (bet b_6) (by decide))) (cond_f (uef (dec_ne (bet b_6) (by decide))) (cond_f (uef (dec_ne (bet b_6) (by decide))) h)))))))) fun _ h => (oC h (fun b_69 h => (oC h (fun _ h => (oC h (fun _ h => ⟨(sm_nth h_plan (nS plan at_).2.1).2.2.2.2.1, ⟨(sm_nth h_plan at_).2.2.2.2.1, (oL h fun _ _ h => h)⟩⟩) fun _ h => (cond_f (uef (dec_ne (bet b_69) (by decide))) (cond_f (uef (dec_ne (bet b_69) (by decide))) (cond_f (uef (dec_ne (bet b_69) (by decide))) (cond_f (uef (dec_ne (bet b_69) (by decide))) (cond_f (uef (dec_ne (bet b_69) (by decide))) h))))))) fun _ h => (cond_f (uef (dec_ne (bet b_69) (by decide))) (cond_f (uef (dec_ne (bet b_69) (by decide))) (cond_f (uef (dec_ne (bet b_69) (by decide))) (cond_f (uef (dec_ne (bet b_69) (by decide))) (cond_f (uef (dec_ne (bet b_69) (by decide))) h))))))) fun _ h => (oC h (fun b_92 h => (oC h (fun _ h => (oC h (fun _ h => ⟨g1, (oG h fun _ h => (⟨⟨(sm_nth h_columns (nS plan at_).2.1), ⟨(sm_nth h_plan at_).2.2.2.2.1, ⟨(sm_nth h_plan (nS plan at_).2.1).2.2.2.2.2.1, (fun r1 er1 => ⟨(sm_lim2 (sm_nil TInt) (sm_nth h_plan (nS plan at_).2.1).2.2.2.2.2.1 rfl), (have h := (ok_let h r1 er1); h)⟩)⟩⟩⟩, ⟨(sm_nth h_columns (nS plan at_).2.1), ⟨(sm_nth h_plan at_).2.2.2.2.1, ⟨(sm_nth h_plan (nS plan at_).2.1).2.2.2.2.2.1, (fun r1 er1 => ⟨(sm_lim2 (sm_nil TInt) (sm_nth h_plan (nS plan at_).2.1).2.2.2.2.2.1 rfl), (have h := (ok_let h r1 er1); h)⟩)⟩⟩⟩⟩))⟩) fun _ h => (cond_f (uef (dec_ne (bet b_92) (by decide))) (cond_f (uef (dec_ne (bet b_92) (by decide))) (cond_f (uef (dec_ne (bet b_92) (by decide))) (cond_f (uef (dec_ne (bet b_92) (by decide))) h)))))) fun _ h => (cond_f (uef (dec_ne (bet b_92) (by decide))) (cond_f (uef (dec_ne (bet b_92) (by decide))) (cond_f (uef (dec_ne (bet b_92) (by decide))) (cond_f (uef (dec_ne (bet b_92) (by decide))) h)))))) fun _ h => (oC h (fun b_112 h => (oC h (fun _ h => (oC h (fun _ h => ⟨(sm_lim2 (sm_nil TPart) (sm_nth h_plan at_).2.2.2.2.1 rfl), h⟩) fun _ h => (cond_f (uef (dec_ne (bet b_112) (by decide))) (cond_f (uef (dec_ne (bet b_112) (by decide))) (cond_f (uef (dec_ne (bet b_112) (by decide))) h))))) fun _ h => (cond_f (uef (dec_ne (bet b_112) (by decide))) (cond_f (uef (dec_ne (bet b_112) (by decide))) (cond_f (uef (dec_ne (bet b_112) (by decide))) h))))) fun _ h => (oC h (fun b_127 h => (oC h (fun _ h => (oC h (fun _ h => (⟨⟨⟨(sm_lim2 (sm_nil TPart) (sm_nth h_plan at_).2.2.2.2.1 rfl), ⟨(sm_lim2 (sm_nil TPart) (sm_nth h_plan at_).2.2.2.2.1 rfl), (have h := h; h)⟩⟩, ⟨(sm_lim2 (sm_nil TPart) (sm_nth h_plan at_).2.2.2.2.1 rfl), ⟨(sm_lim2 (sm_nil TPart) (sm_nth h_plan at_).2.2.2.2.1 rfl), (have h := h; h)⟩⟩⟩, ⟨(sm_lim2 (sm_nil TPart) (sm_nth h_plan at_).2.2.2.2.1 rfl), ⟨(sm_lim2 (sm_nil TPart) (sm_nth h_plan at_).2.2.2.2.1 rfl), (have h := h; h)⟩⟩⟩)) fun _ h => (cond_f (uef (dec_ne (bet b_127) (by decide))) (cond_f (uef (dec_ne (bet b_127) (by decide))) h)))) fun _ h => (cond_f (uef (dec_ne (bet b_127) (by decide))) (cond_f (uef (dec_ne (bet b_127) (by decide))) h)))) fun _ h => (oC h (fun b_138 h => (oC h (fun _ h => (oC h (fun _ h => (loopE_start (t := TInt) (fun m hm => ⟨trivial, hm⟩) _ rfl trivial (ok_then h (fun v1 h hv1 => h) (fun _ h => h.elim)))) fun _ h => (cond_f (uef (dec_ne (bet b_138) (by decide))) h))) fun _ h => (cond_f (uef (dec_ne (bet b_138) (by decide))) h))) fun _ h => (oC h (fun _ h => (oC h (fun _ h => (oC h (fun _ h => h) fun _ h => h)) fun _ h => h)) fun _ h => h))))))))))))
def c52 : Con := ⟨[.dat TSS], fun args hp K => g1 (pD TSS) (fun plan => (Sm TSS plan) ∧ (∀ r : LS, r = plan → K (.own 0 none) [(0, .arr false TStep r)])) args hp, .plain⟩
@[reducible] def C52 : Ctx := cx [] 32 [] 0 false
def ann52 := an [[kp 1], [kp 9], [kp 25], [kp 1049], [kp 25], [kp 57], [kp 57], [kp 57], [kp 25], [kp 4]] [[kp 8]]
@[reducible] def s52_0 (plan : LS) (i0 : Int) (v0 : LS) : St := ⟨[(0, .data TSS plan), (3, .own 6 none), (4, dI i0)], [(6, .arr false TStep v0)]⟩
@[reducible] def LP52_0 (plan : LS) (m : Nat) (st_ : St) (K : KX) : Prop := True ∧ LoopE (t := TStep) (s52_0 plan) plan (F.spec_l7Own_l0 plan) (fun v0 : LS => True) (outD (fun v0 : LS => True → K (.exit 0) (⟨[(3, .own 6 none)], [(6, .arr false TStep v0)]⟩ : St)) (fun _ => False)) m st_
def L52 (plan : LS) : Loops := lp1 0 (LP52_0 plan)
theorem vc52 (plan : LS) (K : KA) : vcT C52 (L52 plan) ann52 f52 [.data TSS plan] [] .raw K =
 (∃ m_, True ∧ LoopE (t := TStep) (s52_0 plan) plan (F.spec_l7Own_l0 plan) (fun v0 : LS => True) (outD (fun v0 : LS => True → K (.own 0 none) [(0, .arr false TStep v0)]) (fun _ => False)) m_ (s52_0 plan Z0 [])) := by kernel_rfl
theorem lvc52_0 (plan : LS)  (i0 : Int) (v0 : LS) (m : Nat) (K : KX) : lvT C52 (L52 plan) ann52 f52 0 0 (s52_0 plan i0 v0) m K =
 (cond (decide (i0 < (plan.length : Int))) ((0 ≤ i0) ∧ (i0 < (plan.length : Int)) ∧ ((([] : List TPart.D).length + (nS plan i0).2.2.2.2.1.length) * 48 ≤ lim) ∧ ((([] : List TInt.D).length + (nS plan i0).2.2.2.2.2.1.length) * 8 ≤ lim) ∧ ((v0.length + ([((nS plan i0).1, ((nS plan i0).2.1, ((nS plan i0).2.2.1, ((nS plan i0).2.2.2.1, (([] ++ (nS plan i0).2.2.2.2.1), (([] ++ (nS plan i0).2.2.2.2.2.1), ()))))))] : List TStep.D).length) * 80 ≤ lim) ∧ (nxT (LP52_0 plan) m K (s52_0 plan (wrap64 (i0 + Z1)) (v0 ++ [((nS plan i0).1, ((nS plan i0).2.1, ((nS plan i0).2.2.1, ((nS plan i0).2.2.2.1, (([] ++ (nS plan i0).2.2.2.2.1), (([] ++ (nS plan i0).2.2.2.2.2.1), ()))))))])))) (K (.exit 0) (⟨[(3, .own 6 none)], [(6, .arr false TStep v0)]⟩ : St))) := by kernel_rfl
theorem con52_ok : Con1 P 52 c52 := conR C52 func52 kN fun args hp K h0 => by
 obtain ⟨plan, rfl, rfl, h_plan, hK⟩ := g1e h0
 have h : ok (F.spec_l7Own plan) (fun r => K (.own 0 none) [(0, .arr false TStep r)]) := ok_of_eq (F.spec_l7Own_eq plan h_plan) (hK _ rfl)
 refine ⟨rfl, ann52, (L52 plan), .raw, (loopsN1 (i0 := 0) (by kernel_rfl) ?_), ?_⟩
 ·rintro _ _ K ⟨hc0, i0, v0, rfl, hl0, rfl, hv0, h⟩
  exact cast (lvc52_0 _ _ _ _ _).symm (loopE_step (t := TStep) hl0 h (fun ht0 h => ⟨hl0, ⟨ht0, ⟨(sm_lim2 (sm_nil TPart) (sm_nth h_plan i0).2.2.2.2.1 rfl), ⟨(sm_lim2 (sm_nil TInt) (sm_nth h_plan i0).2.2.2.2.2.1 rfl), (oG h fun _ h => (loopE_next (t := TStep) (fun _ hm => ⟨hc0, hm⟩) _ rfl hl0 ht0 (sm_len h_plan) trivial h))⟩⟩⟩⟩) fun h => (h trivial))
 ·rw [vc52]
  exact (loopE_start (t := TStep) (fun m hm => ⟨trivial, hm⟩) _ rfl trivial (ok_then h (fun v0 h hv0 => h) (fun _ h => h.elim)))
def c53 : Con := ⟨[.dat TSS, .dat TInt, .dat TSS], fun args hp K => g3 (pD TSS) (pD TInt) (pD TSS) (fun plan at_ steps => (Sm TSS plan) ∧ (Sm TSS steps) ∧ (0 ≤ at_) ∧ (at_ < (plan.length : Int)) ∧ (∀ r : LS, r = (M.putSteps plan at_ steps) → K (.own 0 none) [(0, .arr false TStep r)])) args hp, .plain⟩
@[reducible] def C53 : Ctx := cx [(52, c52)] 74 [] 0 false
def ann53 := an [[kp 7], [kp 134], [kp 390], [kp 898], [kp 1922], [kp 536872834], [kp 1922], [kp 3970], [kp 17592186048386], [kp 3970], [kp 9223372036854779778], [kp 3970], [kp 1922], [kp 64]] [[kp 256]]
@[reducible] def s53_0 (plan : LS) (at_ : Int) (steps : LS) (c0_0 : LS) (i0 : Int) (v0 : LS) : St := ⟨[(1, dI at_), (7, .own 13 none), (8, .own 14 none), (9, dI (wrap64 ((steps.length : Int) - Z1))), (10, dI i0)], [(13, .arr false TStep c0_0), (14, .arr false TStep v0)]⟩
@[reducible] def LP53_0 (plan : LS) (at_ : Int) (steps : LS) (m : Nat) (st_ : St) (K : KX) : Prop := ∃ c0_0 : LS, ((c0_0.length : Int) ≤ top63 ∧ True) ∧ LoopI (s53_0 plan at_ steps c0_0) Z0 (c0_0.length : Int) (F.spec_l7Put_l0 plan at_ steps c0_0) (fun v0 : LS => True) (outD (fun v0 : LS => True → K (.exit 0) (⟨[(8, .own 14 none)], [(14, .arr false TStep v0)]⟩ : St)) (fun _ => False)) m st_
def L53 (plan : LS) (at_ : Int) (steps : LS) : Loops := lp1 0 (LP53_0 plan at_ steps)
theorem vc53 (plan : LS) (at_ : Int) (steps : LS) (K : KA) : vcT C53 (L53 plan at_ steps) ann53 f53 [.data TSS plan, dI at_, .data TSS steps] [] .raw K =
 ((Sm TSS plan) ∧ (∀ r1 : LS, r1 = plan → (0 ≤ Z0) ∧ (Z0 ≤ at_) ∧ (at_ ≤ (r1.length : Int)) ∧ (at_ = at_) ∧ ((([] : List TStep.D).length + (cutList r1 (some (Z0, at_))).length) * 80 ≤ lim) ∧ ((([] ++ (cutList r1 (some (Z0, at_)))).length + steps.length) * 80 ≤ lim) ∧ (∃ m_, ∃ c0_0 : LS, ((c0_0.length : Int) ≤ top63 ∧ True) ∧ LoopI (s53_0 plan at_ steps c0_0) Z0 (c0_0.length : Int) (F.spec_l7Put_l0 plan at_ steps c0_0) (fun v0 : LS => True) (outD (fun v0 : LS => True → K (.own 0 none) [(0, .arr false TStep v0)]) (fun _ => False)) m_ (s53_0 plan at_ steps r1 (wrap64 (at_ + Z1)) (([] ++ (cutList r1 (some (Z0, at_)))) ++ steps))))) := by kernel_rfl
@[reducible] def S53l0_0 (plan : LS) (at_ : Int) (steps : LS) (c0_0 : LS) (i0 : Int) (v0 : LS) (m : Nat) (K : KX) : Prop := ((v0.length + [((nS c0_0 i0).1, (wrap64 ((nS c0_0 i0).2.1 + wrap64 ((steps.length : Int) - Z1)), (nS c0_0 i0).2.2))].length) * 80 ≤ lim) ∧ (nxT (LP53_0 plan at_ steps) m K (s53_0 plan at_ steps c0_0 (wrap64 (i0 + Z1)) (v0 ++ [((nS c0_0 i0).1, (wrap64 ((nS c0_0 i0).2.1 + wrap64 ((steps.length : Int) - Z1)), (nS c0_0 i0).2.2))])))
@[reducible] def S53l0_1 (plan : LS) (at_ : Int) (steps : LS) (c0_0 : LS) (i0 : Int) (v0 : LS) (m : Nat) (K : KX) : Prop := cond (decide (at_ ≤ (nS c0_0 i0).2.2.1)) (((v0.length + [((nS c0_0 i0).1, (wrap64 ((nS c0_0 i0).2.1 + wrap64 ((steps.length : Int) - Z1)), (wrap64 ((nS c0_0 i0).2.2.1 + wrap64 ((steps.length : Int) - Z1)), (nS c0_0 i0).2.2.2)))].length) * 80 ≤ lim) ∧ (nxT (LP53_0 plan at_ steps) m K (s53_0 plan at_ steps c0_0 (wrap64 (i0 + Z1)) (v0 ++ [((nS c0_0 i0).1, (wrap64 ((nS c0_0 i0).2.1 + wrap64 ((steps.length : Int) - Z1)), (wrap64 ((nS c0_0 i0).2.2.1 + wrap64 ((steps.length : Int) - Z1)), (nS c0_0 i0).2.2.2)))])))) (S53l0_0  plan at_ steps c0_0 i0 v0 m K)
@[reducible] def S53l0_2 (plan : LS) (at_ : Int) (steps : LS) (c0_0 : LS) (i0 : Int) (v0 : LS) (m : Nat) (K : KX) : Prop := ((v0.length + [(nS c0_0 i0)].length) * 80 ≤ lim) ∧ (nxT (LP53_0 plan at_ steps) m K (s53_0 plan at_ steps c0_0 (wrap64 (i0 + Z1)) (v0 ++ [(nS c0_0 i0)])))
@[reducible] def S53l0_3 (plan : LS) (at_ : Int) (steps : LS) (c0_0 : LS) (i0 : Int) (v0 : LS) (m : Nat) (K : KX) : Prop := cond (decide (at_ ≤ (nS c0_0 i0).2.2.1)) (((v0.length + [((nS c0_0 i0).1, ((nS c0_0 i0).2.1, (wrap64 ((nS c0_0 i0).2.2.1 + wrap64 ((steps.length : Int) - Z1)), (nS c0_0 i0).2.2.2)))].length) * 80 ≤ lim) ∧ (nxT (LP53_0 plan at_ steps) m K (s53_0 plan at_ steps c0_0 (wrap64 (i0 + Z1)) (v0 ++ [((nS c0_0 i0).1, ((nS c0_0 i0).2.1, (wrap64 ((nS c0_0 i0).2.2.1 + wrap64 ((steps.length : Int) - Z1)), (nS c0_0 i0).2.2.2)))])))) (S53l0_2  plan at_ steps c0_0 i0 v0 m K)
@[reducible] def S53l0_4 (plan : LS) (at_ : Int) (steps : LS) (c0_0 : LS) (i0 : Int) (v0 : LS) (m : Nat) (K : KX) : Prop := cond ((decide ((nS c0_0 i0).1 = Z4)) == false) (cond ((decide ((nS c0_0 i0).1 = Z5)) == true) (S53l0_3  plan at_ steps c0_0 i0 v0 m K) (S53l0_2  plan at_ steps c0_0 i0 v0 m K)) (S53l0_3  plan at_ steps c0_0 i0 v0 m K)
theorem lvc53_0 (plan : LS) (at_ : Int) (steps : LS) (c0_0 : LS) (i0 : Int) (v0 : LS) (m : Nat) (K : KX) : lvT C53 (L53 plan at_ steps) ann53 f53 0 0 (s53_0 plan at_ steps c0_0 i0 v0) m K =
 (cond (decide (i0 < (c0_0.length : Int))) ((0 ≤ i0) ∧ (i0 < (c0_0.length : Int)) ∧ cond ((!decide ((nS c0_0 i0).1 = Z1)) == true) (cond (decide (at_ ≤ (nS c0_0 i0).2.1)) (cond ((decide ((nS c0_0 i0).1 = Z4)) == false) (cond ((decide ((nS c0_0 i0).1 = Z5)) == true) (S53l0_1  plan at_ steps c0_0 i0 v0 m K) (S53l0_0  plan at_ steps c0_0 i0 v0 m K)) (S53l0_1  plan at_ steps c0_0 i0 v0 m K)) (S53l0_4  plan at_ steps c0_0 i0 v0 m K)) (S53l0_4  plan at_ steps c0_0 i0 v0 m K)) (K (.exit 0) (⟨[(8, .own 14 none)], [(14, .arr false TStep v0)]⟩ : St))) := by kernel_rfl
theorem con53_ok : Con1 P 53 c53 := conR C53 func53 (kC con52_ok kN) fun args hp K h0 => by
 obtain ⟨plan, at_, steps, rfl, rfl, h_plan, h_steps, p0, p1, hK⟩ := g3e h0
 have h : ok (F.spec_l7Put plan at_ steps) (fun r => K (.own 0 none) [(0, .arr false TStep r)]) := ok_of_eq (F.spec_l7Put_eq plan at_ steps h_plan h_steps p0 p1) (hK _ rfl)
 refine ⟨rfl, ann53, (L53 plan at_ steps), .raw, (loopsN1 (i0 := 0) (by kernel_rfl) ?_), ?_⟩
 ·rintro _ _ K ⟨c0_0, hc0, i0, v0, rfl, hl0, rfl, hv0, h⟩
  exact cast (lvc53_0 _ _ _ _ _ _ _ _).symm (loopI_step h (fun ht0 h => ⟨hl0, ⟨ht0, (oC h (fun _ h => (oC h (fun _ h => (oC h (fun _ h => (oC h (fun _ h => (oC h (fun _ h => (oG h fun _ h => (loopI_next (fun _ hm => ⟨c0_0, hc0, hm⟩) _ rfl hl0 low0 ht0 hc0.1 trivial h))) fun _ h => (oG h fun _ h => (loopI_next (fun _ hm => ⟨c0_0, hc0, hm⟩) _ rfl hl0 low0 ht0 hc0.1 trivial h)))) fun _ h => (oG h fun _ h => (loopI_next (fun _ hm => ⟨c0_0, hc0, hm⟩) _ rfl hl0 low0 ht0 hc0.1 trivial h)))) fun _ h => (oC h (fun _ h => (oG h fun _ h => (loopI_next (fun _ hm => ⟨c0_0, hc0, hm⟩) _ rfl hl0 low0 ht0 hc0.1 trivial h))) fun _ h => (oG h fun _ h => (loopI_next (fun _ hm => ⟨c0_0, hc0, hm⟩) _ rfl hl0 low0 ht0 hc0.1 trivial h))))) fun _ h => (oC h (fun _ h => (oC h (fun _ h => (oC h (fun _ h => (oG h fun _ h => (loopI_next (fun _ hm => ⟨c0_0, hc0, hm⟩) _ rfl hl0 low0 ht0 hc0.1 trivial h))) fun _ h => (oG h fun _ h => (loopI_next (fun _ hm => ⟨c0_0, hc0, hm⟩) _ rfl hl0 low0 ht0 hc0.1 trivial h)))) fun _ h => (oG h fun _ h => (loopI_next (fun _ hm => ⟨c0_0, hc0, hm⟩) _ rfl hl0 low0 ht0 hc0.1 trivial h)))) fun _ h => (oC h (fun _ h => (oG h fun _ h => (loopI_next (fun _ hm => ⟨c0_0, hc0, hm⟩) _ rfl hl0 low0 ht0 hc0.1 trivial h))) fun _ h => (oG h fun _ h => (loopI_next (fun _ hm => ⟨c0_0, hc0, hm⟩) _ rfl hl0 low0 ht0 hc0.1 trivial h)))))) fun b_32 h => (cond_t (ugt (dec_ne (bnf (bef b_32)) (by decide))) (cond_f (uef (dec_ne (bnf (bef b_32)) (by decide))) (oG h fun _ h => (loopI_next (fun _ hm => ⟨c0_0, hc0, hm⟩) _ rfl hl0 low0 ht0 hc0.1 trivial h)))))⟩⟩) fun h => (h trivial))
 ·rw [vc53]
  exact ⟨h_plan, (oL h fun r1 _ h => ⟨(Int.natCast_nonneg 0), (oG h fun _ h => (oG h fun _ h => ⟨rfl, (oG h fun _ h => (oG h fun _ h => (have hi_0 := (ok_guard h).1; have hlo := (ok_guard (ok_guard h).2).1; have h := (ok_guard (ok_guard h).2).2; (loopI_start (fun m hm => ⟨r1, ⟨hi_0, trivial⟩, hm⟩) (wrap64 (at_ + Z1)) _ rfl hlo trivial (ok_then h (fun v0 h hv0 => h) (fun _ h => h.elim))))))⟩))⟩)⟩
def c25 : Con := ⟨[.dat TTb, .dat TSS, .dat TInt, .dat TInt], fun args hp K => g4 (pD TTb) (pD TSS) (pD TInt) (pD TInt) (fun tables plan at_ rule => (Sm TTb tables) ∧ (Sm TSS plan) ∧ (∀ r : LS × Bool, r = (M.planTurned tables plan at_ rule) → K (.tup [.data TSS r.1, dB r.2]) [])) args hp, .plain⟩
@[reducible] def C25 : Ctx := cx [(32, c32), (49, c49), (50, c50), (51, c51), (52, c52), (53, c53)] 59 [] 0 false
def ann25 := an [[kp 15], [kp 1073741839], [kp 768], [kp 1039], [kp 4103], [kp 35184372092935], [kp 768], [kp 8195], [.keep [1, 13, 55]], [kp 768], [kp 768]] []
theorem vc25 (tables : LTb) (plan : LS) (at_ : Int) (rule : Int) (K : KA) : vcT C25 noLoops ann25 f25 [.data TTb tables, .data TSS plan, dI at_, dI rule] [] (.tup [TSS, Ty.bool]) K =
 ((Sm TTb tables) ∧ (Sm TSS plan) ∧ cond ((!(M.planOk tables plan)) == false) (cond ((!(M.inR at_ Z0 (wrap64 ((plan.length : Int) - Z1)))) == false) (cond (!(M.inR rule Z1 (7 : Int))) (K (.tup [.data TSS [], dB false]) []) ((Sm TTb tables) ∧ (Sm TSS plan) ∧ (∀ r1 : (List LC) × Bool, r1 = (M.planAll tables plan) → (Sm (Ty.sl TCS) r1.1) ∧ (Sm TSS plan) ∧ (M.turnSafe plan at_) ∧ (M.turnCols r1.1 plan at_) ∧ (∀ r2 : LS, r2 = (M.newSteps plan at_ rule) → cond (decide ((r2.length : Int) = Z0)) ((Sm TSS plan) ∧ (∀ r3 : LS, r3 = plan → K (.tup [.data TSS r3, dB false]) [])) ((Sm TSS plan) ∧ (Sm TSS r2) ∧ (0 ≤ at_) ∧ (at_ < (plan.length : Int)) ∧ (∀ r4 : LS, r4 = (M.putSteps plan at_ r2) → (Sm TTb tables) ∧ (Sm TSS r4) ∧ cond (!(M.planOk tables r4)) ((Sm TSS plan) ∧ (∀ r5 : LS, r5 = plan → K (.tup [.data TSS r5, dB false]) [])) (K (.tup [.data TSS r4, dB true]) []))))))) (K (.tup [.data TSS [], dB false]) [])) (K (.tup [.data TSS [], dB false]) [])) := by kernel_rfl
theorem con25_ok : Con1 P 25 c25 := conR C25 func25 (kC con32_ok (kC con49_ok (kC con50_ok (kC con51_ok (kC con52_ok (kC con53_ok kN)))))) fun args hp K h0 => by
 obtain ⟨tables, plan, at_, rule, rfl, rfl, h_tables, h_plan, hK⟩ := g4e h0
 have h : ok (F.spec_PlanTurned tables plan at_ rule) (fun r => K (.tup [.data TSS r.1, dB r.2]) []) := ok_of_eq (F.spec_PlanTurned_eq tables plan at_ rule h_tables h_plan) (hK _ rfl)
 refine ⟨rfl, ann25, noLoops, (.tup [TSS, Ty.bool]), (no_loops (by kernel_rfl)), ?_⟩
 ·rw [vc25]
  exact ⟨h_tables, ⟨h_plan, (oC h (fun _ h => (oC h (fun b_2 h => (oC h (fun _ h => h) fun _ h => ⟨h_tables, ⟨h_plan, (oL h fun _ _ h => (oG h fun _ h => ⟨h_plan, (oG h fun _ h => (oG h fun _ h => (oL h fun _ _ h => (oC h (fun _ h => ⟨h_plan, (oL h fun _ _ h => h)⟩) fun _ h => ⟨h_plan, (oG h fun _ h => ⟨(inR_lo (bnf (bgt b_2))), ⟨(inR_hi (bnf (bgt b_2))), (oL h fun _ _ h => ⟨h_tables, (oG h fun _ h => (oC h (fun _ h => ⟨h_plan, (oL h fun _ _ h => h)⟩) fun _ h => h))⟩)⟩⟩)⟩))))⟩))⟩⟩)) fun _ h => h)) fun _ h => h)⟩⟩
def c57 : Con := ⟨[.dat TTb, .dat TSS], fun args hp K => g2 (pD TTb) (pD TSS) (fun tables plan => (Sm TTb tables) ∧ (Sm TSS plan) ∧ (∀ r : LS, r = (M.planTidy tables plan) → K (.own 0 none) [(0, .arr false TStep r)])) args hp, .plain⟩
@[reducible] def C57 : Ctx := cx [(32, c32), (52, c52)] 122 [] 0 false
def ann57 := an [[kp 3], [kp 65538], [kp 16], [kp 34], [kp 34], [kp 98], [kp 1073741922], [kp 98], [.fixRow 7 TStep, kp 226], [kp 35184372089058], [kp 226], [kp 98], [kp 290], [kp 802], [kp 1826], [kp 3874], [kp 302231454903657293680418], [kp 3874], [kp 19342813113834066795302690], [kp 7970], [kp 2475880078570760549798256418], [kp 7970], [kp 40564819207303340847894502580002], [kp 7970], [kp 7970], [kp 3874], [kp 16]] [[kp 34], [], [kp 512]]
@[reducible] def s57_0 (tables : LTb) (plan : LS) (v0 : Int × (List Bool)) : St := ⟨[(1, .data TSS plan), (5, .own 20 none), (6, dI v0.1)], [(20, .arr false Ty.bool v0.2)]⟩
@[reducible] def LP57_0 (tables : LTb) (plan : LS) (m : Nat) (st_ : St) (K : KX) : Prop := True ∧ LoopW (s57_0 tables plan) (F.spec_PlanTidy_l0 tables plan) (fun v0 : Int × (List Bool) => True) (fun e0 : (List Bool) => True → K (.exit 0) (⟨[(1, .data TSS plan), (5, .own 20 none)], [(20, .arr false Ty.bool e0)]⟩ : St)) m st_
@[reducible] def s57_2 (tables : LTb) (plan : LS) (c2_0 : (List Bool)) (c2_1 : LS) (i2 : Int) (v2 : (List Int) × LS) : St := ⟨[(1, .data TSS plan), (5, .own 20 none), (8, .own 71 none), (9, .own 72 none), (10, .own 74 none), (11, dI i2)], [(20, .arr false Ty.bool c2_0), (71, .arr false TInt v2.1), (72, .arr false TStep v2.2), (74, .arr false TStep c2_1)]⟩
@[reducible] def LP57_2 (tables : LTb) (plan : LS) (m : Nat) (st_ : St) (K : KX) : Prop := ∃ c2_0 : (List Bool), ∃ c2_1 : LS, True ∧ LoopI (s57_2 tables plan c2_0 c2_1) Z0 (plan.length : Int) (F.spec_PlanTidy_l2 tables plan c2_0 c2_1) (fun v2 : (List Int) × LS => True) (outD (fun v2 : (List Int) × LS => True → K (.exit 2) (⟨[(9, .own 72 none)], [(72, .arr false TStep v2.2)]⟩ : St)) (fun _ => False)) m st_
def L57 (tables : LTb) (plan : LS) : Loops := lp2 0 (LP57_0 tables plan) 2 (LP57_2 tables plan)
theorem vc57 (tables : LTb) (plan : LS) (K : KA) : vcT C57 (L57 tables plan) ann57 f57 [.data TTb tables, .data TSS plan] [] .raw K =
 ((Sm TTb tables) ∧ (Sm TSS plan) ∧ cond (!(M.planOk tables plan)) (K (.own 0 none) [(0, .arr false TStep [])]) (((plan.length : Int) = (plan.length : Int)) ∧ (0 ≤ (plan.length : Int)) ∧ ((plan.length : Int) * 1 ≤ (lim : Int)) ∧ (0 ≤ wrap64 ((plan.length : Int) - Z1)) ∧ (wrap64 ((plan.length : Int) - Z1) < ((List.replicate (plan.length : Int).toNat false).length : Int)) ∧ (let y1 : (List Bool) := ((List.replicate (plan.length : Int).toNat false).set (wrap64 ((plan.length : Int) - Z1)).toNat true); (∃ m_, True ∧ LoopW (s57_0 tables plan) (F.spec_PlanTidy_l0 tables plan) (fun v0 : Int × (List Bool) => True) (fun e0 : (List Bool) => True → ((plan.length : Int) = (plan.length : Int)) ∧ (0 ≤ (plan.length : Int)) ∧ ((plan.length : Int) * 8 ≤ (lim : Int)) ∧ (Sm TSS plan) ∧ (∀ r1 : LS, r1 = plan → (∃ m_, ∃ c2_0 : (List Bool), ∃ c2_1 : LS, True ∧ LoopI (s57_2 tables plan c2_0 c2_1) Z0 (plan.length : Int) (F.spec_PlanTidy_l2 tables plan c2_0 c2_1) (fun v2 : (List Int) × LS => True) (outD (fun v2 : (List Int) × LS => True → K (.own 0 none) [(0, .arr false TStep v2.2)]) (fun _ => False)) m_ (s57_2 tables plan e0 r1 Z0 ((List.replicate (plan.length : Int).toNat Z0), []))))) m_ (s57_0 tables plan (wrap64 ((plan.length : Int) - Z1), y1)))))) := by kernel_rfl
@[reducible] def S57l0_0 (tables : LTb) (plan : LS)  (v0 : Int × (List Bool)) (m : Nat) (K : KX) : Prop := (0 ≤ (nS plan v0.1).2.2.1) ∧ ((nS plan v0.1).2.2.1 < ((v0.2.set (nS plan v0.1).2.1.toNat true).length : Int)) ∧ (let y2 : (List Bool) := ((v0.2.set (nS plan v0.1).2.1.toNat true).set (nS plan v0.1).2.2.1.toNat true); (nxT (LP57_0 tables plan) m K (s57_0 tables plan (wrap64 (v0.1 - Z1), y2))))
theorem lvc57_0 (tables : LTb) (plan : LS)  (v0 : Int × (List Bool)) (m : Nat) (K : KX) : lvT C57 (L57 tables plan) ann57 f57 0 0 (s57_0 tables plan v0) m K =
 (cond (decide (Z0 ≤ v0.1)) ((0 ≤ v0.1) ∧ (v0.1 < (plan.length : Int)) ∧ (0 ≤ v0.1) ∧ (v0.1 < (v0.2.length : Int)) ∧ cond ((nth (t := Ty.bool) v0.2 v0.1) == true) (cond (!decide ((nS plan v0.1).1 = Z1)) ((0 ≤ (nS plan v0.1).2.1) ∧ ((nS plan v0.1).2.1 < (v0.2.length : Int)) ∧ (0 ≤ (nS plan v0.1).2.2.1) ∧ ((nS plan v0.1).2.2.1 < ((v0.2.set (nS plan v0.1).2.1.toNat true).length : Int)) ∧ cond ((nth (t := Ty.bool) (v0.2.set (nS plan v0.1).2.1.toNat true) (nS plan v0.1).2.2.1) == false) (cond ((decide ((nS plan v0.1).1 = Z4)) == false) ((0 ≤ (nS plan v0.1).2.2.1) ∧ ((nS plan v0.1).2.2.1 < ((v0.2.set (nS plan v0.1).2.1.toNat true).length : Int)) ∧ (let y2 : (List Bool) := ((v0.2.set (nS plan v0.1).2.1.toNat true).set (nS plan v0.1).2.2.1.toNat (decide ((nS plan v0.1).1 = Z5))); (nxT (LP57_0 tables plan) m K (s57_0 tables plan (wrap64 (v0.1 - Z1), y2))))) (S57l0_0  tables plan v0 m K)) (S57l0_0  tables plan v0 m K)) (nxT (LP57_0 tables plan) m K (s57_0 tables plan (wrap64 (v0.1 - Z1), v0.2)))) (nxT (LP57_0 tables plan) m K (s57_0 tables plan (wrap64 (v0.1 - Z1), v0.2)))) (K (.exit 0) (⟨[(1, .data TSS plan), (5, .own 20 none)], [(20, .arr false Ty.bool v0.2)]⟩ : St))) := by kernel_rfl
@[reducible] def S57l2_0 (tables : LTb) (plan : LS) (c2_0 : (List Bool)) (c2_1 : LS) (i2 : Int) (v2 : (List Int) × LS) (m : Nat) (K : KX) : Prop := (0 ≤ (nS c2_1 i2).2.2.1) ∧ ((nS c2_1 i2).2.2.1 < (v2.1.length : Int)) ∧ (0 ≤ i2) ∧ (i2 < (v2.1.length : Int)) ∧ ((v2.2.length + [((nS c2_1 i2).1, ((nI v2.1 (nS c2_1 i2).2.1), ((nI v2.1 (nS c2_1 i2).2.2.1), (nS c2_1 i2).2.2.2)))].length) * 80 ≤ lim) ∧ (nxT (LP57_2 tables plan) m K (s57_2 tables plan c2_0 c2_1 (wrap64 (i2 + Z1)) ((v2.1.set i2.toNat (v2.2.length : Int)), (v2.2 ++ [((nS c2_1 i2).1, ((nI v2.1 (nS c2_1 i2).2.1), ((nI v2.1 (nS c2_1 i2).2.2.1), (nS c2_1 i2).2.2.2)))]))))
@[reducible] def S57l2_1 (tables : LTb) (plan : LS) (c2_0 : (List Bool)) (c2_1 : LS) (i2 : Int) (v2 : (List Int) × LS) (m : Nat) (K : KX) : Prop := (0 ≤ (nS c2_1 i2).2.2.1) ∧ ((nS c2_1 i2).2.2.1 < (v2.1.length : Int)) ∧ (0 ≤ i2) ∧ (i2 < (v2.1.length : Int)) ∧ ((v2.2.length + [((nS c2_1 i2).1, ((nS c2_1 i2).2.1, ((nI v2.1 (nS c2_1 i2).2.2.1), (nS c2_1 i2).2.2.2)))].length) * 80 ≤ lim) ∧ (nxT (LP57_2 tables plan) m K (s57_2 tables plan c2_0 c2_1 (wrap64 (i2 + Z1)) ((v2.1.set i2.toNat (v2.2.length : Int)), (v2.2 ++ [((nS c2_1 i2).1, ((nS c2_1 i2).2.1, ((nI v2.1 (nS c2_1 i2).2.2.1), (nS c2_1 i2).2.2.2)))]))))
theorem lvc57_1 (tables : LTb) (plan : LS) (c2_0 : (List Bool)) (c2_1 : LS) (i2 : Int) (v2 : (List Int) × LS) (m : Nat) (K : KX) : lvT C57 (L57 tables plan) ann57 f57 1 2 (s57_2 tables plan c2_0 c2_1 i2 v2) m K =
 (cond (decide (i2 < (plan.length : Int))) ((0 ≤ i2) ∧ (i2 < (c2_0.length : Int)) ∧ cond (nth (t := Ty.bool) c2_0 i2) ((0 ≤ i2) ∧ (i2 < (c2_1.length : Int)) ∧ cond (!decide ((nS c2_1 i2).1 = Z1)) ((0 ≤ (nS c2_1 i2).2.1) ∧ ((nS c2_1 i2).2.1 < (v2.1.length : Int)) ∧ cond ((decide ((nS c2_1 i2).1 = Z4)) == false) (cond (decide ((nS c2_1 i2).1 = Z5)) (S57l2_0  tables plan c2_0 c2_1 i2 v2 m K) ((0 ≤ i2) ∧ (i2 < (v2.1.length : Int)) ∧ ((v2.2.length + [((nS c2_1 i2).1, ((nI v2.1 (nS c2_1 i2).2.1), (nS c2_1 i2).2.2))].length) * 80 ≤ lim) ∧ (nxT (LP57_2 tables plan) m K (s57_2 tables plan c2_0 c2_1 (wrap64 (i2 + Z1)) ((v2.1.set i2.toNat (v2.2.length : Int)), (v2.2 ++ [((nS c2_1 i2).1, ((nI v2.1 (nS c2_1 i2).2.1), (nS c2_1 i2).2.2))])))))) (S57l2_0  tables plan c2_0 c2_1 i2 v2 m K)) (cond ((decide ((nS c2_1 i2).1 = Z4)) == false) (cond (decide ((nS c2_1 i2).1 = Z5)) (S57l2_1  tables plan c2_0 c2_1 i2 v2 m K) ((0 ≤ i2) ∧ (i2 < (v2.1.length : Int)) ∧ ((v2.2.length + [(nS c2_1 i2)].length) * 80 ≤ lim) ∧ (nxT (LP57_2 tables plan) m K (s57_2 tables plan c2_0 c2_1 (wrap64 (i2 + Z1)) ((v2.1.set i2.toNat (v2.2.length : Int)), (v2.2 ++ [(nS c2_1 i2)])))))) (S57l2_1  tables plan c2_0 c2_1 i2 v2 m K))) (nxT (LP57_2 tables plan) m K (s57_2 tables plan c2_0 c2_1 (wrap64 (i2 + Z1)) (v2.1, v2.2)))) (K (.exit 2) (⟨[(9, .own 72 none)], [(72, .arr false TStep v2.2)]⟩ : St))) := by kernel_rfl
theorem con57_ok : Con1 P 57 c57 := conR C57 func57 (kC con32_ok (kC con52_ok kN)) fun args hp K h0 => by
 obtain ⟨tables, plan, rfl, rfl, h_tables, h_plan, hK⟩ := g2e h0
 have h : ok (F.spec_PlanTidy tables plan) (fun r => K (.own 0 none) [(0, .arr false TStep r)]) := ok_of_eq (F.spec_PlanTidy_eq tables plan h_tables h_plan) (hK _ rfl)
 refine ⟨rfl, ann57, (L57 tables plan), .raw, (loopsN2 (i0 := 0) (i1 := 2) (by kernel_rfl) ?_ ?_), ?_⟩
 ·rintro _ _ K ⟨hc0, v0, rfl, hv0, h⟩
  exact cast (lvc57_0 _ _ _ _ _).symm (loopW_step h (fun m1 hm0 h => (oC h (fun _ h => (oG h fun g1 h => (oG h fun _ h => ⟨g1, (oG h fun _ h => (oC h (fun _ h => (oC h (fun _ h => (oG h fun _ h => (oG h fun _ h => (oG h fun g2 h => (oG h fun g3 h => (oC h (fun _ h => (oC h (fun _ h => ⟨g2, ⟨g3, (have h := ok_let h _ rfl; (loopW_next (fun _ hm => ⟨hc0, hm⟩) hm0 _ rfl trivial h))⟩⟩) fun _ h => ⟨g2, ⟨g3, (have h := ok_let h _ rfl; (loopW_next (fun _ hm => ⟨hc0, hm⟩) hm0 _ rfl trivial h))⟩⟩)) fun _ h => ⟨g2, ⟨g3, (have h := ok_let h _ rfl; (loopW_next (fun _ hm => ⟨hc0, hm⟩) hm0 _ rfl trivial h))⟩⟩)))))) fun _ h => (loopW_next (fun _ hm => ⟨hc0, hm⟩) hm0 _ rfl trivial h))) fun _ h => (loopW_next (fun _ hm => ⟨hc0, hm⟩) hm0 _ rfl trivial h)))⟩))) fun _ h => ((ok_ret h :) trivial))))
 ·rintro _ _ K ⟨c2_0, c2_1, hc2, i2, v2, rfl, hl2, rfl, hv2, h⟩
  exact cast (lvc57_1 _ _ _ _ _ _ _ _).symm (loopI_step h (fun ht2 h => ⟨hl2, (oG h fun _ h => (oC h (fun _ h => ⟨hl2, (oG h fun _ h => (oC h (fun _ h => (oG h fun _ h => (oG h fun _ h => (oC h (fun _ h => (oC h (fun _ h => (oG h fun _ h => (oG h fun _ h => ⟨hl2, (oG h fun _ h => (oG h fun _ h => (loopI_next (fun _ hm => ⟨c2_0, c2_1, hc2, hm⟩) _ rfl hl2 low0 ht2 (sm_len h_plan) trivial h)))⟩))) fun _ h => ⟨hl2, (oG h fun _ h => (oG h fun _ h => (loopI_next (fun _ hm => ⟨c2_0, c2_1, hc2, hm⟩) _ rfl hl2 low0 ht2 (sm_len h_plan) trivial h)))⟩)) fun _ h => (oG h fun _ h => (oG h fun _ h => ⟨hl2, (oG h fun _ h => (oG h fun _ h => (loopI_next (fun _ hm => ⟨c2_0, c2_1, hc2, hm⟩) _ rfl hl2 low0 ht2 (sm_len h_plan) trivial h)))⟩)))))) fun b_50 h => (cond_t (ugt (dec_ne (bnf b_50) (by decide))) (cond_f (dec_ne (bnf b_50) (by decide)) ⟨hl2, (oG h fun _ h => (oG h fun _ h => (loopI_next (fun _ hm => ⟨c2_0, c2_1, hc2, hm⟩) _ rfl hl2 low0 ht2 (sm_len h_plan) trivial h)))⟩))))⟩) fun _ h => (loopI_next (fun _ hm => ⟨c2_0, c2_1, hc2, hm⟩) _ rfl hl2 low0 ht2 (sm_len h_plan) trivial h)))⟩) fun h => (h trivial))
 ·rw [vc57]
  exact ⟨h_tables, ⟨h_plan, (oC h (fun _ h => h) fun _ h => ⟨rfl, ⟨(Int.natCast_nonneg _), ⟨(sm_limI h_plan rfl), (oG h fun _ h => (oG h fun _ h => (have h := ok_let h _ rfl; (loopW_start (fun m hm => ⟨trivial, hm⟩) _ rfl trivial (ok_bind h (fun e0 h hv0 => ⟨rfl, ⟨(Int.natCast_nonneg _), ⟨(sm_limI h_plan rfl), ⟨h_plan, (oL h fun r1 _ h => (loopI_start (fun m hm => ⟨e0, r1, trivial, hm⟩) Z0 _ rfl (Int.natCast_nonneg 0) trivial (ok_then h (fun v2 h hv2 => h) (fun _ h => h.elim))))⟩⟩⟩⟩))))))⟩⟩⟩)⟩⟩
def c28 : Con := ⟨[.dat TTb, .dat TSS], fun args hp K => g2 (pD TTb) (pD TSS) (fun tables plan => (Sm TTb tables) ∧ (Sm TSS plan) ∧ (∀ r : LS, r = (M.planBest tables plan) → K (.data TSS r) [])) args hp, .plain⟩
@[reducible] def C28 : Ctx := cx [(25, c25), (57, c57)] 58 [] 0 false
def ann28 := an [[kp 3], [kp 33], [.freeze 14, kp 97], [kp 2097249], [kp 97], [kp 225], [.freeze 14, kp 481], [kp 536871393], [kp 481], [.freeze 14, kp 993], [kp 549755814881], [.ren 5 14, .freeze 14, kp 993], [kp 4065], [kp 1125899906844641], [kp 865], [kp 993], [.keep [0, 5, 6, 55]], [kp 16], [kp 16]] [[kp 32], [], [kp 225], [], [kp 481]]
@[reducible] def s28_0 (tables : LTb) (plan : LS) (v0 : LS × Int) : St := ⟨[(0, .data TTb tables), (5, .data TSS v0.1), (6, dI v0.2)], []⟩
@[reducible] def LP28_0 (tables : LTb) (plan : LS) (m : Nat) (st_ : St) (K : KX) : Prop := True ∧ LoopW (s28_0 tables plan) (F.spec_PlanBest_l0 tables plan) (fun v0 : LS × Int => True) (outD (fun e0 : LS => True → K (.exit 0) (⟨[(5, .data TSS e0)], []⟩ : St)) (fun q0 : LS => K .ret (⟨[(4, .data TSS q0)], []⟩ : St))) m st_
@[reducible] def s28_2 (tables : LTb) (plan : LS) (c2_0 : Int) (v2 : LS × Bool × Int) : St := ⟨[(0, .data TTb tables), (5, .data TSS v2.1), (6, dI c2_0), (7, dB v2.2.1), (8, dI v2.2.2)], []⟩
@[reducible] def LP28_2 (tables : LTb) (plan : LS) (m : Nat) (st_ : St) (K : KX) : Prop := ∃ c2_0 : Int, True ∧ LoopW (s28_2 tables plan c2_0) (F.spec_PlanBest_l2 tables plan c2_0) (fun v2 : LS × Bool × Int => True) (fun e2 : LS × Bool => True → K (.exit 2) (⟨[(0, .data TTb tables), (5, .data TSS e2.1), (6, dI c2_0), (7, dB e2.2)], []⟩ : St)) m st_
@[reducible] def s28_4 (tables : LTb) (plan : LS) (c4_0 : Int) (c4_1 : Int) (v4 : LS × Bool × Int) : St := ⟨[(0, .data TTb tables), (5, .data TSS v4.1), (6, dI c4_0), (7, dB v4.2.1), (8, dI c4_1), (9, dI v4.2.2)], []⟩
@[reducible] def LP28_4 (tables : LTb) (plan : LS) (m : Nat) (st_ : St) (K : KX) : Prop := ∃ c4_0 : Int, ∃ c4_1 : Int, True ∧ LoopW (s28_4 tables plan c4_0 c4_1) (F.spec_PlanBest_l4 tables plan c4_0 c4_1) (fun v4 : LS × Bool × Int => True) (fun e4 : LS × Bool => True → K (.exit 4) (⟨[(0, .data TTb tables), (5, .data TSS e4.1), (6, dI c4_0), (7, dB e4.2), (8, dI c4_1)], []⟩ : St)) m st_
def L28 (tables : LTb) (plan : LS) : Loops := fun id m st_ K => match id with
 | 0 => LP28_0 tables plan m st_ K
 | 2 => LP28_2 tables plan m st_ K
 | 4 => LP28_4 tables plan m st_ K
 | _ => False
theorem vc28 (tables : LTb) (plan : LS) (K : KA) : vcT C28 (L28 tables plan) ann28 f28 [.data TTb tables, .data TSS plan] [] (.dat TSS) K =
 ((Sm TTb tables) ∧ (Sm TSS plan) ∧ (∀ r1 : LS, r1 = (M.planTidy tables plan) → (∃ m_, True ∧ LoopW (s28_0 tables plan) (F.spec_PlanBest_l0 tables plan) (fun v0 : LS × Int => True) (outD (fun e0 : LS => True → K (.data TSS e0) []) (fun q0 : LS => K (.data TSS q0) [])) m_ (s28_0 tables plan (r1, Z0))))) := by kernel_rfl
theorem lvc28_0 (tables : LTb) (plan : LS)  (v0 : LS × Int) (m : Nat) (K : KX) : lvT C28 (L28 tables plan) ann28 f28 0 0 (s28_0 tables plan v0) m K =
 (cond ((decide (v0.2 < (12 : Int))) == true) (cond (decide (Z0 < (v0.1.length : Int))) (∃ m_, ∃ c2_0 : Int, True ∧ LoopW (s28_2 tables plan c2_0) (F.spec_PlanBest_l2 tables plan c2_0) (fun v2 : LS × Bool × Int => True) (fun e2 : LS × Bool => True → cond (!e2.2) (K .ret (⟨[(4, .data TSS e2.1)], []⟩ : St)) (nxT (LP28_0 tables plan) m K (s28_0 tables plan (e2.1, wrap64 (c2_0 + Z1))))) m_ (s28_2 tables plan v0.2 (v0.1, false, Z1))) (K (.exit 0) (⟨[(5, .data TSS v0.1)], []⟩ : St))) (K (.exit 0) (⟨[(5, .data TSS v0.1)], []⟩ : St))) := by kernel_rfl
@[reducible] def S28l2_0 (tables : LTb) (plan : LS) (c2_0 : Int) (v2 : LS × Bool × Int) (m : Nat) (K : KX) : Prop := K (.exit 2) (⟨[(0, .data TTb tables), (5, .data TSS v2.1), (6, dI c2_0), (7, dB v2.2.1)], []⟩ : St)
theorem lvc28_1 (tables : LTb) (plan : LS) (c2_0 : Int) (v2 : LS × Bool × Int) (m : Nat) (K : KX) : lvT C28 (L28 tables plan) ann28 f28 1 2 (s28_2 tables plan c2_0 v2) m K =
 (cond ((decide (v2.2.2 ≤ (7 : Int))) == true) (cond (!v2.2.1) (∃ m_, ∃ c4_0 : Int, ∃ c4_1 : Int, True ∧ LoopW (s28_4 tables plan c4_0 c4_1) (F.spec_PlanBest_l4 tables plan c4_0 c4_1) (fun v4 : LS × Bool × Int => True) (fun e4 : LS × Bool => True → (nxT (LP28_2 tables plan) m K (s28_2 tables plan c4_0 (e4.1, e4.2, wrap64 (c4_1 + Z1))))) m_ (s28_4 tables plan c2_0 v2.2.2 (v2.1, v2.2.1, Z0))) (S28l2_0  tables plan c2_0 v2 m K)) (S28l2_0  tables plan c2_0 v2 m K)) := by kernel_rfl
@[reducible] def S28l4_0 (tables : LTb) (plan : LS) (c4_0 : Int) (c4_1 : Int) (v4 : LS × Bool × Int) (m : Nat) (K : KX) : Prop := K (.exit 4) (⟨[(0, .data TTb tables), (5, .data TSS v4.1), (6, dI c4_0), (7, dB v4.2.1), (8, dI c4_1)], []⟩ : St)
theorem lvc28_2 (tables : LTb) (plan : LS) (c4_0 : Int) (c4_1 : Int) (v4 : LS × Bool × Int) (m : Nat) (K : KX) : lvT C28 (L28 tables plan) ann28 f28 2 4 (s28_4 tables plan c4_0 c4_1 v4) m K =
 (cond ((decide (v4.2.2 < (v4.1.length : Int))) == true) (cond (!v4.2.1) ((Sm TTb tables) ∧ (Sm TSS v4.1) ∧ (∀ r2 : LS × Bool, r2 = (M.planTurned tables v4.1 v4.2.2 c4_1) → cond r2.2 ((Sm TTb tables) ∧ (Sm TSS r2.1) ∧ (∀ r3 : LS, r3 = (M.planTidy tables r2.1) → (nxT (LP28_4 tables plan) m K (s28_4 tables plan c4_0 c4_1 (r3, true, wrap64 (v4.2.2 + Z1)))))) (nxT (LP28_4 tables plan) m K (s28_4 tables plan c4_0 c4_1 (v4.1, v4.2.1, wrap64 (v4.2.2 + Z1)))))) (S28l4_0  tables plan c4_0 c4_1 v4 m K)) (S28l4_0  tables plan c4_0 c4_1 v4 m K)) := by kernel_rfl
theorem con28_ok : Con1 P 28 c28 := conR C28 func28 (kC con25_ok (kC con57_ok kN)) fun args hp K h0 => by
 obtain ⟨tables, plan, rfl, rfl, h_tables, h_plan, hK⟩ := g2e h0
 have h : ok (F.spec_PlanBest tables plan) (fun r => K (.data TSS r) []) := ok_of_eq (F.spec_PlanBest_eq tables plan h_tables h_plan) (hK _ rfl)
 refine ⟨rfl, ann28, (L28 tables plan), (.dat TSS), (loopsN3 (i0 := 0) (i1 := 2) (i2 := 4) (by kernel_rfl) ?_ ?_ ?_), ?_⟩
 ·rintro _ _ K ⟨hc0, v0, rfl, hv0, h⟩
  exact cast (lvc28_0 _ _ _ _ _).symm (loopW_step h (fun m1 hm0 h => (oC h (fun _ h => (oC h (fun _ h => (loopW_start (fun m hm => ⟨v0.2, trivial, hm⟩) _ rfl trivial (ok_bind h (fun e2 h hv2 => (oC h (fun _ h => h) fun _ h => (loopW_next (fun _ hm => ⟨hc0, hm⟩) hm0 _ rfl trivial h)))))) fun _ h => ((ok_ret h :) trivial))) fun _ h => ((ok_ret h :) trivial))))
 ·rintro _ _ K ⟨c2_0, hc2, v2, rfl, hv2, h⟩
  exact cast (lvc28_1 _ _ _ _ _ _).symm (loopW_step h (fun m1 hm2 h => (oC h (fun _ h => (oC h (fun _ h => (loopW_start (fun m hm => ⟨c2_0, v2.2.2, trivial, hm⟩) _ rfl trivial (ok_bind h (fun e4 h hv4 => (loopW_next (fun _ hm => ⟨c2_0, hc2, hm⟩) hm2 _ rfl trivial h))))) fun _ h => ((ok_ret h :) trivial))) fun _ h => ((ok_ret h :) trivial))))
 ·rintro _ _ K ⟨c4_0, c4_1, hc4, v4, rfl, hv4, h⟩
  exact cast (lvc28_2 _ _ _ _ _ _ _).symm (loopW_step h (fun m1 hm4 h => (oC h (fun _ h => (oC h (fun _ h => ⟨h_tables, (oG h fun _ h => (oL h fun _ _ h => (oC h (fun _ h => ⟨h_tables, (oG h fun _ h => (oL h fun _ _ h => (loopW_next (fun _ hm => ⟨c4_0, c4_1, hc4, hm⟩) hm4 _ rfl trivial h)))⟩) fun _ h => (loopW_next (fun _ hm => ⟨c4_0, c4_1, hc4, hm⟩) hm4 _ rfl trivial h))))⟩) fun _ h => ((ok_ret h :) trivial))) fun _ h => ((ok_ret h :) trivial))))
 ·rw [vc28]
  exact ⟨h_tables, ⟨h_plan, (oL h fun _ _ h => (loopW_start (fun m hm => ⟨trivial, hm⟩) _ rfl trivial (ok_then h (fun e0 h hv0 => h) (fun q0 h => h))))⟩⟩
def c54 : Con := ⟨[.dat TInt, .dat TInt, .dat TInt], fun args hp K => g3 (pD TInt) (pD TInt) (pD TInt) (fun n low high => K (dB (M.inR n low high)) []) args hp, .plain⟩
@[reducible] def C54 : Ctx := cx [] 15 [] 0 false
def ann54 := an [[kp 7], [kp 64]] []
theorem vc54 (n : Int) (low : Int) (high : Int) (K : KA) : vcT C54 noLoops ann54 f54 [dI n, dI low, dI high] [] (.dat Ty.bool) K =
 (cond ((decide (low ≤ n)) == true) (K (dB (decide (n ≤ high))) []) (K (dB false) [])) := by kernel_rfl
theorem con54_ok : Con1 P 54 c54 := conR C54 func54 kN fun args hp K h0 => by
 obtain ⟨n, low, high, rfl, rfl, hK⟩ := g3e h0
 have h : ok (F.impl_between n low high) (fun r => K (dB r) []) := ok_of_eq (F.impl_between_eq n low high) hK
 refine ⟨rfl, ann54, noLoops, (.dat Ty.bool), (no_loops (by kernel_rfl)), ?_⟩
 ·rw [vc54]
  exact (oC h (fun _ h => h) fun _ h => h)
def c164 : Con := ⟨[.dat TColumn], fun args hp K => g1 (pD TColumn) (fun c => K (dB (!M.columnOk c)) []) args hp, .plain⟩
@[reducible] def C164 : Ctx := cx [(54, c54)] 7 [] 0 false
def ann164 := an [[.fixRow 1 TColumn, kp 2], [kp 4]] []
theorem vc164 (c : TColumn.D) (K : KA) : vcT C164 noLoops ann164 f164 [.data TColumn c] [] (.dat Ty.bool) K =
 (K (dB (!(M.inR c.1 Z1 Z3))) []) := by kernel_rfl
theorem con164_ok : Con1 P 164 c164 := conR C164 func164 (kC con54_ok kN) fun args hp K h0 => by
 obtain ⟨c, rfl, rfl, hK⟩ := g1e h0
 have h : ok (F.impl_ColumnsOk_1 c) (fun r => K (dB r) []) := ok_of_eq (F.impl_ColumnsOk_1_eq c) hK
 refine ⟨rfl, ann164, noLoops, (.dat Ty.bool), (no_loops (by kernel_rfl)), ?_⟩
 ·rw [vc164]
  exact h
def c187 : Con := ⟨[.lent TColumn, .any], fun args hp K => args2 (fun a0 a1 => withB TColumn a0 fun xs => withF 164 a1 (caps0 ((Sm TCS xs) ∧ K (dI (M.idx (t := TColumn) (fun e => !M.columnOk e) xs)) []))) args hp, .plain⟩
@[reducible] def C187 : Ctx := cx [(164, c164)] 19 [] 0 false
def ann187 := an [[kp 3], [kp 387], [kp 899], [kp 419], [kp 65955], [kp 16], [kp 387], [kp 16]] [[kp 0]]
@[reducible] def s187_0 (xs : LC) (i0 : Int) (v0 : Unit) : St := ⟨[(0, .brw TColumn xs), (1, .fn 164 []), (7, dI (xs.length : Int)), (8, dI i0)], []⟩
@[reducible] def LP187_0 (xs : LC) (m : Nat) (st_ : St) (K : KX) : Prop := True ∧ LoopI (s187_0 xs) Z0 (xs.length : Int) (F.IndexFunc_impl_ColumnsOk_1_l0 xs) (fun v0 : Unit => True) (outD (fun v0 : Unit => True → K (.exit 0) (⟨[], []⟩ : St)) (fun q0 : Int => K .ret (⟨[(4, dI q0)], []⟩ : St))) m st_
def L187 (xs : LC) : Loops := lp1 0 (LP187_0 xs)
theorem vc187 (xs : LC) (K : KA) : vcT C187 (L187 xs) ann187 f187 [.brw TColumn xs, .fn 164 []] [] (.dat TInt) K =
 (∃ m_, True ∧ LoopI (s187_0 xs) Z0 (xs.length : Int) (F.IndexFunc_impl_ColumnsOk_1_l0 xs) (fun v0 : Unit => True) (outD (fun v0 : Unit => True → K (dI (-1 : Int)) []) (fun q0 : Int => K (dI q0) [])) m_ (s187_0 xs Z0 ())) := by kernel_rfl
theorem lvc187_0 (xs : LC)  (i0 : Int) (v0 : Unit) (m : Nat) (K : KX) : lvT C187 (L187 xs) ann187 f187 0 0 (s187_0 xs i0 v0) m K =
 (cond (decide (i0 < (xs.length : Int))) ((0 ≤ i0) ∧ (i0 < (xs.length : Int)) ∧ cond (!M.columnOk (nC xs i0)) (K .ret (⟨[(4, dI i0)], []⟩ : St)) (nxT (LP187_0 xs) m K (s187_0 xs (wrap64 (i0 + Z1)) ()))) (K (.exit 0) (⟨[], []⟩ : St))) := by kernel_rfl
theorem con187_ok : Con1 P 187 c187 := conR C187 func187 (kC con164_ok kN) fun args hp K h0 => by
 obtain ⟨a0, a1, rfl, rfl, h1⟩ := args2_elim h0
 obtain ⟨xs, rfl, h2⟩ := withB_elim h1
 obtain ⟨cs1, rfl, h3⟩ := withF_elim h2
 obtain ⟨rfl, h4⟩ := caps0_elim h3
 obtain ⟨h_xs, hK⟩ := h4
 have h : ok (F.IndexFunc_impl_ColumnsOk_1 xs) (fun r => K (dI r) []) := ok_of_eq (F.IndexFunc_impl_ColumnsOk_1_eq xs h_xs) hK
 refine ⟨rfl, ann187, (L187 xs), (.dat TInt), (loopsN1 (i0 := 0) (by kernel_rfl) ?_), ?_⟩
 ·rintro _ _ K ⟨hc0, i0, v0, rfl, hl0, rfl, hv0, h⟩
  exact cast (lvc187_0 _ _ _ _ _).symm (loopI_step h (fun ht0 h => ⟨hl0, ⟨ht0, (oC h (fun _ h => h) fun _ h => (loopI_next (fun _ hm => ⟨hc0, hm⟩) _ rfl hl0 low0 ht0 (sm_len h_xs) trivial h))⟩⟩) fun h => (h trivial))
 ·rw [vc187]
  exact (loopI_start (fun m hm => ⟨trivial, hm⟩) Z0 _ rfl (Int.natCast_nonneg 0) trivial (ok_then h (fun v0 h hv0 => h) (fun q0 h => h)))
def c163 : Con := ⟨[.lent TColumn, .any], fun args hp K => args2 (fun a0 a1 => withB TColumn a0 fun xs => withF 164 a1 (caps0 ((Sm TCS xs) ∧ K (dB (List.any xs (fun e => !M.columnOk e))) []))) args hp, .plain⟩
@[reducible] def C163 : Ctx := cx [(164, c164), (187, c187)] 9 [] 0 false
def ann163 := an [[kp 3], [kp 16]] []
theorem vc163 (xs : LC) (K : KA) : vcT C163 noLoops ann163 f163 [.brw TColumn xs, .fn 164 []] [] (.dat Ty.bool) K =
 ((Sm TCS xs) ∧ K (dB (decide (Z0 ≤ (M.idx (t := TColumn) (fun e => !M.columnOk e) xs)))) []) := by kernel_rfl
theorem con163_ok : Con1 P 163 c163 := conR C163 func163 (kC con164_ok (kC con187_ok kN)) fun args hp K h0 => by
 obtain ⟨a0, a1, rfl, rfl, h1⟩ := args2_elim h0
 obtain ⟨xs, rfl, h2⟩ := withB_elim h1
 obtain ⟨cs1, rfl, h3⟩ := withF_elim h2
 obtain ⟨rfl, h4⟩ := caps0_elim h3
 obtain ⟨h_xs, hK⟩ := h4
 have h : ok (F.ContainsFunc_impl_ColumnsOk_1 xs) (fun r => K (dB r) []) := ok_of_eq (F.ContainsFunc_impl_ColumnsOk_1_eq xs h_xs) hK
 refine ⟨rfl, ann163, noLoops, (.dat Ty.bool), (no_loops (by kernel_rfl)), ?_⟩
 ·rw [vc163]
  exact ⟨h_xs, h⟩
def c138 : Con := ⟨[.dat TCS], fun args hp K => g1 (pD TCS) (fun columns => (Sm TCS columns) ∧ K (dB (M.columnsOk columns)) []) args hp, .plain⟩
@[reducible] def C138 : Ctx := cx [(163, c163)] 11 [] 0 false
def ann138 := an [[kp 1], [kp 4]] []
theorem vc138 (columns : LC) (K : KA) : vcT C138 noLoops ann138 f138 [.data TCS columns] [] (.dat Ty.bool) K =
 (cond ((decide ((columns.length : Int) ≤ Z4)) == true) ((Sm TCS columns) ∧ K (dB (!(List.any columns (fun e => !M.columnOk e)))) []) (K (dB false) [])) := by kernel_rfl
theorem con138_ok : Con1 P 138 c138 := conR C138 func138 (kC con163_ok kN) fun args hp K h0 => by
 obtain ⟨columns, rfl, rfl, h_columns, hK⟩ := g1e h0
 have h : ok (F.impl_ColumnsOk columns) (fun r => K (dB r) []) := ok_of_eq (F.impl_ColumnsOk_eq columns h_columns) hK
 refine ⟨rfl, ann138, noLoops, (.dat Ty.bool), (no_loops (by kernel_rfl)), ?_⟩
 ·rw [vc138]
  exact (oC h (fun _ h => ⟨h_columns, h⟩) fun _ h => h)
def c207 : Con := ⟨[.dat Ty.str], fun args hp K => g1 (pD Ty.str) (fun s => (Sm Ty.str s) ∧ K (dB (M.lower (byteInts s))) []) args hp, .plain⟩
@[reducible] def C207 : Ctx := cx [(54, c54)] 17 [] 0 false
def ann207 := an [[kp 1], [kp 448], [kp 960], [kp 464], [kp 33216], [kp 4], [kp 448], [kp 4]] [[kp 0]]
@[reducible] def s207_0 (s : ByteArray) (i0 : Int) (v0 : Unit) : St := ⟨[(6, .data (Ty.sl (Ty.int .u8)) (byteInts s)), (7, dI ((byteInts s).length : Int)), (8, dI i0)], []⟩
@[reducible] def LP207_0 (s : ByteArray) (m : Nat) (st_ : St) (K : KX) : Prop := True ∧ LoopE (t := (Ty.int .u8)) (s207_0 s) (byteInts s) (F.impl_letters_l0 s) (fun v0 : Unit => True) (outD (fun v0 : Unit => True → K (.exit 0) (⟨[], []⟩ : St)) (fun q0 : Unit => K .ret (⟨[(2, dB false)], []⟩ : St))) m st_
def L207 (s : ByteArray) : Loops := lp1 0 (LP207_0 s)
theorem vc207 (s : ByteArray) (K : KA) : vcT C207 (L207 s) ann207 f207 [.data Ty.str s] [] (.dat Ty.bool) K =
 (∃ m_, True ∧ LoopE (t := (Ty.int .u8)) (s207_0 s) (byteInts s) (F.impl_letters_l0 s) (fun v0 : Unit => True) (outD (fun v0 : Unit => True → K (dB true) []) (fun q0 : Unit => K (dB false) [])) m_ (s207_0 s Z0 ())) := by kernel_rfl
theorem lvc207_0 (s : ByteArray)  (i0 : Int) (v0 : Unit) (m : Nat) (K : KX) : lvT C207 (L207 s) ann207 f207 0 0 (s207_0 s i0 v0) m K =
 (cond (decide (i0 < ((byteInts s).length : Int))) ((0 ≤ i0) ∧ (i0 < ((byteInts s).length : Int)) ∧ cond (!(M.inR (wrap64 (nth (t := (Ty.int .u8)) (byteInts s) i0)) (97 : Int) (122 : Int))) (K .ret (⟨[(2, dB false)], []⟩ : St)) (nxT (LP207_0 s) m K (s207_0 s (wrap64 (i0 + Z1)) ()))) (K (.exit 0) (⟨[], []⟩ : St))) := by kernel_rfl
theorem con207_ok : Con1 P 207 c207 := conR C207 func207 (kC con54_ok kN) fun args hp K h0 => by
 obtain ⟨s, rfl, rfl, h_s, hK⟩ := g1e h0
 have h : ok (F.impl_letters s) (fun r => K (dB r) []) := ok_of_eq (F.impl_letters_eq s h_s) hK
 refine ⟨rfl, ann207, (L207 s), (.dat Ty.bool), (loopsN1 (i0 := 0) (by kernel_rfl) ?_), ?_⟩
 ·rintro _ _ K ⟨hc0, i0, v0, rfl, hl0, rfl, hv0, h⟩
  exact cast (lvc207_0 _ _ _ _ _).symm (loopE_step (t := (Ty.int .u8)) hl0 h (fun ht0 h => ⟨hl0, ⟨ht0, (oC h (fun _ h => h) fun _ h => (loopE_next (t := (Ty.int .u8)) (fun _ hm => ⟨hc0, hm⟩) _ rfl hl0 ht0 (sm_len (sm_bytes h_s)) trivial h))⟩⟩) fun h => (h trivial))
 ·rw [vc207]
  exact (loopE_start (t := (Ty.int .u8)) (fun m hm => ⟨trivial, hm⟩) _ rfl trivial (ok_then h (fun v0 h hv0 => h) (fun q0 h => h)))
def c190 : Con := ⟨[.dat TValue], fun args hp K => g1 (pD TValue) (fun v => (Sm TValue v) ∧ K (dB (M.valueOk v)) []) args hp, .plain⟩
@[reducible] def C190 : Ctx := cx [(54, c54), (207, c207)] 46 [] 0 false
def ann190 := an [[.fixRow 1 TValue, kp 2], [kp 18], [kp 50], [kp 4], [kp 1042], [kp 4], [kp 1048594], [kp 4], [.keep [1, 36]], [kp 4], [kp 4]] []
theorem vc190 (v : TValue.D) (K : KA) : vcT C190 noLoops ann190 f190 [.data TValue v] [] (.dat Ty.bool) K =
 (cond (decide (v.1 = Z0)) (K (dB (Ty.beq TValue v (Z0, (Z0, ((⟨#[]⟩ : ByteArray), ()))))) []) (cond (decide (v.1 = Z1)) (cond ((decide (v.2.2.1 = (⟨#[]⟩ : ByteArray))) == true) (K (dB (M.inR v.2.1 (-9999 : Int) (9999 : Int))) []) (K (dB false) [])) (cond (decide (v.1 = Z2)) (cond ((decide (v.2.1 = Z0)) == true) (cond ((decide ((v.2.2.1.size : Int) ≤ Z6)) == true) ((Sm Ty.str v.2.2.1) ∧ K (dB (M.lower (byteInts v.2.2.1))) []) (K (dB false) [])) (K (dB false) [])) (cond (decide (v.1 = Z3)) (cond ((decide (v.2.2.1 = (⟨#[]⟩ : ByteArray))) == true) (K (dB (M.inR v.2.1 Z0 Z1)) []) (K (dB false) [])) (K (dB false) []))))) := by kernel_rfl
theorem con190_ok : Con1 P 190 c190 := conR C190 func190 (kC con54_ok (kC con207_ok kN)) fun args hp K h0 => by
 obtain ⟨v, rfl, rfl, h_v, hK⟩ := g1e h0
 have h : ok (F.impl_Value_ok v) (fun r => K (dB r) []) := ok_of_eq (F.impl_Value_ok_eq v h_v) hK
 refine ⟨rfl, ann190, noLoops, (.dat Ty.bool), (no_loops (by kernel_rfl)), ?_⟩
 ·rw [vc190]
  exact (oC h (fun _ h => h) fun _ h => (oC h (fun _ h => (oC h (fun _ h => h) fun _ h => h)) fun _ h => (oC h (fun _ h => (oC h (fun _ h => (oC h (fun _ h => ⟨h_v.2.2.1, h⟩) fun _ h => h)) fun _ h => h)) fun _ h => (oC h (fun _ h => (oC h (fun _ h => h) fun _ h => h)) fun _ h => h))))
def c206 : Con := ⟨[.dat TValue], fun args hp K => g1 (pD TValue) (fun v => (Sm TValue v) ∧ K (dB (!M.valueOk v)) []) args hp, .plain⟩
@[reducible] def C206 : Ctx := cx [(190, c190)] 6 [] 0 false
def ann206 := an [[.fixRow 1 TValue, kp 2], [kp 4]] []
theorem vc206 (v : TValue.D) (K : KA) : vcT C206 noLoops ann206 f206 [.data TValue v] [] (.dat Ty.bool) K =
 ((Sm TValue v) ∧ K (dB (!(M.valueOk v))) []) := by kernel_rfl
theorem con206_ok : Con1 P 206 c206 := conR C206 func206 (kC con190_ok kN) fun args hp K h0 => by
 obtain ⟨v, rfl, rfl, h_v, hK⟩ := g1e h0
 have h : ok (F.impl_RowOk_1 v) (fun r => K (dB r) []) := ok_of_eq (F.impl_RowOk_1_eq v h_v) hK
 refine ⟨rfl, ann206, noLoops, (.dat Ty.bool), (no_loops (by kernel_rfl)), ?_⟩
 ·rw [vc206]
  exact ⟨h_v, h⟩
def c213 : Con := ⟨[.lent TValue, .any], fun args hp K => args2 (fun a0 a1 => withB TValue a0 fun xs => withF 206 a1 (caps0 ((Sm TVS xs) ∧ K (dI (M.idx (t := TValue) (fun e => !M.valueOk e) xs)) []))) args hp, .plain⟩
@[reducible] def C213 : Ctx := cx [(206, c206)] 19 [] 0 false
def ann213 := an [[kp 3], [kp 387], [kp 899], [kp 419], [kp 65955], [kp 16], [kp 387], [kp 16]] [[kp 0]]
@[reducible] def s213_0 (xs : LV) (i0 : Int) (v0 : Unit) : St := ⟨[(0, .brw TValue xs), (1, .fn 206 []), (7, dI (xs.length : Int)), (8, dI i0)], []⟩
@[reducible] def LP213_0 (xs : LV) (m : Nat) (st_ : St) (K : KX) : Prop := True ∧ LoopI (s213_0 xs) Z0 (xs.length : Int) (F.IndexFunc_impl_RowOk_1_l0 xs) (fun v0 : Unit => True) (outD (fun v0 : Unit => True → K (.exit 0) (⟨[], []⟩ : St)) (fun q0 : Int => K .ret (⟨[(4, dI q0)], []⟩ : St))) m st_
def L213 (xs : LV) : Loops := lp1 0 (LP213_0 xs)
theorem vc213 (xs : LV) (K : KA) : vcT C213 (L213 xs) ann213 f213 [.brw TValue xs, .fn 206 []] [] (.dat TInt) K =
 (∃ m_, True ∧ LoopI (s213_0 xs) Z0 (xs.length : Int) (F.IndexFunc_impl_RowOk_1_l0 xs) (fun v0 : Unit => True) (outD (fun v0 : Unit => True → K (dI (-1 : Int)) []) (fun q0 : Int => K (dI q0) [])) m_ (s213_0 xs Z0 ())) := by kernel_rfl
theorem lvc213_0 (xs : LV)  (i0 : Int) (v0 : Unit) (m : Nat) (K : KX) : lvT C213 (L213 xs) ann213 f213 0 0 (s213_0 xs i0 v0) m K =
 (cond (decide (i0 < (xs.length : Int))) ((0 ≤ i0) ∧ (i0 < (xs.length : Int)) ∧ (Sm TValue (nV xs i0)) ∧ cond (!M.valueOk (nV xs i0)) (K .ret (⟨[(4, dI i0)], []⟩ : St)) (nxT (LP213_0 xs) m K (s213_0 xs (wrap64 (i0 + Z1)) ()))) (K (.exit 0) (⟨[], []⟩ : St))) := by kernel_rfl
theorem con213_ok : Con1 P 213 c213 := conR C213 func213 (kC con206_ok kN) fun args hp K h0 => by
 obtain ⟨a0, a1, rfl, rfl, h1⟩ := args2_elim h0
 obtain ⟨xs, rfl, h2⟩ := withB_elim h1
 obtain ⟨cs1, rfl, h3⟩ := withF_elim h2
 obtain ⟨rfl, h4⟩ := caps0_elim h3
 obtain ⟨h_xs, hK⟩ := h4
 have h : ok (F.IndexFunc_impl_RowOk_1 xs) (fun r => K (dI r) []) := ok_of_eq (F.IndexFunc_impl_RowOk_1_eq xs h_xs) hK
 refine ⟨rfl, ann213, (L213 xs), (.dat TInt), (loopsN1 (i0 := 0) (by kernel_rfl) ?_), ?_⟩
 ·rintro _ _ K ⟨hc0, i0, v0, rfl, hl0, rfl, hv0, h⟩
  exact cast (lvc213_0 _ _ _ _ _).symm (loopI_step h (fun ht0 h => ⟨hl0, ⟨ht0, ⟨(sm_nth h_xs i0), (oC h (fun _ h => h) fun _ h => (loopI_next (fun _ hm => ⟨hc0, hm⟩) _ rfl hl0 low0 ht0 (sm_len h_xs) trivial h))⟩⟩⟩) fun h => (h trivial))
 ·rw [vc213]
  exact (loopI_start (fun m hm => ⟨trivial, hm⟩) Z0 _ rfl (Int.natCast_nonneg 0) trivial (ok_then h (fun v0 h hv0 => h) (fun q0 h => h)))
def c205 : Con := ⟨[.lent TValue, .any], fun args hp K => args2 (fun a0 a1 => withB TValue a0 fun xs => withF 206 a1 (caps0 ((Sm TVS xs) ∧ K (dB (List.any xs (fun e => !M.valueOk e))) []))) args hp, .plain⟩
@[reducible] def C205 : Ctx := cx [(206, c206), (213, c213)] 9 [] 0 false
def ann205 := an [[kp 3], [kp 16]] []
theorem vc205 (xs : LV) (K : KA) : vcT C205 noLoops ann205 f205 [.brw TValue xs, .fn 206 []] [] (.dat Ty.bool) K =
 ((Sm TVS xs) ∧ K (dB (decide (Z0 ≤ (M.idx (t := TValue) (fun e => !M.valueOk e) xs)))) []) := by kernel_rfl
theorem con205_ok : Con1 P 205 c205 := conR C205 func205 (kC con206_ok (kC con213_ok kN)) fun args hp K h0 => by
 obtain ⟨a0, a1, rfl, rfl, h1⟩ := args2_elim h0
 obtain ⟨xs, rfl, h2⟩ := withB_elim h1
 obtain ⟨cs1, rfl, h3⟩ := withF_elim h2
 obtain ⟨rfl, h4⟩ := caps0_elim h3
 obtain ⟨h_xs, hK⟩ := h4
 have h : ok (F.ContainsFunc_impl_RowOk_1 xs) (fun r => K (dB r) []) := ok_of_eq (F.ContainsFunc_impl_RowOk_1_eq xs h_xs) hK
 refine ⟨rfl, ann205, noLoops, (.dat Ty.bool), (no_loops (by kernel_rfl)), ?_⟩
 ·rw [vc205]
  exact ⟨h_xs, h⟩
def c189 : Con := ⟨[.dat TVS], fun args hp K => g1 (pD TVS) (fun row => (Sm TVS row) ∧ K (dB (M.rowOk row)) []) args hp, .plain⟩
@[reducible] def C189 : Ctx := cx [(205, c205)] 11 [] 0 false
def ann189 := an [[kp 1], [kp 4]] []
theorem vc189 (row : LV) (K : KA) : vcT C189 noLoops ann189 f189 [.data TVS row] [] (.dat Ty.bool) K =
 (cond ((decide ((row.length : Int) ≤ Z4)) == true) ((Sm TVS row) ∧ K (dB (!(List.any row (fun e => !M.valueOk e)))) []) (K (dB false) [])) := by kernel_rfl
theorem con189_ok : Con1 P 189 c189 := conR C189 func189 (kC con205_ok kN) fun args hp K h0 => by
 obtain ⟨row, rfl, rfl, h_row, hK⟩ := g1e h0
 have h : ok (F.impl_RowOk row) (fun r => K (dB r) []) := ok_of_eq (F.impl_RowOk_eq row h_row) hK
 refine ⟨rfl, ann189, noLoops, (.dat Ty.bool), (no_loops (by kernel_rfl)), ?_⟩
 ·rw [vc189]
  exact (oC h (fun _ h => ⟨h_row, h⟩) fun _ h => h)
def c167 : Con := ⟨[.dat TCS, .dat TVS], fun args hp K => g2 (pD TCS) (pD TVS) (fun columns row => (Sm TCS columns) ∧ (Sm TVS row) ∧ K (dB (M.rowFits columns row)) []) args hp, .plain⟩
@[reducible] def C167 : Ctx := cx [(138, c138), (189, c189)] 51 [] 0 false
def ann167 := an [[kp 3], [kp 2097155], [kp 16], [kp 29360129], [kp 62914561], [.fixRow 6 TValue, kp 29360225], [kp 562949982781441], [kp 16], [kp 29360129], [kp 16]] [[kp 0]]
@[reducible] def s167_0 (columns : LC) (row : LV) (i0 : Int) (v0 : Unit) : St := ⟨[(0, .data TCS columns), (22, .data TVS row), (23, dI (row.length : Int)), (24, dI i0)], []⟩
@[reducible] def LP167_0 (columns : LC) (row : LV) (m : Nat) (st_ : St) (K : KX) : Prop := True ∧ LoopI (s167_0 columns row) Z0 (row.length : Int) (F.impl_RowFits_l0 columns row) (fun v0 : Unit => True) (outD (fun v0 : Unit => True → K (.exit 0) (⟨[], []⟩ : St)) (fun q0 : Unit => K .ret (⟨[(4, dB false)], []⟩ : St))) m st_
def L167 (columns : LC) (row : LV) : Loops := lp1 0 (LP167_0 columns row)
theorem vc167 (columns : LC) (row : LV) (K : KA) : vcT C167 (L167 columns row) ann167 f167 [.data TCS columns, .data TVS row] [] (.dat Ty.bool) K =
 ((Sm TCS columns) ∧ cond ((!(M.columnsOk columns)) == false) ((Sm TVS row) ∧ cond ((!(M.rowOk row)) == false) (cond (!decide ((row.length : Int) = (columns.length : Int))) (K (dB false) []) (∃ m_, True ∧ LoopI (s167_0 columns row) Z0 (row.length : Int) (F.impl_RowFits_l0 columns row) (fun v0 : Unit => True) (outD (fun v0 : Unit => True → K (dB true) []) (fun q0 : Unit => K (dB false) [])) m_ (s167_0 columns row Z0 ()))) (K (dB false) [])) (K (dB false) [])) := by kernel_rfl
theorem lvc167_0 (columns : LC) (row : LV)  (i0 : Int) (v0 : Unit) (m : Nat) (K : KX) : lvT C167 (L167 columns row) ann167 f167 0 0 (s167_0 columns row i0 v0) m K =
 (cond (decide (i0 < (row.length : Int))) ((0 ≤ i0) ∧ (i0 < (row.length : Int)) ∧ (0 ≤ i0) ∧ (i0 < (columns.length : Int)) ∧ cond ((!decide ((nV row i0).1 = (nC columns i0).1)) == true) (cond ((!decide ((nV row i0).1 = Z0)) == false) ((0 ≤ i0) ∧ (i0 < (columns.length : Int)) ∧ cond (!(nC columns i0).2.1) (K .ret (⟨[(4, dB false)], []⟩ : St)) (nxT (LP167_0 columns row) m K (s167_0 columns row (wrap64 (i0 + Z1)) ()))) (K .ret (⟨[(4, dB false)], []⟩ : St))) (nxT (LP167_0 columns row) m K (s167_0 columns row (wrap64 (i0 + Z1)) ()))) (K (.exit 0) (⟨[], []⟩ : St))) := by kernel_rfl
theorem con167_ok : Con1 P 167 c167 := conR C167 func167 (kC con138_ok (kC con189_ok kN)) fun args hp K h0 => by
 obtain ⟨columns, row, rfl, rfl, h_columns, h_row, hK⟩ := g2e h0
 have h : ok (F.impl_RowFits columns row) (fun r => K (dB r) []) := ok_of_eq (F.impl_RowFits_eq columns row h_columns h_row) hK
 refine ⟨rfl, ann167, (L167 columns row), (.dat Ty.bool), (loopsN1 (i0 := 0) (by kernel_rfl) ?_), ?_⟩
 ·rintro _ _ K ⟨hc0, i0, v0, rfl, hl0, rfl, hv0, h⟩
  exact cast (lvc167_0 _ _ _ _ _ _).symm (loopI_step h (fun ht0 h => ⟨hl0, ⟨ht0, ⟨hl0, (oG h fun g1 h => (oC h (fun _ h => (oC h (fun _ h => ⟨hl0, ⟨g1, (oC h (fun _ h => h) fun _ h => (loopI_next (fun _ hm => ⟨hc0, hm⟩) _ rfl hl0 low0 ht0 (sm_len h_row) trivial h))⟩⟩) fun _ h => h)) fun _ h => (loopI_next (fun _ hm => ⟨hc0, hm⟩) _ rfl hl0 low0 ht0 (sm_len h_row) trivial h)))⟩⟩⟩) fun h => (h trivial))
 ·rw [vc167]
  exact ⟨h_columns, (oC h (fun _ h => ⟨h_row, (oC h (fun _ h => (oC h (fun _ h => h) fun _ h => (loopI_start (fun m hm => ⟨trivial, hm⟩) Z0 _ rfl (Int.natCast_nonneg 0) trivial (ok_then h (fun v0 h hv0 => h) (fun q0 h => h))))) fun _ h => h)⟩) fun _ h => h)⟩
def c166 : Con := ⟨[.dat TVS, .any], fun args hp K => g2 (pD TVS) (pR TCS) (fun r columns => (Sm TVS r) ∧ (Sm TCS columns) ∧ K (dB (!M.rowFits columns r)) []) args hp, .plain⟩
@[reducible] def C166 : Ctx := cx [(167, c167)] 8 [] 0 false
def ann166 := an [[kp 3], [kp 8]] []
theorem vc166 (r : LV) (columns : LC) (K : KA) : vcT C166 noLoops ann166 f166 [.data TVS r, .ref (.data TCS columns)] [] (.dat Ty.bool) K =
 ((Sm TCS columns) ∧ (Sm TVS r) ∧ K (dB (!(M.rowFits columns r))) []) := by kernel_rfl
theorem con166_ok : Con1 P 166 c166 := conR C166 func166 (kC con167_ok kN) fun args hp K h0 => by
 obtain ⟨r, columns, rfl, rfl, h_r, h_columns, hK⟩ := g2e h0
 have h : ok (F.impl_RowsOk_1 r columns) (fun r => K (dB r) []) := ok_of_eq (F.impl_RowsOk_1_eq r columns h_r h_columns) hK
 refine ⟨rfl, ann166, noLoops, (.dat Ty.bool), (no_loops (by kernel_rfl)), ?_⟩
 ·rw [vc166]
  exact ⟨h_columns, ⟨h_r, h⟩⟩
def c188 : Con := ⟨[.lent TVS, .any], fun args hp K => args2 (fun a0 a1 => withB TVS a0 fun xs => withF 166 a1 (caps1 (fun b1_0 => withR TCS b1_0 fun k0 => (Sm (Ty.sl TVS) xs) ∧ (Sm TCS k0) ∧ K (dI (M.idx (t := TVS) (fun e => !M.rowFits k0 e) xs)) []))) args hp, .plain⟩
@[reducible] def C188 : Ctx := cx [(166, c166)] 19 [] 0 false
def ann188 := an [[kp 3], [kp 387], [kp 899], [kp 419], [kp 65955], [kp 16], [kp 387], [kp 16]] [[kp 0]]
@[reducible] def s188_0 (xs : (List LV)) (k0 : LC) (i0 : Int) (v0 : Unit) : St := ⟨[(0, .brw TVS xs), (1, .fn 166 [.ref (.data TCS k0)]), (7, dI (xs.length : Int)), (8, dI i0)], []⟩
@[reducible] def LP188_0 (xs : (List LV)) (k0 : LC) (m : Nat) (st_ : St) (K : KX) : Prop := True ∧ LoopI (s188_0 xs k0) Z0 (xs.length : Int) (F.IndexFunc_impl_RowsOk_1_l0 xs k0) (fun v0 : Unit => True) (outD (fun v0 : Unit => True → K (.exit 0) (⟨[], []⟩ : St)) (fun q0 : Int => K .ret (⟨[(4, dI q0)], []⟩ : St))) m st_
def L188 (xs : (List LV)) (k0 : LC) : Loops := lp1 0 (LP188_0 xs k0)
theorem vc188 (xs : (List LV)) (k0 : LC) (K : KA) : vcT C188 (L188 xs k0) ann188 f188 [.brw TVS xs, .fn 166 [.ref (.data TCS k0)]] [] (.dat TInt) K =
 (∃ m_, True ∧ LoopI (s188_0 xs k0) Z0 (xs.length : Int) (F.IndexFunc_impl_RowsOk_1_l0 xs k0) (fun v0 : Unit => True) (outD (fun v0 : Unit => True → K (dI (-1 : Int)) []) (fun q0 : Int => K (dI q0) [])) m_ (s188_0 xs k0 Z0 ())) := by kernel_rfl
theorem lvc188_0 (xs : (List LV)) (k0 : LC)  (i0 : Int) (v0 : Unit) (m : Nat) (K : KX) : lvT C188 (L188 xs k0) ann188 f188 0 0 (s188_0 xs k0 i0 v0) m K =
 (cond (decide (i0 < (xs.length : Int))) ((0 ≤ i0) ∧ (i0 < (xs.length : Int)) ∧ (Sm TVS (nth (t := TVS) xs i0)) ∧ (Sm TCS k0) ∧ cond (!M.rowFits k0 (nth (t := TVS) xs i0)) (K .ret (⟨[(4, dI i0)], []⟩ : St)) (nxT (LP188_0 xs k0) m K (s188_0 xs k0 (wrap64 (i0 + Z1)) ()))) (K (.exit 0) (⟨[], []⟩ : St))) := by kernel_rfl
theorem con188_ok : Con1 P 188 c188 := conR C188 func188 (kC con166_ok kN) fun args hp K h0 => by
 obtain ⟨a0, a1, rfl, rfl, h1⟩ := args2_elim h0
 obtain ⟨xs, rfl, h2⟩ := withB_elim h1
 obtain ⟨cs1, rfl, h3⟩ := withF_elim h2
 obtain ⟨b1_0, rfl, h4⟩ := caps1_elim h3
 obtain ⟨k0, rfl, h5⟩ := withR_elim h4
 obtain ⟨h_xs, h_k0, hK⟩ := h5
 have h : ok (F.IndexFunc_impl_RowsOk_1 xs k0) (fun r => K (dI r) []) := ok_of_eq (F.IndexFunc_impl_RowsOk_1_eq xs k0 h_xs h_k0) hK
 refine ⟨rfl, ann188, (L188 xs k0), (.dat TInt), (loopsN1 (i0 := 0) (by kernel_rfl) ?_), ?_⟩
 ·rintro _ _ K ⟨hc0, i0, v0, rfl, hl0, rfl, hv0, h⟩
  exact cast (lvc188_0 _ _ _ _ _ _).symm (loopI_step h (fun ht0 h => ⟨hl0, ⟨ht0, ⟨(sm_nth h_xs i0), ⟨h_k0, (oC h (fun _ h => h) fun _ h => (loopI_next (fun _ hm => ⟨hc0, hm⟩) _ rfl hl0 low0 ht0 (sm_len h_xs) trivial h))⟩⟩⟩⟩) fun h => (h trivial))
 ·rw [vc188]
  exact (loopI_start (fun m hm => ⟨trivial, hm⟩) Z0 _ rfl (Int.natCast_nonneg 0) trivial (ok_then h (fun v0 h hv0 => h) (fun q0 h => h)))
def c165 : Con := ⟨[.lent TVS, .any], fun args hp K => args2 (fun a0 a1 => withB TVS a0 fun xs => withF 166 a1 (caps1 (fun b1_0 => withR TCS b1_0 fun k0 => (Sm (Ty.sl TVS) xs) ∧ (Sm TCS k0) ∧ K (dB (List.any xs (fun e => !M.rowFits k0 e))) []))) args hp, .plain⟩
@[reducible] def C165 : Ctx := cx [(166, c166), (188, c188)] 9 [] 0 false
def ann165 := an [[kp 3], [kp 16]] []
theorem vc165 (xs : (List LV)) (k0 : LC) (K : KA) : vcT C165 noLoops ann165 f165 [.brw TVS xs, .fn 166 [.ref (.data TCS k0)]] [] (.dat Ty.bool) K =
 ((Sm (Ty.sl TVS) xs) ∧ (Sm TCS k0) ∧ K (dB (decide (Z0 ≤ (M.idx (t := TVS) (fun e => !M.rowFits k0 e) xs)))) []) := by kernel_rfl
theorem con165_ok : Con1 P 165 c165 := conR C165 func165 (kC con166_ok (kC con188_ok kN)) fun args hp K h0 => by
 obtain ⟨a0, a1, rfl, rfl, h1⟩ := args2_elim h0
 obtain ⟨xs, rfl, h2⟩ := withB_elim h1
 obtain ⟨cs1, rfl, h3⟩ := withF_elim h2
 obtain ⟨b1_0, rfl, h4⟩ := caps1_elim h3
 obtain ⟨k0, rfl, h5⟩ := withR_elim h4
 obtain ⟨h_xs, h_k0, hK⟩ := h5
 have h : ok (F.ContainsFunc_impl_RowsOk_1 xs k0) (fun r => K (dB r) []) := ok_of_eq (F.ContainsFunc_impl_RowsOk_1_eq xs k0 h_xs h_k0) hK
 refine ⟨rfl, ann165, noLoops, (.dat Ty.bool), (no_loops (by kernel_rfl)), ?_⟩
 ·rw [vc165]
  exact ⟨h_xs, ⟨h_k0, h⟩⟩
def c139 : Con := ⟨[.dat TCS, .dat (Ty.sl TVS)], fun args hp K => g2 (pD TCS) (pD (Ty.sl TVS)) (fun columns rows => (Sm TCS columns) ∧ (Sm (Ty.sl TVS) rows) ∧ K (dB (M.rowsOk columns rows)) []) args hp, .plain⟩
@[reducible] def C139 : Ctx := cx [(138, c138), (165, c165), (166, c166)] 13 [] 0 false
def ann139 := an [[.fixBox 2, kp 6], [kp 16]] []
theorem vc139 (columns : LC) (rows : (List LV)) (K : KA) : vcT C139 noLoops ann139 f139 [.data TCS columns, .data (Ty.sl TVS) rows] [] (.dat Ty.bool) K =
 ((Sm TCS columns) ∧ cond ((M.columnsOk columns) == true) ((Sm (Ty.sl TVS) rows) ∧ (Sm TCS columns) ∧ K (dB (!(List.any rows (fun e => !M.rowFits columns e)))) []) (K (dB false) [])) := by kernel_rfl
theorem con139_ok : Con1 P 139 c139 := conR C139 func139 (kC con138_ok (kC con165_ok (kC con166_ok kN))) fun args hp K h0 => by
 obtain ⟨columns, rows, rfl, rfl, h_columns, h_rows, hK⟩ := g2e h0
 have h : ok (F.impl_RowsOk columns rows) (fun r => K (dB r) []) := ok_of_eq (F.impl_RowsOk_eq columns rows h_columns h_rows) hK
 refine ⟨rfl, ann139, noLoops, (.dat Ty.bool), (no_loops (by kernel_rfl)), ?_⟩
 ·rw [vc139]
  exact ⟨h_columns, (oC h (fun _ h => ⟨h_rows, ⟨h_columns, h⟩⟩) fun _ h => h)⟩
def c137 : Con := ⟨[.dat TTable], fun args hp K => g1 (pD TTable) (fun t => (Sm TTable t) ∧ K (dB (!M.tableOk t)) []) args hp, .plain⟩
@[reducible] def C137 : Ctx := cx [(138, c138), (139, c139)] 21 [] 0 false
def ann137 := an [[.fixRow 1 TTable, kp 2], [kp 4]] []
theorem vc137 (t : TTable.D) (K : KA) : vcT C137 noLoops ann137 f137 [.data TTable t] [] (.dat Ty.bool) K =
 ((Sm TCS t.1) ∧ cond ((!(M.columnsOk t.1)) == false) (cond ((decide (Z6 < (t.2.1.length : Int))) == false) ((Sm TCS t.1) ∧ (Sm (Ty.sl TVS) t.2.1) ∧ K (dB (!(M.rowsOk t.1 t.2.1))) []) (K (dB true) [])) (K (dB true) [])) := by kernel_rfl
theorem con137_ok : Con1 P 137 c137 := conR C137 func137 (kC con138_ok (kC con139_ok kN)) fun args hp K h0 => by
 obtain ⟨t, rfl, rfl, h_t, hK⟩ := g1e h0
 have h : ok (F.impl_TablesOk_1 t) (fun r => K (dB r) []) := ok_of_eq (F.impl_TablesOk_1_eq t h_t) hK
 refine ⟨rfl, ann137, noLoops, (.dat Ty.bool), (no_loops (by kernel_rfl)), ?_⟩
 ·rw [vc137]
  exact ⟨h_t.1, (oC h (fun _ h => (oC h (fun _ h => ⟨h_t.1, ⟨h_t.2.1, h⟩⟩) fun _ h => h)) fun _ h => h)⟩
def c162 : Con := ⟨[.lent TTable, .any], fun args hp K => args2 (fun a0 a1 => withB TTable a0 fun xs => withF 137 a1 (caps0 ((Sm TTb xs) ∧ K (dI (M.idx (t := TTable) (fun e => !M.tableOk e) xs)) []))) args hp, .plain⟩
@[reducible] def C162 : Ctx := cx [(137, c137)] 19 [] 0 false
def ann162 := an [[kp 3], [kp 387], [kp 899], [kp 419], [kp 65955], [kp 16], [kp 387], [kp 16]] [[kp 0]]
@[reducible] def s162_0 (xs : LTb) (i0 : Int) (v0 : Unit) : St := ⟨[(0, .brw TTable xs), (1, .fn 137 []), (7, dI (xs.length : Int)), (8, dI i0)], []⟩
@[reducible] def LP162_0 (xs : LTb) (m : Nat) (st_ : St) (K : KX) : Prop := True ∧ LoopI (s162_0 xs) Z0 (xs.length : Int) (F.IndexFunc_impl_TablesOk_1_l0 xs) (fun v0 : Unit => True) (outD (fun v0 : Unit => True → K (.exit 0) (⟨[], []⟩ : St)) (fun q0 : Int => K .ret (⟨[(4, dI q0)], []⟩ : St))) m st_
def L162 (xs : LTb) : Loops := lp1 0 (LP162_0 xs)
theorem vc162 (xs : LTb) (K : KA) : vcT C162 (L162 xs) ann162 f162 [.brw TTable xs, .fn 137 []] [] (.dat TInt) K =
 (∃ m_, True ∧ LoopI (s162_0 xs) Z0 (xs.length : Int) (F.IndexFunc_impl_TablesOk_1_l0 xs) (fun v0 : Unit => True) (outD (fun v0 : Unit => True → K (dI (-1 : Int)) []) (fun q0 : Int => K (dI q0) [])) m_ (s162_0 xs Z0 ())) := by kernel_rfl
theorem lvc162_0 (xs : LTb)  (i0 : Int) (v0 : Unit) (m : Nat) (K : KX) : lvT C162 (L162 xs) ann162 f162 0 0 (s162_0 xs i0 v0) m K =
 (cond (decide (i0 < (xs.length : Int))) ((0 ≤ i0) ∧ (i0 < (xs.length : Int)) ∧ (Sm TTable (nT xs i0)) ∧ cond (!M.tableOk (nT xs i0)) (K .ret (⟨[(4, dI i0)], []⟩ : St)) (nxT (LP162_0 xs) m K (s162_0 xs (wrap64 (i0 + Z1)) ()))) (K (.exit 0) (⟨[], []⟩ : St))) := by kernel_rfl
theorem con162_ok : Con1 P 162 c162 := conR C162 func162 (kC con137_ok kN) fun args hp K h0 => by
 obtain ⟨a0, a1, rfl, rfl, h1⟩ := args2_elim h0
 obtain ⟨xs, rfl, h2⟩ := withB_elim h1
 obtain ⟨cs1, rfl, h3⟩ := withF_elim h2
 obtain ⟨rfl, h4⟩ := caps0_elim h3
 obtain ⟨h_xs, hK⟩ := h4
 have h : ok (F.IndexFunc_impl_TablesOk_1 xs) (fun r => K (dI r) []) := ok_of_eq (F.IndexFunc_impl_TablesOk_1_eq xs h_xs) hK
 refine ⟨rfl, ann162, (L162 xs), (.dat TInt), (loopsN1 (i0 := 0) (by kernel_rfl) ?_), ?_⟩
 ·rintro _ _ K ⟨hc0, i0, v0, rfl, hl0, rfl, hv0, h⟩
  exact cast (lvc162_0 _ _ _ _ _).symm (loopI_step h (fun ht0 h => ⟨hl0, ⟨ht0, ⟨(sm_nth h_xs i0), (oC h (fun _ h => h) fun _ h => (loopI_next (fun _ hm => ⟨hc0, hm⟩) _ rfl hl0 low0 ht0 (sm_len h_xs) trivial h))⟩⟩⟩) fun h => (h trivial))
 ·rw [vc162]
  exact (loopI_start (fun m hm => ⟨trivial, hm⟩) Z0 _ rfl (Int.natCast_nonneg 0) trivial (ok_then h (fun v0 h hv0 => h) (fun q0 h => h)))
def c136 : Con := ⟨[.lent TTable, .any], fun args hp K => args2 (fun a0 a1 => withB TTable a0 fun xs => withF 137 a1 (caps0 ((Sm TTb xs) ∧ K (dB (List.any xs (fun e => !M.tableOk e))) []))) args hp, .plain⟩
@[reducible] def C136 : Ctx := cx [(137, c137), (162, c162)] 9 [] 0 false
def ann136 := an [[kp 3], [kp 16]] []
theorem vc136 (xs : LTb) (K : KA) : vcT C136 noLoops ann136 f136 [.brw TTable xs, .fn 137 []] [] (.dat Ty.bool) K =
 ((Sm TTb xs) ∧ K (dB (decide (Z0 ≤ (M.idx (t := TTable) (fun e => !M.tableOk e) xs)))) []) := by kernel_rfl
theorem con136_ok : Con1 P 136 c136 := conR C136 func136 (kC con137_ok (kC con162_ok kN)) fun args hp K h0 => by
 obtain ⟨a0, a1, rfl, rfl, h1⟩ := args2_elim h0
 obtain ⟨xs, rfl, h2⟩ := withB_elim h1
 obtain ⟨cs1, rfl, h3⟩ := withF_elim h2
 obtain ⟨rfl, h4⟩ := caps0_elim h3
 obtain ⟨h_xs, hK⟩ := h4
 have h : ok (F.ContainsFunc_impl_TablesOk_1 xs) (fun r => K (dB r) []) := ok_of_eq (F.ContainsFunc_impl_TablesOk_1_eq xs h_xs) hK
 refine ⟨rfl, ann136, noLoops, (.dat Ty.bool), (no_loops (by kernel_rfl)), ?_⟩
 ·rw [vc136]
  exact ⟨h_xs, h⟩
def c101 : Con := ⟨[.dat TTb], fun args hp K => g1 (pD TTb) (fun tables => (Sm TTb tables) ∧ K (dB (M.tablesOk tables)) []) args hp, .plain⟩
@[reducible] def C101 : Ctx := cx [(136, c136)] 11 [] 0 false
def ann101 := an [[kp 1], [kp 4]] []
theorem vc101 (tables : LTb) (K : KA) : vcT C101 noLoops ann101 f101 [.data TTb tables] [] (.dat Ty.bool) K =
 (cond ((decide ((tables.length : Int) ≤ Z3)) == true) ((Sm TTb tables) ∧ K (dB (!(List.any tables (fun e => !M.tableOk e)))) []) (K (dB false) [])) := by kernel_rfl
theorem con101_ok : Con1 P 101 c101 := conR C101 func101 (kC con136_ok kN) fun args hp K h0 => by
 obtain ⟨tables, rfl, rfl, h_tables, hK⟩ := g1e h0
 have h : ok (F.impl_TablesOk tables) (fun r => K (dB r) []) := ok_of_eq (F.impl_TablesOk_eq tables h_tables) hK
 refine ⟨rfl, ann101, noLoops, (.dat Ty.bool), (no_loops (by kernel_rfl)), ?_⟩
 ·rw [vc101]
  exact (oC h (fun _ h => ⟨h_tables, h⟩) fun _ h => h)
def c140 : Con := ⟨[.dat TStep], fun args hp K => g1 (pD TStep) (fun s => (Sm TStep s) ∧ K (dB (M.fieldsOk s)) []) args hp, .plain⟩
@[reducible] def C140 : Ctx := cx [] 67 [] 0 false
def ann140 := an [[.fixRow 1 TStep, kp 2], [kp 10], [kp 26], [kp 4]] []
@[reducible] def S140_0 (s : TStep.D) (K : KA) : Prop := cond ((decide (s.1 = Z3)) == false) (K (dB (decide ((s.2.2.2.2.2.1.length : Int) = Z0))) []) (K (dB true) [])
@[reducible] def S140_1 (s : TStep.D) (K : KA) : Prop := cond ((decide (s.1 = Z4)) == false) (cond ((decide ((s.2.2.2.2.1.length : Int) = Z0)) == true) (S140_0 s K) (K (dB false) [])) (S140_0 s K)
@[reducible] def S140_2 (s : TStep.D) (K : KA) : Prop := cond ((decide (s.1 = Z1)) == false) (cond ((decide (s.2.2.2.1 = Z0)) == true) (S140_1 s K) (K (dB false) [])) (S140_1 s K)
@[reducible] def S140_3 (s : TStep.D) (K : KA) : Prop := cond ((decide (s.1 = Z5)) == false) (cond ((decide (s.2.2.1 = Z0)) == true) (S140_2 s K) (K (dB false) [])) (S140_2 s K)
@[reducible] def S140_4 (s : TStep.D) (K : KA) : Prop := cond ((decide (s.1 = Z1)) == false) (cond ((decide (s.2.2.2.1 = Z0)) == true) (S140_0 s K) (K (dB false) [])) (S140_0 s K)
@[reducible] def S140_5 (s : TStep.D) (K : KA) : Prop := cond ((decide (s.1 = Z5)) == false) (cond ((decide (s.2.2.1 = Z0)) == true) (S140_4 s K) (K (dB false) [])) (S140_4 s K)
theorem vc140 (s : TStep.D) (K : KA) : vcT C140 noLoops ann140 f140 [.data TStep s] [] (.dat Ty.bool) K =
 (cond ((decide (s.1 = Z4)) == false) (cond ((decide (s.1 = Z2)) == false) (cond ((!decide (s.1 = Z1)) == false) (cond ((decide (s.2.1 = Z0)) == true) (S140_3 s K) (K (dB false) [])) (S140_3 s K)) (cond ((!decide (s.1 = Z1)) == false) (cond ((decide (s.2.1 = Z0)) == true) (S140_5 s K) (K (dB false) [])) (S140_5 s K))) (cond ((decide (s.1 = Z2)) == false) (cond ((!decide (s.1 = Z1)) == false) (cond ((decide (s.2.1 = Z0)) == true) (S140_2 s K) (K (dB false) [])) (S140_2 s K)) (cond ((!decide (s.1 = Z1)) == false) (cond ((decide (s.2.1 = Z0)) == true) (S140_4 s K) (K (dB false) [])) (S140_4 s K)))) := by kernel_rfl
theorem con140_ok : Con1 P 140 c140 := conR C140 func140 kN fun args hp K h0 => by
 obtain ⟨s, rfl, rfl, h_s, hK⟩ := g1e h0
 have h : ok (F.impl_Step_plain s) (fun r => K (dB r) []) := ok_of_eq (F.impl_Step_plain_eq s h_s) hK
 refine ⟨rfl, ann140, noLoops, (.dat Ty.bool), (no_loops (by kernel_rfl)), ?_⟩
 ·rw [vc140]
  exact (oC h (fun b_1 h => (oC h (fun _ h => (oC h (fun b_3 h => (oC h (fun _ h => (cond_t (ugt (dec_ne (bnf (bgt b_3)) (by decide))) (oC h (fun _ h => (cond_f (ugf (bnf (bgt b_3))) (cond_t (ugt (bgt b_1)) (oC h (fun _ h => (cond_t (ugt (dec_ne (bnf (bgt b_3)) (by decide))) h)) fun _ h => h)))) fun _ h => h))) fun _ h => h)) fun b_3 h => (oC h (fun _ h => (oC h (fun _ h => (cond_t (ugt (bnt (bgf b_3))) (oC h (fun _ h => (cond_t (ugt (bgt b_1)) (oC h (fun _ h => (oC h (fun _ h => h) fun _ h => h)) fun _ h => h))) fun _ h => h))) fun _ h => h)) fun b_27 h => (cond_t (ugt (bnt (bgf b_3))) (oC h (fun _ h => (cond_t (ugt (bgt b_1)) (oC h (fun _ h => (cond_t (ugt (dec_ne (bgf b_27) (by decide))) h)) fun _ h => h))) fun _ h => h))))) fun b_2 h => (cond_f (ugf (unt (dec_ne (bgf b_2) (by decide)))) (cond_t (ugt (dec_ne (bgf b_2) (by decide))) (oC h (fun _ h => (cond_t (ugt (dec_ne (bgf b_2) (by decide))) (oC h (fun _ h => (cond_t (ugt (dec_ne (bgf b_2) (by decide))) h)) fun _ h => h))) fun _ h => h))))) fun b_1 h => (cond_t (ugt (dec_ne (bgf b_1) (by decide))) (cond_f (ugf (unt (dec_ne (bgf b_1) (by decide)))) (cond_t (ugt (dec_ne (bgf b_1) (by decide))) (oC h (fun _ h => (cond_f (ugf (bgf b_1)) (cond_t (ugt (dec_ne (bgf b_1) (by decide))) h))) fun _ h => h)))))
def c168 : Con := ⟨[.dat TPart], fun args hp K => g1 (pD TPart) (fun p => (Sm TPart p) ∧ K (dI (M.takes p)) []) args hp, .plain⟩
@[reducible] def C168 : Ctx := cx [] 13 [] 0 false
def ann168 := an [[.fixRow 1 TPart, kp 2], [kp 16], [kp 48], [kp 48], [kp 48], [kp 48], [kp 4], [kp 1040], [kp 1024], [kp 4], [kp 4]] []
@[reducible] def S168_0 (p : TPart.D) (K : KA) : Prop := cond (decide (p.1 = (7 : Int))) (cond (decide (p.1 = (7 : Int))) (K (dI Z1) []) (K (dI Z0) [])) (cond (decide (p.1 = (8 : Int))) (K (dI Z1) []) (K (dI Z0) []))
theorem vc168 (p : TPart.D) (K : KA) : vcT C168 noLoops ann168 f168 [.data TPart p] [] (.dat TInt) K =
 (cond (decide (p.1 = Z3)) (cond (decide (p.1 = Z3)) (K (dI Z2) []) (S168_0 p K)) (cond (decide (p.1 = Z4)) (cond (decide (p.1 = Z4)) (K (dI Z2) []) (S168_0 p K)) (cond (decide (p.1 = Z5)) (cond (decide (p.1 = Z5)) (K (dI Z2) []) (S168_0 p K)) (cond (decide (p.1 = Z6)) (K (dI Z2) []) (S168_0 p K))))) := by kernel_rfl
theorem con168_ok : Con1 P 168 c168 := conR C168 func168 kN fun args hp K h0 => by
 obtain ⟨p, rfl, rfl, h_p, hK⟩ := g1e h0
 have h : ok (F.impl_Part_takes p) (fun r => K (dI r) []) := ok_of_eq (F.impl_Part_takes_eq p h_p) hK
 refine ⟨rfl, ann168, noLoops, (.dat TInt), (no_loops (by kernel_rfl)), ?_⟩
 ·rw [vc168]
  exact (oC h (fun b_1 h => (cond_t b_1 h)) fun _ h => (oC h (fun b_6 h => (cond_t b_6 h)) fun _ h => (oC h (fun b_8 h => (cond_t b_8 h)) fun _ h => (oC h (fun _ h => h) fun _ h => (oC h (fun b_11 h => (cond_t b_11 h)) fun _ h => (oC h (fun _ h => h) fun _ h => h))))))
def c169 : Con := ⟨[.dat TPart, .dat TCS], fun args hp K => g2 (pD TPart) (pD TCS) (fun p columns => (Sm TPart p) ∧ (Sm TCS columns) ∧ K (dB (M.tells p columns)) []) args hp, .plain⟩
@[reducible] def C169 : Ctx := cx [(54, c54), (190, c190)] 63 [] 0 false
def ann169 := an [[.fixRow 2 TPart, kp 6], [kp 70], [kp 198], [kp 16], [kp 8388678], [kp 16], [kp 137438953540], [kp 16], [.keep [2, 6, 48]], [.keep [2, 6, 48]], [.keep [2, 6, 48]], [.keep [2, 6, 48]], [.keep [2, 48]], [kp 16], [kp 16]] []
@[reducible] def S169_0 (p : TPart.D) (columns : LC) (K : KA) : Prop := cond ((decide (p.2.1 = Z0)) == true) (K (dB (Ty.beq TValue p.2.2.1 (Z0, (Z0, ((⟨#[]⟩ : ByteArray), ()))))) []) (K (dB false) [])
theorem vc169 (p : TPart.D) (columns : LC) (K : KA) : vcT C169 noLoops ann169 f169 [.data TPart p, .data TCS columns] [] (.dat Ty.bool) K =
 (cond (decide (p.1 = Z1)) (cond ((decide (p.2.1 = Z0)) == true) ((Sm TValue p.2.2.1) ∧ cond ((M.valueOk p.2.2.1) == true) (K (dB (!decide (p.2.2.1.1 = Z0))) []) (K (dB false) [])) (K (dB false) [])) (cond (decide (p.1 = Z2)) (cond ((M.inR p.2.1 Z0 (wrap64 ((columns.length : Int) - Z1))) == true) (K (dB (Ty.beq TValue p.2.2.1 (Z0, (Z0, ((⟨#[]⟩ : ByteArray), ()))))) []) (K (dB false) [])) (cond (decide (p.1 = Z4)) (cond ((M.inR p.2.1 Z1 Z4) == true) (K (dB (Ty.beq TValue p.2.2.1 (Z0, (Z0, ((⟨#[]⟩ : ByteArray), ()))))) []) (K (dB false) [])) (cond (decide (p.1 = Z3)) (cond (decide (p.1 = Z3)) (S169_0 p columns K) (K (dB false) [])) (cond (decide (p.1 = Z5)) (cond (decide (p.1 = Z5)) (S169_0 p columns K) (K (dB false) [])) (cond (decide (p.1 = Z6)) (cond (decide (p.1 = Z6)) (S169_0 p columns K) (K (dB false) [])) (cond (decide (p.1 = (7 : Int))) (cond (decide (p.1 = (7 : Int))) (S169_0 p columns K) (K (dB false) [])) (cond (decide (p.1 = (8 : Int))) (S169_0 p columns K) (K (dB false) []))))))))) := by kernel_rfl
theorem con169_ok : Con1 P 169 c169 := conR C169 func169 (kC con54_ok (kC con190_ok kN)) fun args hp K h0 => by
 obtain ⟨p, columns, rfl, rfl, h_p, h_columns, hK⟩ := g2e h0
 have h : ok (F.impl_Part_tells p columns) (fun r => K (dB r) []) := ok_of_eq (F.impl_Part_tells_eq p columns h_p h_columns) hK
 refine ⟨rfl, ann169, noLoops, (.dat Ty.bool), (no_loops (by kernel_rfl)), ?_⟩
 ·rw [vc169]
  exact (oC h (fun _ h => (oC h (fun _ h => ⟨h_p.2.2.1, (oC h (fun _ h => h) fun _ h => h)⟩) fun _ h => h)) fun _ h => (oC h (fun _ h => (oC h (fun _ h => h) fun _ h => h)) fun _ h => (oC h (fun _ h => (oC h (fun _ h => h) fun _ h => h)) fun _ h => (oC h (fun b_8 h => (cond_t b_8 (oC h (fun _ h => h) fun _ h => h))) fun _ h => (oC h (fun b_11 h => (cond_t b_11 (oC h (fun _ h => h) fun _ h => h))) fun _ h => (oC h (fun b_14 h => (cond_t b_14 (oC h (fun _ h => h) fun _ h => h))) fun _ h => (oC h (fun b_17 h => (cond_t b_17 (oC h (fun _ h => h) fun _ h => h))) fun _ h => (oC h (fun _ h => (oC h (fun _ h => h) fun _ h => h)) fun _ h => h))))))))
def c193 : Con := ⟨[.dat TInt, .any], fun args hp K => g2 (pD TInt) (pR TInt) (fun k kind => K (dB (!decide (k = kind))) []) args hp, .plain⟩
@[reducible] def C193 : Ctx := cx [] 7 [] 0 false
def ann193 := an [[kp 3], [kp 8]] []
theorem vc193 (k : Int) (kind : Int) (K : KA) : vcT C193 noLoops ann193 f193 [dI k, .ref (dI kind)] [] (.dat Ty.bool) K =
 (K (dB (!decide (k = kind))) []) := by kernel_rfl
theorem con193_ok : Con1 P 193 c193 := conR C193 func193 kN fun args hp K h0 => by
 obtain ⟨k, kind, rfl, rfl, hK⟩ := g2e h0
 have h : ok (F.impl_Part_kind_1_1 k kind) (fun r => K (dB r) []) := ok_of_eq (F.impl_Part_kind_1_1_eq k kind) hK
 refine ⟨rfl, ann193, noLoops, (.dat Ty.bool), (no_loops (by kernel_rfl)), ?_⟩
 ·rw [vc193]
  exact h
def c208 : Con := ⟨[.lent TInt, .any], fun args hp K => args2 (fun a0 a1 => withB TInt a0 fun xs => withF 193 a1 (caps1 (fun b1_0 => withR TInt b1_0 fun k0 => (Sm (Ty.sl TInt) xs) ∧ K (dI (M.idx (t := TInt) (fun e => !decide (e = k0)) xs)) []))) args hp, .plain⟩
@[reducible] def C208 : Ctx := cx [(193, c193)] 19 [] 0 false
def ann208 := an [[kp 3], [kp 387], [kp 899], [kp 419], [kp 65955], [kp 16], [kp 387], [kp 16]] [[kp 0]]
@[reducible] def s208_0 (xs : (List Int)) (k0 : Int) (i0 : Int) (v0 : Unit) : St := ⟨[(0, .brw TInt xs), (1, .fn 193 [.ref (dI k0)]), (7, dI (xs.length : Int)), (8, dI i0)], []⟩
@[reducible] def LP208_0 (xs : (List Int)) (k0 : Int) (m : Nat) (st_ : St) (K : KX) : Prop := True ∧ LoopI (s208_0 xs k0) Z0 (xs.length : Int) (F.IndexFunc_impl_Part_kind_1_1_l0 xs k0) (fun v0 : Unit => True) (outD (fun v0 : Unit => True → K (.exit 0) (⟨[], []⟩ : St)) (fun q0 : Int => K .ret (⟨[(4, dI q0)], []⟩ : St))) m st_
def L208 (xs : (List Int)) (k0 : Int) : Loops := lp1 0 (LP208_0 xs k0)
theorem vc208 (xs : (List Int)) (k0 : Int) (K : KA) : vcT C208 (L208 xs k0) ann208 f208 [.brw TInt xs, .fn 193 [.ref (dI k0)]] [] (.dat TInt) K =
 (∃ m_, True ∧ LoopI (s208_0 xs k0) Z0 (xs.length : Int) (F.IndexFunc_impl_Part_kind_1_1_l0 xs k0) (fun v0 : Unit => True) (outD (fun v0 : Unit => True → K (dI (-1 : Int)) []) (fun q0 : Int => K (dI q0) [])) m_ (s208_0 xs k0 Z0 ())) := by kernel_rfl
theorem lvc208_0 (xs : (List Int)) (k0 : Int)  (i0 : Int) (v0 : Unit) (m : Nat) (K : KX) : lvT C208 (L208 xs k0) ann208 f208 0 0 (s208_0 xs k0 i0 v0) m K =
 (cond (decide (i0 < (xs.length : Int))) ((0 ≤ i0) ∧ (i0 < (xs.length : Int)) ∧ cond (!decide ((nI xs i0) = k0)) (K .ret (⟨[(4, dI i0)], []⟩ : St)) (nxT (LP208_0 xs k0) m K (s208_0 xs k0 (wrap64 (i0 + Z1)) ()))) (K (.exit 0) (⟨[], []⟩ : St))) := by kernel_rfl
theorem con208_ok : Con1 P 208 c208 := conR C208 func208 (kC con193_ok kN) fun args hp K h0 => by
 obtain ⟨a0, a1, rfl, rfl, h1⟩ := args2_elim h0
 obtain ⟨xs, rfl, h2⟩ := withB_elim h1
 obtain ⟨cs1, rfl, h3⟩ := withF_elim h2
 obtain ⟨b1_0, rfl, h4⟩ := caps1_elim h3
 obtain ⟨k0, rfl, h5⟩ := withR_elim h4
 obtain ⟨h_xs, hK⟩ := h5
 have h : ok (F.IndexFunc_impl_Part_kind_1_1 xs k0) (fun r => K (dI r) []) := ok_of_eq (F.IndexFunc_impl_Part_kind_1_1_eq xs k0 h_xs) hK
 refine ⟨rfl, ann208, (L208 xs k0), (.dat TInt), (loopsN1 (i0 := 0) (by kernel_rfl) ?_), ?_⟩
 ·rintro _ _ K ⟨hc0, i0, v0, rfl, hl0, rfl, hv0, h⟩
  exact cast (lvc208_0 _ _ _ _ _ _).symm (loopI_step h (fun ht0 h => ⟨hl0, ⟨ht0, (oC h (fun _ h => h) fun _ h => (loopI_next (fun _ hm => ⟨hc0, hm⟩) _ rfl hl0 low0 ht0 (sm_len h_xs) trivial h))⟩⟩) fun h => (h trivial))
 ·rw [vc208]
  exact (loopI_start (fun m hm => ⟨trivial, hm⟩) Z0 _ rfl (Int.natCast_nonneg 0) trivial (ok_then h (fun v0 h hv0 => h) (fun q0 h => h)))
def c192 : Con := ⟨[.lent TInt, .any], fun args hp K => args2 (fun a0 a1 => withB TInt a0 fun xs => withF 193 a1 (caps1 (fun b1_0 => withR TInt b1_0 fun k0 => (Sm (Ty.sl TInt) xs) ∧ K (dB (List.any xs (fun e => !decide (e = k0)))) []))) args hp, .plain⟩
@[reducible] def C192 : Ctx := cx [(193, c193), (208, c208)] 9 [] 0 false
def ann192 := an [[kp 3], [kp 16]] []
theorem vc192 (xs : (List Int)) (k0 : Int) (K : KA) : vcT C192 noLoops ann192 f192 [.brw TInt xs, .fn 193 [.ref (dI k0)]] [] (.dat Ty.bool) K =
 ((Sm (Ty.sl TInt) xs) ∧ K (dB (decide (Z0 ≤ (M.idx (t := TInt) (fun e => !decide (e = k0)) xs)))) []) := by kernel_rfl
theorem con192_ok : Con1 P 192 c192 := conR C192 func192 (kC con193_ok (kC con208_ok kN)) fun args hp K h0 => by
 obtain ⟨a0, a1, rfl, rfl, h1⟩ := args2_elim h0
 obtain ⟨xs, rfl, h2⟩ := withB_elim h1
 obtain ⟨cs1, rfl, h3⟩ := withF_elim h2
 obtain ⟨b1_0, rfl, h4⟩ := caps1_elim h3
 obtain ⟨k0, rfl, h5⟩ := withR_elim h4
 obtain ⟨h_xs, hK⟩ := h5
 have h : ok (F.ContainsFunc_impl_Part_kind_1_1 xs k0) (fun r => K (dB r) []) := ok_of_eq (F.ContainsFunc_impl_Part_kind_1_1_eq xs k0 h_xs) hK
 refine ⟨rfl, ann192, noLoops, (.dat Ty.bool), (no_loops (by kernel_rfl)), ?_⟩
 ·rw [vc192]
  exact ⟨h_xs, h⟩
def c191 : Con := ⟨[.dat TInt, .any], fun args hp K => g2 (pD TInt) (pQ TInt) (fun kind ins => (Sm (Ty.sl TInt) ins) ∧ K (dB (List.all ins (fun k => decide (k = kind)))) []) args hp, .plain⟩
@[reducible] def C191 : Ctx := cx [(192, c192), (193, c193)] 8 [] 0 false
def ann191 := an [[.fixBox 2, kp 6], [kp 8]] []
theorem vc191 (kind : Int) (ins : (List Int)) (K : KA) : vcT C191 noLoops ann191 f191 [dI kind, .ref (.brw TInt ins)] [] (.dat Ty.bool) K =
 ((Sm (Ty.sl TInt) ins) ∧ K (dB (!(List.any ins (fun e => !decide (e = kind))))) []) := by kernel_rfl
theorem con191_ok : Con1 P 191 c191 := conR C191 func191 (kC con192_ok (kC con193_ok kN)) fun args hp K h0 => by
 obtain ⟨kind, ins, rfl, rfl, h_ins, hK⟩ := g2e h0
 have h : ok (F.impl_Part_kind_1 kind ins) (fun r => K (dB r) []) := ok_of_eq (F.impl_Part_kind_1_eq kind ins h_ins) hK
 refine ⟨rfl, ann191, noLoops, (.dat Ty.bool), (no_loops (by kernel_rfl)), ?_⟩
 ·rw [vc191]
  exact ⟨h_ins, h⟩
end Go.AE
