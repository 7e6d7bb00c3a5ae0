/- Contracts. -/
import Derived.Test.YtckamkecfekneaaAeSeat
import Derived.Test.YtckamkecfekneaaAeEq
namespace Go.AE
open Go Go.RowKit Go.Proofs.Try
set_option maxRecDepth 100000
set_option maxHeartbeats 2000000
set_option linter.unusedVariables false
def c5 : Con := ⟨[.dat TCS, .dat TInt], fun args hp K => g2 (pD TCS) (pD TInt) (fun x left => (Ln TCS x) ∧ (0 ≤ left) ∧ (left ≤ 1048576) ∧ K (dI (M.szLen x.length left)) []) args hp, .plain⟩
@[reducible] def C5 : Ctx := cx [] 12 [] 0 false
def ann5 := an [[kp 3], [kp 2], [kp 1026], [kp 16], [kp 16]] []
theorem vc5 (x : LC) (left : Int) (K : KA) : vcT C5 noLoops ann5 f5 [.data TCS x, dI left] [] (.dat TInt) K =
 (cond (decide (wrap64 (left - (x.length : Int)) < Z0)) (K (dI (-1 : Int)) []) (K (dI (wrap64 (left - (x.length : Int)))) [])) := by kernel_rfl
theorem con5_ok : Con1 P 5 c5 := conR C5 func5 kN fun args hp K h0 => by
 obtain ⟨x, left, rfl, rfl, h_x, p0, p1, hK⟩ := g2e h0
 have h : ok (F.laws_szColumnS x left) (fun r => K (dI r) []) := ok_of_eq (F.laws_szColumnS_eq x left h_x p0 p1) hK
 refine ⟨rfl, ann5, noLoops, (.dat TInt), (no_loops (by kernel_rfl)), ?_⟩
 ·rw [vc5]
  exact (oC h (fun _ h => h) fun _ h => h)
def c52 : Con := ⟨[.dat TValue, .dat TInt], fun args hp K => g2 (pD TValue) (pD TInt) (fun x left => (Ln TValue x) ∧ (0 ≤ left) ∧ (left ≤ 1048576) ∧ K (dI (M.szValue x left)) []) args hp, .plain⟩
@[reducible] def C52 : Ctx := cx [] 13 [] 0 false
def ann52 := an [[.fixRow 2 TValue, kp 6], [kp 2], [kp 2050], [kp 16], [kp 16]] []
theorem vc52 (x : TValue.D) (left : Int) (K : KA) : vcT C52 noLoops ann52 f52 [.data TValue x, dI left] [] (.dat TInt) K =
 (cond (decide (wrap64 (left - (x.2.2.1.size : Int)) < Z0)) (K (dI (-1 : Int)) []) (K (dI (wrap64 (left - (x.2.2.1.size : Int)))) [])) := by kernel_rfl
theorem con52_ok : Con1 P 52 c52 := conR C52 func52 kN fun args hp K h0 => by
 obtain ⟨x, left, rfl, rfl, h_x, p0, p1, hK⟩ := g2e h0
 have h : ok (F.laws_szValue x left) (fun r => K (dI r) []) := ok_of_eq (F.laws_szValue_eq x left h_x p0 p1) hK
 refine ⟨rfl, ann52, noLoops, (.dat TInt), (no_loops (by kernel_rfl)), ?_⟩
 ·rw [vc52]
  exact (oC h (fun _ h => h) fun _ h => h)
def c23 : Con := ⟨[.dat TPart, .dat TInt], fun args hp K => g2 (pD TPart) (pD TInt) (fun x left => (Ln TPart x) ∧ (0 ≤ left) ∧ (left ≤ 1048576) ∧ K (dI (M.szPart x left)) []) args hp, .plain⟩
@[reducible] def C23 : Ctx := cx [(52, c52)] 12 [] 0 false
def ann23 := an [[.fixRow 2 TPart, kp 6], [kp 2], [kp 1026], [kp 16], [kp 16]] []
theorem vc23 (x : TPart.D) (left : Int) (K : KA) : vcT C23 noLoops ann23 f23 [.data TPart x, dI left] [] (.dat TInt) K =
 ((Ln TValue x.2.2.1) ∧ (0 ≤ left) ∧ (left ≤ 1048576) ∧ cond (decide ((M.szValue x.2.2.1 left) < Z0)) (K (dI (-1 : Int)) []) (K (dI (M.szValue x.2.2.1 left)) [])) := by kernel_rfl
theorem con23_ok : Con1 P 23 c23 := conR C23 func23 (kC con52_ok kN) fun args hp K h0 => by
 obtain ⟨x, left, rfl, rfl, h_x, p0, p1, hK⟩ := g2e h0
 have h : ok (F.laws_szPart x left) (fun r => K (dI r) []) := ok_of_eq (F.laws_szPart_eq x left h_x p0 p1) hK
 refine ⟨rfl, ann23, noLoops, (.dat TInt), (no_loops (by kernel_rfl)), ?_⟩
 ·rw [vc23]
  exact ⟨h_x.2.2.1, ⟨p0, ⟨p1, (oC h (fun _ h => h) fun _ h => h)⟩⟩⟩
def c6 : Con := ⟨[.dat TPS, .dat TInt], fun args hp K => g2 (pD TPS) (pD TInt) (fun x left => (Ln TPS x) ∧ (0 ≤ left) ∧ (left ≤ 1048576) ∧ K (dI (M.szS M.szPart x left)) []) args hp, .plain⟩
@[reducible] def C6 : Ctx := cx [(23, c23)] 27 [] 0 false
def ann6 := an [[kp 3], [kp 3], [kp 2051], [kp 16], [kp 35], [kp 32803], [kp 35], [kp 35], [kp 33554467], [kp 16], [kp 16]] [[kp 2]]
@[reducible] def s6_0 (x : LPt) (left : Int) (i0 : Int) (v0 : Int) : St := ⟨[(0, .data TPS x), (1, dI v0), (5, dI i0)], []⟩
@[reducible] def LP6_0 (x : LPt) (left : Int) (m : Nat) (st_ : St) (K : KX) : Prop := True ∧ LoopE (t := TPart) (s6_0 x left) x (F.laws_szPartS_l0 x left) (fun v0 : Int => True) (outD (fun v0 : Int => True → K (.exit 0) (⟨[(1, dI v0)], []⟩ : St)) (fun q0 : Unit => K .ret (⟨[(4, dI (-1 : Int))], []⟩ : St))) m st_
def L6 (x : LPt) (left : Int) : Loops := lp1 0 (LP6_0 x left)
theorem vc6 (x : LPt) (left : Int) (K : KA) : vcT C6 (L6 x left) ann6 f6 [.data TPS x, dI left] [] (.dat TInt) K =
 (cond (decide (wrap64 (left - (x.length : Int)) < Z0)) (K (dI (-1 : Int)) []) (∃ m_, True ∧ LoopE (t := TPart) (s6_0 x left) x (F.laws_szPartS_l0 x left) (fun v0 : Int => True) (outD (fun v0 : Int => True → K (dI v0) []) (fun q0 : Unit => K (dI (-1 : Int)) [])) m_ (s6_0 x left Z0 (wrap64 (left - (x.length : Int)))))) := by kernel_rfl
theorem lvc6_0 (x : LPt) (left : Int)  (i0 : Int) (v0 : Int) (m : Nat) (K : KX) : lvT C6 (L6 x left) ann6 f6 0 0 (s6_0 x left i0 v0) m K =
 (cond (decide (i0 < (x.length : Int))) ((0 ≤ i0) ∧ (i0 < (x.length : Int)) ∧ (Ln TPart (nP x i0)) ∧ (0 ≤ v0) ∧ (v0 ≤ 1048576) ∧ cond (decide ((M.szPart (nP x i0) v0) < Z0)) (K .ret (⟨[(4, dI (-1 : Int))], []⟩ : St)) (nxT (LP6_0 x left) m K (s6_0 x left (wrap64 (i0 + Z1)) (M.szPart (nP x i0) v0)))) (K (.exit 0) (⟨[(1, dI v0)], []⟩ : St))) := by kernel_rfl
theorem con6_ok : Con1 P 6 c6 := conR C6 func6 (kC con23_ok kN) fun args hp K h0 => by
 obtain ⟨x, left, rfl, rfl, h_x, p0, p1, hK⟩ := g2e h0
 have h : ok (F.laws_szPartS x left) (fun r => K (dI r) []) := ok_of_eq (F.laws_szPartS_eq x left h_x p0 p1) hK
 refine ⟨rfl, ann6, (L6 x left), (.dat TInt), (loopsN1 (i0 := 0) (by kernel_rfl) ?_), ?_⟩
 ·rintro _ _ K ⟨hc0, i0, v0, rfl, hl0, rfl, hv0, h⟩
  exact cast (lvc6_0 _ _ _ _ _ _).symm (loopE_step (t := TPart) hl0 h (fun ht0 h => ⟨hl0, ⟨ht0, ⟨(sm_nth h_x i0), (oG h fun _ h => (oG h fun _ h => (oC h (fun _ h => h) fun _ h => (loopE_next (t := TPart) (fun _ hm => ⟨hc0, hm⟩) _ rfl hl0 ht0 (sm_len h_x) trivial h))))⟩⟩⟩) fun h => (h trivial))
 ·rw [vc6]
  exact (oC h (fun _ h => h) fun _ h => (loopE_start (t := TPart) (fun m hm => ⟨trivial, hm⟩) _ rfl trivial (ok_then h (fun v0 h hv0 => h) (fun q0 h => h))))
def c39 : Con := ⟨[.dat TInt, .dat TInt, .dat TInt], fun args hp K => g3 (pD TInt) (pD TInt) (pD TInt) (fun n low high => K (dB (M.inR n low high)) []) args hp, .plain⟩
@[reducible] def C39 : Ctx := cx [] 15 [] 0 false
def ann39 := an [[kp 7], [kp 64]] []
theorem vc39 (n : Int) (low : Int) (high : Int) (K : KA) : vcT C39 noLoops ann39 f39 [dI n, dI low, dI high] [] (.dat Ty.bool) K =
 (cond ((decide (low ≤ n)) == true) (K (dB (decide (n ≤ high))) []) (K (dB false) [])) := by kernel_rfl
theorem con39_ok : Con1 P 39 c39 := conR C39 func39 kN fun args hp K h0 => by
 obtain ⟨n, low, high, rfl, rfl, hK⟩ := g3e h0
 have h : ok (F.spec_l1In n low high) (fun r => K (dB r) []) := ok_of_eq (F.spec_l1In_eq n low high) hK
 refine ⟨rfl, ann39, noLoops, (.dat Ty.bool), (no_loops (by kernel_rfl)), ?_⟩
 ·rw [vc39]
  exact (oC h (fun _ h => h) fun _ h => h)
def c53 : Con := ⟨[.dat TCS], fun args hp K => g1 (pD TCS) (fun columns => (Sm TCS columns) ∧ K (dB (M.columnsOk columns)) []) args hp, .plain⟩
@[reducible] def C53 : Ctx := cx [(39, c39)] 20 [] 0 false
def ann53 := an [[kp 1], [kp 9], [kp 137], [kp 9], [kp 65545], [kp 4], [kp 4]] [[kp 1]]
@[reducible] def s53_0 (columns : LC) (i0 : Int) (v0 : Unit) : St := ⟨[(0, .data TCS columns), (3, dI i0)], []⟩
@[reducible] def LP53_0 (columns : LC) (m : Nat) (st_ : St) (K : KX) : Prop := True ∧ LoopE (t := TColumn) (s53_0 columns) columns (F.spec_ColumnsOk_l0 columns) (fun v0 : Unit => True) (outD (fun v0 : Unit => True → K (.exit 0) (⟨[(0, .data TCS columns)], []⟩ : St)) (fun q0 : Unit => K .ret (⟨[(2, dB false)], []⟩ : St))) m st_
def L53 (columns : LC) : Loops := lp1 0 (LP53_0 columns)
theorem vc53 (columns : LC) (K : KA) : vcT C53 (L53 columns) ann53 f53 [.data TCS columns] [] (.dat Ty.bool) K =
 (∃ m_, True ∧ LoopE (t := TColumn) (s53_0 columns) columns (F.spec_ColumnsOk_l0 columns) (fun v0 : Unit => True) (outD (fun v0 : Unit => True → K (dB (decide ((columns.length : Int) ≤ Z4))) []) (fun q0 : Unit => K (dB false) [])) m_ (s53_0 columns Z0 ())) := by kernel_rfl
theorem lvc53_0 (columns : LC)  (i0 : Int) (v0 : Unit) (m : Nat) (K : KX) : lvT C53 (L53 columns) ann53 f53 0 0 (s53_0 columns i0 v0) m K =
 (cond (decide (i0 < (columns.length : Int))) ((0 ≤ i0) ∧ (i0 < (columns.length : Int)) ∧ cond (!(M.inR (nC columns i0).1 Z1 Z3)) (K .ret (⟨[(2, dB false)], []⟩ : St)) (nxT (LP53_0 columns) m K (s53_0 columns (wrap64 (i0 + Z1)) ()))) (K (.exit 0) (⟨[(0, .data TCS columns)], []⟩ : St))) := by kernel_rfl
theorem con53_ok : Con1 P 53 c53 := conR C53 func53 (kC con39_ok kN) fun args hp K h0 => by
 obtain ⟨columns, rfl, rfl, h_columns, hK⟩ := g1e h0
 have h : ok (F.spec_ColumnsOk columns) (fun r => K (dB r) []) := ok_of_eq (F.spec_ColumnsOk_eq columns h_columns) hK
 refine ⟨rfl, ann53, (L53 columns), (.dat Ty.bool), (loopsN1 (i0 := 0) (by kernel_rfl) ?_), ?_⟩
 ·rintro _ _ K ⟨hc0, i0, v0, rfl, hl0, rfl, hv0, h⟩
  exact cast (lvc53_0 _ _ _ _ _).symm (loopE_step (t := TColumn) hl0 h (fun ht0 h => ⟨hl0, ⟨ht0, (oC h (fun _ h => h) fun _ h => (loopE_next (t := TColumn) (fun _ hm => ⟨hc0, hm⟩) _ rfl hl0 ht0 (sm_len h_columns) trivial h))⟩⟩) fun h => (h trivial))
 ·rw [vc53]
  exact (loopE_start (t := TColumn) (fun m hm => ⟨trivial, hm⟩) _ rfl trivial (ok_then h (fun v0 h hv0 => h) (fun q0 h => h)))
def c127 : Con := ⟨[.dat Ty.str], fun args hp K => g1 (pD Ty.str) (fun s => (Sm Ty.str s) ∧ K (dB (M.text s)) []) args hp, .plain⟩
@[reducible] def C127 : Ctx := cx [] 23 [] 0 false
def ann127 := an [[kp 1], [kp 9], [kp 137], [kp 9], [kp 524297], [kp 4], [kp 4]] [[kp 1]]
@[reducible] def s127_0 (s : ByteArray) (i0 : Int) (v0 : Unit) : St := ⟨[(0, .data Ty.str s), (3, dI i0)], []⟩
@[reducible] def LP127_0 (s : ByteArray) (m : Nat) (st_ : St) (K : KX) : Prop := True ∧ LoopI (s127_0 s) Z0 (s.size : Int) (F.spec_l1Text_l0 s) (fun v0 : Unit => True) (outD (fun v0 : Unit => True → K (.exit 0) (⟨[(0, .data Ty.str s)], []⟩ : St)) (fun q0 : Unit => K .ret (⟨[(2, dB false)], []⟩ : St))) m st_
def L127 (s : ByteArray) : Loops := lp1 0 (LP127_0 s)
theorem vc127 (s : ByteArray) (K : KA) : vcT C127 (L127 s) ann127 f127 [.data Ty.str s] [] (.dat Ty.bool) K =
 (∃ m_, True ∧ LoopI (s127_0 s) Z0 (s.size : Int) (F.spec_l1Text_l0 s) (fun v0 : Unit => True) (outD (fun v0 : Unit => True → K (dB (decide ((s.size : Int) ≤ Z6))) []) (fun q0 : Unit => K (dB false) [])) m_ (s127_0 s Z0 ())) := by kernel_rfl
theorem lvc127_0 (s : ByteArray)  (i0 : Int) (v0 : Unit) (m : Nat) (K : KX) : lvT C127 (L127 s) ann127 f127 0 0 (s127_0 s i0 v0) m K =
 (cond (decide (i0 < (s.size : Int))) ((0 ≤ i0) ∧ (i0 < (s.size : Int)) ∧ cond ((decide (((s.get! i0.toNat).toNat : Int) < (97 : Int))) == false) ((0 ≤ i0) ∧ (i0 < (s.size : Int)) ∧ cond (decide ((122 : Int) < ((s.get! i0.toNat).toNat : Int))) (K .ret (⟨[(2, dB false)], []⟩ : St)) (nxT (LP127_0 s) m K (s127_0 s (wrap64 (i0 + Z1)) ()))) (K .ret (⟨[(2, dB false)], []⟩ : St))) (K (.exit 0) (⟨[(0, .data Ty.str s)], []⟩ : St))) := by kernel_rfl
theorem con127_ok : Con1 P 127 c127 := conR C127 func127 kN fun args hp K h0 => by
 obtain ⟨s, rfl, rfl, h_s, hK⟩ := g1e h0
 have h : ok (F.spec_l1Text s) (fun r => K (dB r) []) := ok_of_eq (F.spec_l1Text_eq s h_s) hK
 refine ⟨rfl, ann127, (L127 s), (.dat Ty.bool), (loopsN1 (i0 := 0) (by kernel_rfl) ?_), ?_⟩
 ·rintro _ _ K ⟨hc0, i0, v0, rfl, hl0, rfl, hv0, h⟩
  exact cast (lvc127_0 _ _ _ _ _).symm (loopI_step h (fun ht0 h => ⟨hl0, ⟨ht0, (oC h (fun _ h => ⟨hl0, ⟨ht0, (oC h (fun _ h => h) fun _ h => (loopI_next (fun _ hm => ⟨hc0, hm⟩) _ rfl hl0 low0 ht0 (sm_size h_s) trivial h))⟩⟩) fun _ h => h)⟩⟩) fun h => (h trivial))
 ·rw [vc127]
  exact (loopI_start (fun m hm => ⟨trivial, hm⟩) Z0 _ rfl (Int.natCast_nonneg 0) trivial (ok_then h (fun v0 h hv0 => h) (fun q0 h => h)))
def c86 : Con := ⟨[.dat TValue], fun args hp K => g1 (pD TValue) (fun v => (Sm TValue v) ∧ K (dB (M.valueOk v)) []) args hp, .plain⟩
@[reducible] def C86 : Ctx := cx [(39, c39), (127, c127)] 45 [] 0 false
def ann86 := an [[.fixRow 1 TValue, kp 2], [kp 18], [kp 50], [kp 4], [kp 32786], [kp 4], [kp 33554450], [kp 4], [.keep [1, 35]], [kp 4], [kp 4]] []
theorem vc86 (v : TValue.D) (K : KA) : vcT C86 noLoops ann86 f86 [.data TValue v] [] (.dat Ty.bool) K =
 (cond (decide (v.1 = Z0)) (cond ((decide (v.2.1 = Z0)) == true) (K (dB (decide (v.2.2.1 = (⟨#[]⟩ : ByteArray)))) []) (K (dB false) [])) (cond (decide (v.1 = Z1)) (cond ((M.inR v.2.1 (-9999 : Int) (9999 : Int)) == true) (K (dB (decide (v.2.2.1 = (⟨#[]⟩ : ByteArray)))) []) (K (dB false) [])) (cond (decide (v.1 = Z2)) (cond ((decide (v.2.1 = Z0)) == true) ((Sm Ty.str v.2.2.1) ∧ K (dB (M.text v.2.2.1)) []) (K (dB false) [])) (cond (decide (v.1 = Z3)) (cond ((M.inR v.2.1 Z0 Z1) == true) (K (dB (decide (v.2.2.1 = (⟨#[]⟩ : ByteArray)))) []) (K (dB false) [])) (K (dB false) []))))) := by kernel_rfl
theorem con86_ok : Con1 P 86 c86 := conR C86 func86 (kC con39_ok (kC con127_ok kN)) fun args hp K h0 => by
 obtain ⟨v, rfl, rfl, h_v, hK⟩ := g1e h0
 have h : ok (F.spec_ValueOk v) (fun r => K (dB r) []) := ok_of_eq (F.spec_ValueOk_eq v h_v) hK
 refine ⟨rfl, ann86, noLoops, (.dat Ty.bool), (no_loops (by kernel_rfl)), ?_⟩
 ·rw [vc86]
  exact (oC h (fun _ h => (oC h (fun _ h => h) fun _ h => h)) fun _ h => (oC h (fun _ h => (oC h (fun _ h => h) fun _ h => h)) fun _ h => (oC h (fun _ h => (oC h (fun _ h => ⟨h_v.2.2.1, h⟩) fun _ h => h)) fun _ h => (oC h (fun _ h => (oC h (fun _ h => h) fun _ h => h)) fun _ h => h))))
def c54 : Con := ⟨[.dat TCS, .mv, .dat TPart], fun args hp K => hpN 0 false TInt (fun kinds => args3 (fun a0 a1 a2 => withD TCS a0 fun columns => withO 0 a1 (withD TPart a2 fun p => (Sm TCS columns) ∧ (Sm (Ty.sl TInt) kinds) ∧ (Sm TPart p) ∧ (kinds.length ≤ 1000) ∧ (∀ r : (List Int) × Bool, r = (M.l4Step columns kinds p) → K (.tup [.own 0 none, dB r.2]) [(0, .arr false TInt r.1)]))) args []) hp, .mv⟩
@[reducible] def C54 : Ctx := cx [(39, c39), (86, c86)] 191 [] 0 true
def ann54 := an [[.fixRow 5 TPart, kp 35], [kp 291], [kp 137438953763], [kp 192], [kp 1099511628067], [kp 3298534883619], [.keep [1, 5, 52]], [kp 192], [kp 192], [kp 1152922604118475043], [.keep [0, 1, 5, 68]], [kp 192], [kp 192], [.keep [1, 5, 8, 40, 79]], [kp 770], [kp 192], [.keep [1, 5, 8, 40, 107]], [kp 1282], [kp 192], [.keep [1, 8, 40, 137]], [.keep [1, 8, 40, 137]], [kp 2306], [kp 192], [.keep [1, 8, 40, 166]], [kp 192], [.keep [1, 8, 179]], [kp 192], [kp 192]] []
@[reducible] def S54_0 (columns : LC) (kinds : (List Int)) (p : TPart.D) (K : KA) : Prop := (0 ≤ Z0) ∧ (Z0 ≤ (maxI (wrap64 ((kinds.length : Int) - Z2)) Z0)) ∧ ((maxI (wrap64 ((kinds.length : Int) - Z2)) Z0) ≤ (kinds.length : Int)) ∧ ((maxI (wrap64 ((kinds.length : Int) - Z2)) Z0) = (maxI (wrap64 ((kinds.length : Int) - Z2)) Z0)) ∧ (Z0 = 0) ∧ (((maxI (wrap64 ((kinds.length : Int) - Z2)) Z0).toNat + [Z1].length) * 8 ≤ lim) ∧ K (.tup [.own 0 none, dB false]) [(0, .arr false TInt (kinds.take (maxI (wrap64 ((kinds.length : Int) - Z2)) Z0).toNat ++ [Z1]))]
@[reducible] def S54_1 (columns : LC) (kinds : (List Int)) (p : TPart.D) (K : KA) : Prop := (0 ≤ Z0) ∧ (Z0 ≤ (maxI (wrap64 ((kinds.length : Int) - Z2)) Z0)) ∧ ((maxI (wrap64 ((kinds.length : Int) - Z2)) Z0) ≤ (kinds.length : Int)) ∧ ((maxI (wrap64 ((kinds.length : Int) - Z2)) Z0) = (maxI (wrap64 ((kinds.length : Int) - Z2)) Z0)) ∧ (Z0 = 0) ∧ (((maxI (wrap64 ((kinds.length : Int) - Z2)) Z0).toNat + [Z3].length) * 8 ≤ lim) ∧ K (.tup [.own 0 none, dB false]) [(0, .arr false TInt (kinds.take (maxI (wrap64 ((kinds.length : Int) - Z2)) Z0).toNat ++ [Z3]))]
@[reducible] def S54_2 (columns : LC) (kinds : (List Int)) (p : TPart.D) (K : KA) : Prop := (S54_1 columns kinds p K)
@[reducible] def S54_3 (columns : LC) (kinds : (List Int)) (p : TPart.D) (K : KA) : Prop := cond ((decide (Z1 < (kinds.length : Int))) == true) ((0 ≤ wrap64 ((kinds.length : Int) - Z1)) ∧ (wrap64 ((kinds.length : Int) - Z1) < (kinds.length : Int)) ∧ cond ((decide ((nI kinds (wrap64 ((kinds.length : Int) - Z1))) = Z3)) == true) ((0 ≤ wrap64 ((kinds.length : Int) - Z2)) ∧ (wrap64 ((kinds.length : Int) - Z2) < (kinds.length : Int)) ∧ (0 ≤ Z0) ∧ (Z0 ≤ (maxI (wrap64 ((kinds.length : Int) - Z2)) Z0)) ∧ ((maxI (wrap64 ((kinds.length : Int) - Z2)) Z0) ≤ (kinds.length : Int)) ∧ ((maxI (wrap64 ((kinds.length : Int) - Z2)) Z0) = (maxI (wrap64 ((kinds.length : Int) - Z2)) Z0)) ∧ (Z0 = 0) ∧ (((maxI (wrap64 ((kinds.length : Int) - Z2)) Z0).toNat + [Z3].length) * 8 ≤ lim) ∧ K (.tup [.own 0 none, dB (decide ((nI kinds (wrap64 ((kinds.length : Int) - Z2))) = Z3))]) [(0, .arr false TInt (kinds.take (maxI (wrap64 ((kinds.length : Int) - Z2)) Z0).toNat ++ [Z3]))]) (S54_2 columns kinds p K)) (S54_2 columns kinds p K)
@[reducible] def S54_4 (columns : LC) (kinds : (List Int)) (p : TPart.D) (K : KA) : Prop := cond (decide (p.1 = (7 : Int))) (cond ((decide (Z0 < (kinds.length : Int))) == true) ((0 ≤ wrap64 ((kinds.length : Int) - Z1)) ∧ (wrap64 ((kinds.length : Int) - Z1) < (kinds.length : Int)) ∧ K (.tup [.own 0 none, dB (decide ((nI kinds (wrap64 ((kinds.length : Int) - Z1))) = Z3))]) [(0, .arr false TInt kinds)]) (K (.tup [.own 0 none, dB false]) [(0, .arr false TInt kinds)])) (cond (decide (p.1 = (8 : Int))) ((0 ≤ Z0) ∧ (Z0 ≤ (maxI (wrap64 ((kinds.length : Int) - Z1)) Z0)) ∧ ((maxI (wrap64 ((kinds.length : Int) - Z1)) Z0) ≤ (kinds.length : Int)) ∧ ((maxI (wrap64 ((kinds.length : Int) - Z1)) Z0) = (maxI (wrap64 ((kinds.length : Int) - Z1)) Z0)) ∧ (Z0 = 0) ∧ (((maxI (wrap64 ((kinds.length : Int) - Z1)) Z0).toNat + [Z3].length) * 8 ≤ lim) ∧ K (.tup [.own 0 none, dB (decide (Z0 < (kinds.length : Int)))]) [(0, .arr false TInt (kinds.take (maxI (wrap64 ((kinds.length : Int) - Z1)) Z0).toNat ++ [Z3]))]) (K (.tup [.own 0 none, dB false]) [(0, .arr false TInt kinds)]))
@[reducible] def S54_5 (columns : LC) (kinds : (List Int)) (p : TPart.D) (K : KA) : Prop := cond (decide (p.1 = Z1)) ((Sm TValue p.2.2.1) ∧ cond ((!(M.valueOk p.2.2.1)) == false) (cond (decide (p.2.2.1.1 = Z0)) (K (.tup [.own 0 none, dB false]) [(0, .arr false TInt kinds)]) (((kinds.length + [p.2.2.1.1].length) * 8 ≤ lim) ∧ K (.tup [.own 0 none, dB true]) [(0, .arr false TInt (kinds ++ [p.2.2.1.1]))])) (K (.tup [.own 0 none, dB false]) [(0, .arr false TInt kinds)])) (cond (decide (p.1 = Z2)) (cond (!(M.inR p.2.1 Z0 (wrap64 ((columns.length : Int) - Z1)))) (K (.tup [.own 0 none, dB false]) [(0, .arr false TInt kinds)]) ((0 ≤ p.2.1) ∧ (p.2.1 < (columns.length : Int)) ∧ ((kinds.length + [(nC columns p.2.1).1].length) * 8 ≤ lim) ∧ K (.tup [.own 0 none, dB true]) [(0, .arr false TInt (kinds ++ [(nC columns p.2.1).1]))])) (cond (decide (p.1 = Z3)) (cond ((decide (Z1 < (kinds.length : Int))) == true) ((0 ≤ wrap64 ((kinds.length : Int) - Z1)) ∧ (wrap64 ((kinds.length : Int) - Z1) < (kinds.length : Int)) ∧ cond ((decide ((nI kinds (wrap64 ((kinds.length : Int) - Z1))) = Z1)) == true) ((0 ≤ wrap64 ((kinds.length : Int) - Z2)) ∧ (wrap64 ((kinds.length : Int) - Z2) < (kinds.length : Int)) ∧ (0 ≤ Z0) ∧ (Z0 ≤ (maxI (wrap64 ((kinds.length : Int) - Z2)) Z0)) ∧ ((maxI (wrap64 ((kinds.length : Int) - Z2)) Z0) ≤ (kinds.length : Int)) ∧ ((maxI (wrap64 ((kinds.length : Int) - Z2)) Z0) = (maxI (wrap64 ((kinds.length : Int) - Z2)) Z0)) ∧ (Z0 = 0) ∧ (((maxI (wrap64 ((kinds.length : Int) - Z2)) Z0).toNat + [Z1].length) * 8 ≤ lim) ∧ K (.tup [.own 0 none, dB (decide ((nI kinds (wrap64 ((kinds.length : Int) - Z2))) = Z1))]) [(0, .arr false TInt (kinds.take (maxI (wrap64 ((kinds.length : Int) - Z2)) Z0).toNat ++ [Z1]))]) (S54_0 columns kinds p K)) (S54_0 columns kinds p K)) (cond (decide (p.1 = Z4)) (cond ((decide (Z1 < (kinds.length : Int))) == true) ((0 ≤ wrap64 ((kinds.length : Int) - Z1)) ∧ (wrap64 ((kinds.length : Int) - Z1) < (kinds.length : Int)) ∧ (0 ≤ wrap64 ((kinds.length : Int) - Z2)) ∧ (wrap64 ((kinds.length : Int) - Z2) < (kinds.length : Int)) ∧ cond ((decide ((nI kinds (wrap64 ((kinds.length : Int) - Z1))) = (nI kinds (wrap64 ((kinds.length : Int) - Z2))))) == true) ((0 ≤ Z0) ∧ (Z0 ≤ (maxI (wrap64 ((kinds.length : Int) - Z2)) Z0)) ∧ ((maxI (wrap64 ((kinds.length : Int) - Z2)) Z0) ≤ (kinds.length : Int)) ∧ ((maxI (wrap64 ((kinds.length : Int) - Z2)) Z0) = (maxI (wrap64 ((kinds.length : Int) - Z2)) Z0)) ∧ (Z0 = 0) ∧ (((maxI (wrap64 ((kinds.length : Int) - Z2)) Z0).toNat + [Z3].length) * 8 ≤ lim) ∧ K (.tup [.own 0 none, dB (M.inR p.2.1 Z1 Z4)]) [(0, .arr false TInt (kinds.take (maxI (wrap64 ((kinds.length : Int) - Z2)) Z0).toNat ++ [Z3]))]) (S54_2 columns kinds p K)) (S54_2 columns kinds p K)) (cond (decide (p.1 = Z5)) (cond (decide (p.1 = Z5)) (S54_3 columns kinds p K) (S54_4 columns kinds p K)) (cond (decide (p.1 = Z6)) (S54_3 columns kinds p K) (S54_4 columns kinds p K))))))
@[reducible] def S54_6 (columns : LC) (kinds : (List Int)) (p : TPart.D) (K : KA) : Prop := cond ((!decide (p.1 = Z2)) == true) (cond ((!decide (p.1 = Z4)) == true) (cond (!decide (p.2.1 = Z0)) (K (.tup [.own 0 none, dB false]) [(0, .arr false TInt kinds)]) (S54_5 columns kinds p K)) (S54_5 columns kinds p K)) (S54_5 columns kinds p K)
theorem vc54 (columns : LC) (kinds : (List Int)) (p : TPart.D) (K : KA) : vcT C54 noLoops ann54 f54 [.data TCS columns, .own 0 none, .data TPart p] [(0, .arr false TInt kinds)] .raw K =
 (cond ((!decide (p.1 = Z1)) == true) (cond ((!(Ty.beq TValue p.2.2.1 (Z0, (Z0, ((⟨#[]⟩ : ByteArray), ()))))) == false) (S54_6 columns kinds p K) (K (.tup [.own 0 none, dB false]) [(0, .arr false TInt kinds)])) (S54_6 columns kinds p K)) := by kernel_rfl
theorem con54_ok : Con1 P 54 c54 := conR C54 func54 (kC con39_ok (kC con86_ok kN)) fun args hp K h0 => by
 unfold c54 at h0
 dsimp only at h0
 obtain ⟨kinds, rfl, h00⟩ := hpN_elim (n := 0) (d := false) (t := TInt) h0
 obtain ⟨a0, a1, a2, rfl, _, h1⟩ := args3_elim h00
 obtain ⟨columns, rfl, h2⟩ := withD_elim h1
 obtain ⟨rfl, h3⟩ := withO_elim h2
 obtain ⟨p, rfl, h4⟩ := withD_elim h3
 obtain ⟨h_columns, h_kinds, h_p, p0, hK⟩ := h4
 have h : ok (F.spec_l4Step columns kinds p) (fun r => K (.tup [.own 0 none, dB r.2]) [(0, .arr false TInt r.1)]) := ok_of_eq (F.spec_l4Step_eq columns kinds p h_columns h_kinds h_p p0) (hK _ rfl)
 refine ⟨rfl, ann54, noLoops, .raw, (no_loops (by kernel_rfl)), ?_⟩
 ·rw [vc54]
  exact (oC h (fun b_1 h => (oC h (fun _ h => (oC h (fun b_3 h => (oC h (fun b_4 h => (oC h (fun _ h => h) fun _ h => (cond_f (bnt (bet b_1)) (cond_f (bnt (bet b_3)) (oC h (fun _ h => (oC h (fun _ h => (oG h fun _ h => (oG h fun _ h => (oC h (fun _ h => (oG h fun _ h => (oG h fun _ h => ⟨(Int.natCast_nonneg 0), (oG h fun _ h => (oG h fun _ h => ⟨rfl, ⟨rfl, (oG h fun _ h => h)⟩⟩))⟩))) fun _ h => ⟨(Int.natCast_nonneg 0), (oG h fun _ h => (oG h fun _ h => ⟨rfl, ⟨rfl, (oG h fun _ h => h)⟩⟩))⟩)))) fun _ h => ⟨(Int.natCast_nonneg 0), (oG h fun _ h => (oG h fun _ h => ⟨rfl, ⟨rfl, (oG h fun _ h => h)⟩⟩))⟩)) fun _ h => (cond_f (bnt (bet b_4)) (oC h (fun b_43 h => (cond_t b_43 (oC h (fun _ h => (oG h fun _ h => (oG h fun _ h => (oC h (fun _ h => (oG h fun _ h => (oG h fun _ h => ⟨(Int.natCast_nonneg 0), (oG h fun _ h => (oG h fun _ h => ⟨rfl, ⟨rfl, (oG h fun _ h => h)⟩⟩))⟩))) fun _ h => ⟨(Int.natCast_nonneg 0), (oG h fun _ h => (oG h fun _ h => ⟨rfl, ⟨rfl, (oG h fun _ h => h)⟩⟩))⟩)))) fun _ h => ⟨(Int.natCast_nonneg 0), (oG h fun _ h => (oG h fun _ h => ⟨rfl, ⟨rfl, (oG h fun _ h => h)⟩⟩))⟩))) fun _ h => (oC h (fun _ h => (oC h (fun _ h => (oG h fun _ h => (oG h fun _ h => (oC h (fun _ h => (oG h fun _ h => (oG h fun _ h => ⟨(Int.natCast_nonneg 0), (oG h fun _ h => (oG h fun _ h => ⟨rfl, ⟨rfl, (oG h fun _ h => h)⟩⟩))⟩))) fun _ h => ⟨(Int.natCast_nonneg 0), (oG h fun _ h => (oG h fun _ h => ⟨rfl, ⟨rfl, (oG h fun _ h => h)⟩⟩))⟩)))) fun _ h => ⟨(Int.natCast_nonneg 0), (oG h fun _ h => (oG h fun _ h => ⟨rfl, ⟨rfl, (oG h fun _ h => h)⟩⟩))⟩)) fun _ h => (oC h (fun _ h => (oC h (fun _ h => (oG h fun _ h => (oG h fun _ h => h))) fun _ h => h)) fun _ h => (oC h (fun _ h => ⟨(Int.natCast_nonneg 0), (oG h fun _ h => (oG h fun _ h => ⟨rfl, ⟨rfl, (oG h fun _ h => h)⟩⟩))⟩) fun _ h => h)))))))))) fun b_4 h => (cond_f (bnt (bet b_1)) (cond_f (bnt (bet b_3)) (cond_f (dec_ne (bnf (bef b_4)) (by decide)) (cond_t (bnf (bef b_4)) (oC h (fun _ h => (oG h fun _ h => (oG h fun _ h => (oG h fun _ h => (oG h fun _ h => (oC h (fun _ h => ⟨(Int.natCast_nonneg 0), (oG h fun _ h => (oG h fun _ h => ⟨rfl, ⟨rfl, (oG h fun _ h => h)⟩⟩))⟩) fun _ h => ⟨(Int.natCast_nonneg 0), (oG h fun _ h => (oG h fun _ h => ⟨rfl, ⟨rfl, (oG h fun _ h => h)⟩⟩))⟩)))))) fun _ h => ⟨(Int.natCast_nonneg 0), (oG h fun _ h => (oG h fun _ h => ⟨rfl, ⟨rfl, (oG h fun _ h => h)⟩⟩))⟩))))))) fun b_3 h => (cond_f (bnt (bet b_1)) (cond_t (bnf (bef b_3)) (oC h (fun _ h => h) fun b_182 h => ⟨(inR_lo (bnf b_182)), ⟨(inR_hi (bnf b_182)), ⟨(sm_lim2 h_kinds (sm_one trivial) rfl), h⟩⟩⟩))))) fun _ h => h)) fun b_1 h => (cond_t (uet (unt (dec_ne (bnf (bef b_1)) (by decide)))) (cond_t (uet (unt (dec_ne (bnf (bef b_1)) (by decide)))) (oC h (fun _ h => h) fun _ h => (cond_t (bnf (bef b_1)) ⟨h_p.2.2.1, (oC h (fun _ h => (oC h (fun _ h => h) fun _ h => ⟨(sm_lim2 h_kinds (sm_one trivial) rfl), h⟩)) fun _ h => h)⟩)))))
def c24 : Con := ⟨[.dat TCS, .dat TPS], fun args hp K => g2 (pD TCS) (pD TPS) (fun columns e => (Sm TCS columns) ∧ (Sm TPS e) ∧ K (dI (M.exprKind columns e)) []) args hp, .plain⟩
@[reducible] def C24 : Ctx := cx [(53, c53), (54, c54)] 46 [] 0 false
def ann24 := an [[kp 3], [kp 32771], [kp 16], [kp 35], [kp 99], [kp 227], [kp 8388835], [kp 227], [kp 227], [.keep [5, 42]], [kp 16], [kp 16]] [[kp 96]]
@[reducible] def s24_0 (columns : LC) (e : LPt) (v0 : Bool × Int × (List Int)) : St := ⟨[(0, .data TCS columns), (1, .data TPS e), (5, .own 16 none), (6, dB v0.1), (7, dI v0.2.1)], [(16, .arr false TInt v0.2.2)]⟩
@[reducible] def LP24_0 (columns : LC) (e : LPt) (m : Nat) (st_ : St) (K : KX) : Prop := True ∧ LoopW (s24_0 columns e) (F.spec_ExprKind_l0 columns e) (fun v0 : Bool × Int × (List Int) => True) (fun e0 : Bool × (List Int) => True → K (.exit 0) (⟨[(5, .own 16 none), (6, dB e0.1)], [(16, .arr false TInt e0.2)]⟩ : St)) m st_
def L24 (columns : LC) (e : LPt) : Loops := lp1 0 (LP24_0 columns e)
theorem vc24 (columns : LC) (e : LPt) (K : KA) : vcT C24 (L24 columns e) ann24 f24 [.data TCS columns, .data TPS e] [] (.dat TInt) K =
 ((Sm TCS columns) ∧ cond ((!(M.columnsOk columns)) == false) (cond (decide ((12 : Int) < (e.length : Int))) (K (dI (-1 : Int)) []) (∃ m_, True ∧ LoopW (s24_0 columns e) (F.spec_ExprKind_l0 columns e) (fun v0 : Bool × Int × (List Int) => True) (fun e0 : Bool × (List Int) => True → cond ((!e0.1) == false) (cond (!decide ((e0.2.length : Int) = Z1)) (K (dI (-1 : Int)) []) ((0 ≤ Z0) ∧ (Z0 < (e0.2.length : Int)) ∧ K (dI (nI e0.2 Z0)) [])) (K (dI (-1 : Int)) [])) m_ (s24_0 columns e (true, Z0, [])))) (K (dI (-1 : Int)) [])) := by kernel_rfl
theorem lvc24_0 (columns : LC) (e : LPt)  (v0 : Bool × Int × (List Int)) (m : Nat) (K : KX) : lvT C24 (L24 columns e) ann24 f24 0 0 (s24_0 columns e v0) m K =
 (cond ((decide (v0.2.1 < (e.length : Int))) == true) (cond v0.1 ((0 ≤ v0.2.1) ∧ (v0.2.1 < (e.length : Int)) ∧ (Sm TCS columns) ∧ (Sm (Ty.sl TInt) v0.2.2) ∧ (Sm TPart (nP e v0.2.1)) ∧ (v0.2.2.length ≤ 1000) ∧ (∀ r1 : (List Int) × Bool, r1 = (M.l4Step columns v0.2.2 (nP e v0.2.1)) → (nxT (LP24_0 columns e) m K (s24_0 columns e (r1.2, wrap64 (v0.2.1 + Z1), r1.1))))) (K (.exit 0) (⟨[(5, .own 16 none), (6, dB v0.1)], [(16, .arr false TInt v0.2.2)]⟩ : St))) (K (.exit 0) (⟨[(5, .own 16 none), (6, dB v0.1)], [(16, .arr false TInt v0.2.2)]⟩ : St))) := by kernel_rfl
theorem con24_ok : Con1 P 24 c24 := conR C24 func24 (kC con53_ok (kC con54_ok kN)) fun args hp K h0 => by
 obtain ⟨columns, e, rfl, rfl, h_columns, h_e, hK⟩ := g2e h0
 have h : ok (F.spec_ExprKind columns e) (fun r => K (dI r) []) := ok_of_eq (F.spec_ExprKind_eq columns e h_columns h_e) hK
 refine ⟨rfl, ann24, (L24 columns e), (.dat TInt), (loopsN1 (i0 := 0) (by kernel_rfl) ?_), ?_⟩
 ·rintro _ _ K ⟨hc0, v0, rfl, hv0, h⟩
  exact cast (lvc24_0 _ _ _ _ _).symm (loopW_step h (fun m1 hm0 h => (oC h (fun _ h => (oC h (fun _ h => (oG h fun _ h => (oG h fun _ h => ⟨h_columns, (oG h fun _ h => ⟨(sm_nth h_e v0.2.1), (oG h fun _ h => (oL h fun _ _ h => (loopW_next (fun _ hm => ⟨hc0, hm⟩) hm0 _ rfl trivial h)))⟩)⟩))) fun _ h => ((ok_ret h :) trivial))) fun _ h => ((ok_ret h :) trivial))))
 ·rw [vc24]
  exact ⟨h_columns, (oC h (fun _ h => (oC h (fun _ h => h) fun _ h => (loopW_start (fun m hm => ⟨trivial, hm⟩) _ rfl trivial (ok_bind h (fun e0 h hv0 => (oC h (fun _ h => (oC h (fun _ h => h) fun _ h => ⟨(Int.natCast_nonneg 0), (oG h fun _ h => h)⟩)) fun _ h => h)))))) fun _ h => h)⟩
def c25 : Con := ⟨[.dat TCS, .dat TPS], fun args hp K => g2 (pD TCS) (pD TPS) (fun columns e => (Sm TCS columns) ∧ (Sm TPS e) ∧ (∀ r : (List Int), r = (M.exprColumns columns e) → K (.own 0 none) [(0, .arr false TInt r)])) args hp, .plain⟩
@[reducible] def C25 : Ctx := cx [(24, c24)] 52 [] 0 false
def ann25 := an [[kp 3], [kp 35], [kp 99], [kp 524387], [kp 99], [kp 227], [kp 483], [kp 33554915], [kp 483], [kp 483], [kp 70368744177763], [kp 99], [kp 16]] [[kp 32], [], [kp 227]]
@[reducible] def s25_0 (columns : LC) (e : LPt) (v0 : Int × (List Int)) : St := ⟨[(0, .data TCS columns), (1, .data TPS e), (5, .own 9 none), (6, dI v0.1)], [(9, .arr false TInt v0.2)]⟩
@[reducible] def LP25_0 (columns : LC) (e : LPt) (m : Nat) (st_ : St) (K : KX) : Prop := True ∧ LoopW (s25_0 columns e) (F.spec_ExprColumns_l0 columns e) (fun v0 : Int × (List Int) => True) (fun e0 : (List Int) => True → K (.exit 0) (⟨[(5, .own 9 none)], [(9, .arr false TInt e0)]⟩ : St)) m st_
@[reducible] def s25_2 (columns : LC) (e : LPt) (c2_0 : Int) (c2_1 : (List Int)) (i2 : Int) (v2 : Bool) : St := ⟨[(0, .data TCS columns), (1, .data TPS e), (5, .own 9 none), (6, dI c2_0), (7, dB v2), (8, dI i2)], [(9, .arr false TInt c2_1)]⟩
@[reducible] def LP25_2 (columns : LC) (e : LPt) (m : Nat) (st_ : St) (K : KX) : Prop := ∃ c2_0 : Int, ∃ c2_1 : (List Int), True ∧ LoopE (t := TPart) (s25_2 columns e c2_0 c2_1) e (F.spec_ExprColumns_l2 columns e c2_0 c2_1) (fun v2 : Bool => True) (outD (fun v2 : Bool => True → K (.exit 2) (⟨[(0, .data TCS columns), (1, .data TPS e), (5, .own 9 none), (6, dI c2_0), (7, dB v2)], [(9, .arr false TInt c2_1)]⟩ : St)) (fun _ => False)) m st_
def L25 (columns : LC) (e : LPt) : Loops := lp2 0 (LP25_0 columns e) 2 (LP25_2 columns e)
theorem vc25 (columns : LC) (e : LPt) (K : KA) : vcT C25 (L25 columns e) ann25 f25 [.data TCS columns, .data TPS e] [] .raw K =
 (∃ m_, True ∧ LoopW (s25_0 columns e) (F.spec_ExprColumns_l0 columns e) (fun v0 : Int × (List Int) => True) (fun e0 : (List Int) => True → K (.own 0 none) [(0, .arr false TInt e0)]) m_ (s25_0 columns e (Z0, []))) := by kernel_rfl
theorem lvc25_0 (columns : LC) (e : LPt)  (v0 : Int × (List Int)) (m : Nat) (K : KX) : lvT C25 (L25 columns e) ann25 f25 0 0 (s25_0 columns e v0) m K =
 (cond ((decide (v0.1 < (columns.length : Int))) == true) ((Sm TCS columns) ∧ (Sm TPS e) ∧ cond (decide (Z0 ≤ (M.exprKind columns e))) (∃ m_, ∃ c2_0 : Int, ∃ c2_1 : (List Int), True ∧ LoopE (t := TPart) (s25_2 columns e c2_0 c2_1) e (F.spec_ExprColumns_l2 columns e c2_0 c2_1) (fun v2 : Bool => True) (outD (fun v2 : Bool => True → cond v2 (((c2_1.length + [c2_0].length) * 8 ≤ lim) ∧ (nxT (LP25_0 columns e) m K (s25_0 columns e (wrap64 (c2_0 + Z1), (c2_1 ++ [c2_0]))))) (nxT (LP25_0 columns e) m K (s25_0 columns e (wrap64 (c2_0 + Z1), c2_1)))) (fun _ => False)) m_ (s25_2 columns e v0.1 v0.2 Z0 false)) (K (.exit 0) (⟨[(5, .own 9 none)], [(9, .arr false TInt v0.2)]⟩ : St))) (K (.exit 0) (⟨[(5, .own 9 none)], [(9, .arr false TInt v0.2)]⟩ : St))) := by kernel_rfl
theorem lvc25_1 (columns : LC) (e : LPt) (c2_0 : Int) (c2_1 : (List Int)) (i2 : Int) (v2 : Bool) (m : Nat) (K : KX) : lvT C25 (L25 columns e) ann25 f25 1 2 (s25_2 columns e c2_0 c2_1 i2 v2) m K =
 (cond (decide (i2 < (e.length : Int))) (cond (v2 == false) ((0 ≤ i2) ∧ (i2 < (e.length : Int)) ∧ cond ((decide ((nP e i2).1 = Z2)) == true) ((0 ≤ i2) ∧ (i2 < (e.length : Int)) ∧ (nxT (LP25_2 columns e) m K (s25_2 columns e c2_0 c2_1 (wrap64 (i2 + Z1)) (decide ((nP e i2).2.1 = c2_0))))) (nxT (LP25_2 columns e) m K (s25_2 columns e c2_0 c2_1 (wrap64 (i2 + Z1)) false))) (nxT (LP25_2 columns e) m K (s25_2 columns e c2_0 c2_1 (wrap64 (i2 + Z1)) true))) (K (.exit 2) (⟨[(0, .data TCS columns), (1, .data TPS e), (5, .own 9 none), (6, dI c2_0), (7, dB v2)], [(9, .arr false TInt c2_1)]⟩ : St))) := by kernel_rfl
theorem con25_ok : Con1 P 25 c25 := conR C25 func25 (kC con24_ok kN) fun args hp K h0 => by
 obtain ⟨columns, e, rfl, rfl, h_columns, h_e, hK⟩ := g2e h0
 have h : ok (F.spec_ExprColumns columns e) (fun r => K (.own 0 none) [(0, .arr false TInt r)]) := ok_of_eq (F.spec_ExprColumns_eq columns e h_columns h_e) (hK _ rfl)
 refine ⟨rfl, ann25, (L25 columns e), .raw, (loopsN2 (i0 := 0) (i1 := 2) (by kernel_rfl) ?_ ?_), ?_⟩
 ·rintro _ _ K ⟨hc0, v0, rfl, hv0, h⟩
  exact cast (lvc25_0 _ _ _ _ _).symm (loopW_step h (fun m1 hm0 h => (oC h (fun _ h => ⟨h_columns, ⟨h_e, (oC h (fun _ h => (loopE_start (t := TPart) (fun m hm => ⟨v0.1, v0.2, trivial, hm⟩) _ rfl trivial (ok_then h (fun v2 h hv2 => (oC h (fun _ h => (oG h fun _ h => (loopW_next (fun _ hm => ⟨hc0, hm⟩) hm0 _ rfl trivial h))) fun _ h => (loopW_next (fun _ hm => ⟨hc0, hm⟩) hm0 _ rfl trivial h))) (fun _ h => h.elim)))) fun _ h => ((ok_ret h :) trivial))⟩⟩) fun _ h => ((ok_ret h :) trivial))))
 ·rintro _ _ K ⟨c2_0, c2_1, hc2, i2, v2, rfl, hl2, rfl, hv2, h⟩
  exact cast (lvc25_1 _ _ _ _ _ _ _ _).symm (loopE_step (t := TPart) hl2 h (fun ht2 h => (oC h (fun _ h => ⟨hl2, ⟨ht2, (oC h (fun _ h => ⟨hl2, ⟨ht2, (loopE_next (t := TPart) (fun _ hm => ⟨c2_0, c2_1, hc2, hm⟩) _ rfl hl2 ht2 (sm_len h_e) trivial h)⟩⟩) fun _ h => (loopE_next (t := TPart) (fun _ hm => ⟨c2_0, c2_1, hc2, hm⟩) _ rfl hl2 ht2 (sm_len h_e) trivial h))⟩⟩) fun _ h => (loopE_next (t := TPart) (fun _ hm => ⟨c2_0, c2_1, hc2, hm⟩) _ rfl hl2 ht2 (sm_len h_e) trivial h))) fun h => (h trivial))
 ·rw [vc25]
  exact (loopW_start (fun m hm => ⟨trivial, hm⟩) _ rfl trivial (ok_bind h (fun e0 h hv0 => h)))
def c87 : Con := ⟨[.dat TValue, .dat TValue], fun args hp K => g2 (pD TValue) (pD TValue) (fun a b => (Sm TValue a) ∧ (Sm TValue b) ∧ (∀ r : TValue.D, r = (M.sum a b) → K (.data TValue r) [])) args hp, .plain⟩
@[reducible] def C87 : Ctx := cx [(39, c39)] 27 [] 0 false
def ann87 := an [[.fixRow 2 TValue, .fixRow 3 TValue, kp 28], [kp 60], [kp 8388656], [kp 16], [kp 16]] []
theorem vc87 (a : TValue.D) (b : TValue.D) (K : KA) : vcT C87 noLoops ann87 f87 [.data TValue a, .data TValue b] [] (.dat TValue) K =
 (cond ((decide (a.1 = Z0)) == false) (cond ((decide (b.1 = Z0)) == false) (cond (!(M.inR (wrap64 (a.2.1 + b.2.1)) (-9999 : Int) (9999 : Int))) (K (.data TValue (Z0, (Z0, ((⟨#[]⟩ : ByteArray), ())))) []) (K (.data TValue (Z1, (wrap64 (a.2.1 + b.2.1), ((⟨#[]⟩ : ByteArray), ())))) [])) (K (.data TValue (Z0, (Z0, ((⟨#[]⟩ : ByteArray), ())))) [])) (K (.data TValue (Z0, (Z0, ((⟨#[]⟩ : ByteArray), ())))) [])) := by kernel_rfl
theorem con87_ok : Con1 P 87 c87 := conR C87 func87 (kC con39_ok kN) fun args hp K h0 => by
 obtain ⟨a, b, rfl, rfl, h_a, h_b, hK⟩ := g2e h0
 have h : ok (F.spec_l4Sum a b) (fun r => K (.data TValue r) []) := ok_of_eq (F.spec_l4Sum_eq a b h_a h_b) (hK _ rfl)
 refine ⟨rfl, ann87, noLoops, (.dat TValue), (no_loops (by kernel_rfl)), ?_⟩
 ·rw [vc87]
  exact (oC h (fun _ h => (oC h (fun _ h => (oC h (fun _ h => h) fun _ h => h)) fun _ h => h)) fun _ h => h)
def c88 : Con := ⟨[.dat TInt], fun args hp K => g1 (pD TInt) (fun truth => (∀ r : TValue.D, r = (M.valueOf truth) → K (.data TValue r) [])) args hp, .plain⟩
@[reducible] def C88 : Ctx := cx [] 12 [] 0 false
def ann88 := an [[kp 5], [kp 261], [kp 4], [kp 4]] []
theorem vc88 (truth : Int) (K : KA) : vcT C88 noLoops ann88 f88 [dI truth] [] (.dat TValue) K =
 (cond ((decide (truth = Z0)) == false) (cond (decide (truth = Z1)) (K (.data TValue (Z3, (truth, ((⟨#[]⟩ : ByteArray), ())))) []) (K (.data TValue (Z0, (Z0, ((⟨#[]⟩ : ByteArray), ())))) [])) (K (.data TValue (Z3, (truth, ((⟨#[]⟩ : ByteArray), ())))) [])) := by kernel_rfl
theorem con88_ok : Con1 P 88 c88 := conR C88 func88 kN fun args hp K h0 => by
 obtain ⟨truth, rfl, rfl, hK⟩ := g1e h0
 have h : ok (F.spec_ValueOf truth) (fun r => K (.data TValue r) []) := ok_of_eq (F.spec_ValueOf_eq truth) (hK _ rfl)
 refine ⟨rfl, ann88, noLoops, (.dat TValue), (no_loops (by kernel_rfl)), ?_⟩
 ·rw [vc88]
  exact (oC h (fun _ h => (oC h (fun _ h => h) fun _ h => h)) fun _ h => h)
def c94 : Con := ⟨[.dat Ty.bool], fun args hp K => g1 (pD Ty.bool) (fun b => K (dI (M.bool b)) []) args hp, .plain⟩
@[reducible] def C94 : Ctx := cx [] 4 [] 0 false
def ann94 := an [[kp 1], [kp 8], [kp 4], [kp 4]] []
theorem vc94 (b : Bool) (K : KA) : vcT C94 noLoops ann94 f94 [dB b] [] (.dat TInt) K =
 (cond b (K (dI Z1) []) (K (dI Z0) [])) := by kernel_rfl
theorem con94_ok : Con1 P 94 c94 := conR C94 func94 kN fun args hp K h0 => by
 obtain ⟨b, rfl, rfl, hK⟩ := g1e h0
 have h : ok (F.spec_l2Bool b) (fun r => K (dI r) []) := ok_of_eq (F.spec_l2Bool_eq b) hK
 refine ⟨rfl, ann94, noLoops, (.dat TInt), (no_loops (by kernel_rfl)), ?_⟩
 ·rw [vc94]
  exact (oC h (fun _ h => h) fun _ h => h)
def c153 : Con := ⟨[.dat TInt, .dat TInt], fun args hp K => g2 (pD TInt) (pD TInt) (fun a b => K (dI (M.less a b)) []) args hp, .plain⟩
@[reducible] def C153 : Ctx := cx [] 8 [] 0 false
def ann153 := an [[kp 3], [kp 128], [kp 16], [kp 16]] []
theorem vc153 (a : Int) (b : Int) (K : KA) : vcT C153 noLoops ann153 f153 [dI a, dI b] [] (.dat TInt) K =
 (cond (decide (a < b)) (K (dI Z1) []) (K (dI Z0) [])) := by kernel_rfl
theorem con153_ok : Con1 P 153 c153 := conR C153 func153 kN fun args hp K h0 => by
 obtain ⟨a, b, rfl, rfl, hK⟩ := g2e h0
 have h : ok (F.spec_l1Less a b) (fun r => K (dI r) []) := ok_of_eq (F.spec_l1Less_eq a b) hK
 refine ⟨rfl, ann153, noLoops, (.dat TInt), (no_loops (by kernel_rfl)), ?_⟩
 ·rw [vc153]
  exact (oC h (fun _ h => h) fun _ h => h)
def c154 : Con := ⟨[.dat Ty.str, .dat Ty.str], fun args hp K => g2 (pD Ty.str) (pD Ty.str) (fun a b => (Sm Ty.str a) ∧ (Sm Ty.str b) ∧ K (dI (M.cmpS a b)) []) args hp, .plain⟩
@[reducible] def C154 : Ctx := cx [] 11 [] 0 false
def ann154 := an [[kp 3], [kp 131], [kp 16], [kp 1024], [kp 16], [kp 16]] []
theorem vc154 (a : ByteArray) (b : ByteArray) (K : KA) : vcT C154 noLoops ann154 f154 [.data Ty.str a, .data Ty.str b] [] (.dat TInt) K =
 (cond (Op.bytesLess a.toList b.toList) (K (dI (-1 : Int)) []) (cond (!(Op.bytesLess a.toList b.toList || decide (a = b))) (K (dI Z1) []) (K (dI Z0) []))) := by kernel_rfl
theorem con154_ok : Con1 P 154 c154 := conR C154 func154 kN fun args hp K h0 => by
 obtain ⟨a, b, rfl, rfl, h_a, h_b, hK⟩ := g2e h0
 have h : ok (F.spec_l1Cmp a b) (fun r => K (dI r) []) := ok_of_eq (F.spec_l1Cmp_eq a b h_a h_b) hK
 refine ⟨rfl, ann154, noLoops, (.dat TInt), (no_loops (by kernel_rfl)), ?_⟩
 ·rw [vc154]
  exact (oC h (fun _ h => h) fun _ h => (oC h (fun _ h => h) fun _ h => h))
def c128 : Con := ⟨[.dat TValue, .dat TValue], fun args hp K => g2 (pD TValue) (pD TValue) (fun a b => (Sm TValue a) ∧ (Sm TValue b) ∧ K (dI (M.valueOrder a b)) []) args hp, .plain⟩
@[reducible] def C128 : Ctx := cx [(86, c86), (153, c153), (154, c154)] 44 [] 0 false
def ann128 := an [[.fixRow 2 TValue, .fixRow 3 TValue, kp 12], [kp 4108], [kp 16], [kp 8204], [kp 16], [kp 67108876], [kp 16], [kp 16]] []
theorem vc128 (a : TValue.D) (b : TValue.D) (K : KA) : vcT C128 noLoops ann128 f128 [.data TValue a, .data TValue b] [] (.dat TInt) K =
 ((Sm TValue a) ∧ cond ((!(M.valueOk a)) == false) ((Sm TValue b) ∧ cond (!(M.valueOk b)) (K (dI Z0) []) (cond (!decide (a.1 = b.1)) (K (dI (wrap64 (wrap64 (Z2 * (M.less b.1 a.1)) - Z1))) []) (cond (!decide (a.2.1 = b.2.1)) (K (dI (wrap64 (wrap64 (Z2 * (M.less b.2.1 a.2.1)) - Z1))) []) ((Sm Ty.str a.2.2.1) ∧ (Sm Ty.str b.2.2.1) ∧ K (dI (M.cmpS a.2.2.1 b.2.2.1)) [])))) (K (dI Z0) [])) := by kernel_rfl
theorem con128_ok : Con1 P 128 c128 := conR C128 func128 (kC con86_ok (kC con153_ok (kC con154_ok kN))) fun args hp K h0 => by
 obtain ⟨a, b, rfl, rfl, h_a, h_b, hK⟩ := g2e h0
 have h : ok (F.spec_ValueOrder a b) (fun r => K (dI r) []) := ok_of_eq (F.spec_ValueOrder_eq a b h_a h_b) hK
 refine ⟨rfl, ann128, noLoops, (.dat TInt), (no_loops (by kernel_rfl)), ?_⟩
 ·rw [vc128]
  exact ⟨h_a, (oC h (fun _ h => ⟨h_b, (oC h (fun _ h => h) fun _ h => (oC h (fun _ h => h) fun _ h => (oC h (fun _ h => h) fun _ h => ⟨h_a.2.2.1, ⟨h_b.2.2.1, h⟩⟩)))⟩) fun _ h => h)⟩
def c89 : Con := ⟨[.dat TInt, .dat TValue, .dat TValue], fun args hp K => g3 (pD TInt) (pD TValue) (pD TValue) (fun kind a b => (Sm TValue a) ∧ (Sm TValue b) ∧ K (dI (M.compare kind a b)) []) args hp, .plain⟩
@[reducible] def C89 : Ctx := cx [(39, c39), (86, c86), (94, c94), (128, c128)] 65 [] 0 false
def ann89 := an [[.fixRow 4 TValue, .fixRow 5 TValue, kp 49], [kp 177], [kp 64], [kp 2097201], [kp 64], [kp 1073741873], [kp 64], [kp 68719476785], [kp 64], [kp 17592186044465], [kp 64], [.keep [4, 5, 52]], [kp 64], [kp 64]] []
theorem vc89 (kind : Int) (a : TValue.D) (b : TValue.D) (K : KA) : vcT C89 noLoops ann89 f89 [dI kind, .data TValue a, .data TValue b] [] (.dat TInt) K =
 (cond ((!(M.inR kind Z1 Z4)) == false) ((Sm TValue a) ∧ cond ((!(M.valueOk a)) == false) ((Sm TValue b) ∧ cond (!(M.valueOk b)) (K (dI (-1 : Int)) []) (cond ((decide (a.1 = Z0)) == false) (cond (decide (b.1 = Z0)) (K (dI Z2) []) (cond (!decide (a.1 = b.1)) (K (dI (-1 : Int)) []) (cond (decide (kind = Z1)) ((Sm TValue a) ∧ (Sm TValue b) ∧ K (dI (M.bool (decide ((M.valueOrder a b) = Z0)))) []) (cond (decide (kind = Z2)) ((Sm TValue a) ∧ (Sm TValue b) ∧ K (dI (M.bool (!decide ((M.valueOrder a b) = Z0)))) []) (cond (decide (kind = Z3)) ((Sm TValue a) ∧ (Sm TValue b) ∧ K (dI (M.bool (decide ((M.valueOrder a b) < Z0)))) []) ((Sm TValue a) ∧ (Sm TValue b) ∧ K (dI (M.bool (decide ((M.valueOrder a b) ≤ Z0)))) [])))))) (K (dI Z2) []))) (K (dI (-1 : Int)) [])) (K (dI (-1 : Int)) [])) := by kernel_rfl
theorem con89_ok : Con1 P 89 c89 := conR C89 func89 (kC con39_ok (kC con86_ok (kC con94_ok (kC con128_ok kN)))) fun args hp K h0 => by
 obtain ⟨kind, a, b, rfl, rfl, h_a, h_b, hK⟩ := g3e h0
 have h : ok (F.spec_Compare kind a b) (fun r => K (dI r) []) := ok_of_eq (F.spec_Compare_eq kind a b h_a h_b) hK
 refine ⟨rfl, ann89, noLoops, (.dat TInt), (no_loops (by kernel_rfl)), ?_⟩
 ·rw [vc89]
  exact (oC h (fun _ h => ⟨h_a, (oC h (fun _ h => ⟨h_b, (oC h (fun _ h => h) fun _ h => (oC h (fun _ h => (oC h (fun _ h => h) fun _ h => (oC h (fun _ h => h) fun _ h => (oC h (fun _ h => ⟨h_a, ⟨h_b, h⟩⟩) fun _ h => (oC h (fun _ h => ⟨h_a, ⟨h_b, h⟩⟩) fun _ h => (oC h (fun _ h => ⟨h_a, ⟨h_b, h⟩⟩) fun _ h => ⟨h_a, ⟨h_b, h⟩⟩)))))) fun _ h => h))⟩) fun _ h => h)⟩) fun _ h => h)
def c129 : Con := ⟨[.dat TInt], fun args hp K => g1 (pD TInt) (fun n => K (dB (M.inR n 0 2)) []) args hp, .plain⟩
@[reducible] def C129 : Ctx := cx [(39, c39)] 5 [] 0 false
def ann129 := an [[kp 1], [kp 4]] []
theorem vc129 (n : Int) (K : KA) : vcT C129 noLoops ann129 f129 [dI n] [] (.dat Ty.bool) K =
 (K (dB (M.inR n Z0 Z2)) []) := by kernel_rfl
theorem con129_ok : Con1 P 129 c129 := conR C129 func129 (kC con39_ok kN) fun args hp K h0 => by
 obtain ⟨n, rfl, rfl, hK⟩ := g1e h0
 have h : ok (F.spec_TruthOk n) (fun r => K (dB r) []) := ok_of_eq (F.spec_TruthOk_eq n) hK
 refine ⟨rfl, ann129, noLoops, (.dat Ty.bool), (no_loops (by kernel_rfl)), ?_⟩
 ·rw [vc129]
  exact h
def c130 : Con := ⟨[.dat TInt], fun args hp K => g1 (pD TInt) (fun n => (M.inR n 0 2 = true) ∧ K (dI (M.sure n)) []) args hp, .plain⟩
@[reducible] def C130 : Ctx := cx [] 7 [] 0 false
def ann130 := an [[kp 1], [kp 4]] []
theorem vc130 (n : Int) (K : KA) : vcT C130 noLoops ann130 f130 [dI n] [] (.dat TInt) K =
 ((0 ≤ n) ∧ (n < ([Z0, Z2, Z1].length : Int)) ∧ K (dI (nI [Z0, Z2, Z1] n)) []) := by kernel_rfl
theorem con130_ok : Con1 P 130 c130 := conR C130 func130 kN fun args hp K h0 => by
 obtain ⟨n, rfl, rfl, p0, hK⟩ := g1e h0
 have h : ok (F.spec_l2Sure n) (fun r => K (dI r) []) := ok_of_eq (F.spec_l2Sure_eq n p0) hK
 refine ⟨rfl, ann130, noLoops, (.dat TInt), (no_loops (by kernel_rfl)), ?_⟩
 ·rw [vc130]
  exact (oG h fun _ h => (oG h fun _ h => h))
def c90 : Con := ⟨[.dat TInt, .dat TInt], fun args hp K => g2 (pD TInt) (pD TInt) (fun a b => K (dI (M.andOf a b)) []) args hp, .plain⟩
@[reducible] def C90 : Ctx := cx [(129, c129), (130, c130)] 19 [] 0 false
def ann90 := an [[kp 3], [kp 4099], [kp 16], [kp 16]] []
theorem vc90 (a : Int) (b : Int) (K : KA) : vcT C90 noLoops ann90 f90 [dI a, dI b] [] (.dat TInt) K =
 (cond ((!(M.inR a 0 2)) == false) (cond (!(M.inR b 0 2)) (K (dI (-1 : Int)) []) ((M.inR a 0 2 = true) ∧ (M.inR b 0 2 = true) ∧ (M.inR (minI (M.sure a) (M.sure b)) 0 2 = true) ∧ K (dI (M.sure (minI (M.sure a) (M.sure b)))) [])) (K (dI (-1 : Int)) [])) := by kernel_rfl
theorem con90_ok : Con1 P 90 c90 := conR C90 func90 (kC con129_ok (kC con130_ok kN)) fun args hp K h0 => by
 obtain ⟨a, b, rfl, rfl, hK⟩ := g2e h0
 have h : ok (F.spec_AndOf a b) (fun r => K (dI r) []) := ok_of_eq (F.spec_AndOf_eq a b) hK
 refine ⟨rfl, ann90, noLoops, (.dat TInt), (no_loops (by kernel_rfl)), ?_⟩
 ·rw [vc90]
  exact (oC h (fun b_1 h => (oC h (fun _ h => h) fun b_2 h => ⟨(bnf (bgt b_1)), ⟨(bnf b_2), (oG h fun _ h => h)⟩⟩)) fun _ h => h)
def c91 : Con := ⟨[.dat TValue], fun args hp K => g1 (pD TValue) (fun v => (Sm TValue v) ∧ K (dI (M.truthOf v)) []) args hp, .plain⟩
@[reducible] def C91 : Ctx := cx [(86, c86)] 23 [] 0 false
def ann91 := an [[.fixRow 1 TValue, kp 2], [kp 10], [kp 4], [kp 131074], [kp 4], [kp 4]] []
theorem vc91 (v : TValue.D) (K : KA) : vcT C91 noLoops ann91 f91 [.data TValue v] [] (.dat TInt) K =
 ((Sm TValue v) ∧ cond ((!(M.valueOk v)) == false) (cond ((decide (v.1 = Z1)) == false) (cond (decide (v.1 = Z2)) (K (dI (-1 : Int)) []) (cond (decide (v.1 = Z0)) (K (dI Z2) []) (K (dI v.2.1) []))) (K (dI (-1 : Int)) [])) (K (dI (-1 : Int)) [])) := by kernel_rfl
theorem con91_ok : Con1 P 91 c91 := conR C91 func91 (kC con86_ok kN) fun args hp K h0 => by
 obtain ⟨v, rfl, rfl, h_v, hK⟩ := g1e h0
 have h : ok (F.spec_TruthOf v) (fun r => K (dI r) []) := ok_of_eq (F.spec_TruthOf_eq v h_v) hK
 refine ⟨rfl, ann91, noLoops, (.dat TInt), (no_loops (by kernel_rfl)), ?_⟩
 ·rw [vc91]
  exact ⟨h_v, (oC h (fun _ h => (oC h (fun _ h => (oC h (fun _ h => h) fun _ h => (oC h (fun _ h => h) fun _ h => h))) fun _ h => h)) fun _ h => h)⟩
def c92 : Con := ⟨[.dat TInt, .dat TInt], fun args hp K => g2 (pD TInt) (pD TInt) (fun a b => K (dI (M.orOf a b)) []) args hp, .plain⟩
@[reducible] def C92 : Ctx := cx [(129, c129), (130, c130)] 19 [] 0 false
def ann92 := an [[kp 3], [kp 4099], [kp 16], [kp 16]] []
theorem vc92 (a : Int) (b : Int) (K : KA) : vcT C92 noLoops ann92 f92 [dI a, dI b] [] (.dat TInt) K =
 (cond ((!(M.inR a 0 2)) == false) (cond (!(M.inR b 0 2)) (K (dI (-1 : Int)) []) ((M.inR a 0 2 = true) ∧ (M.inR b 0 2 = true) ∧ (M.inR (maxI (M.sure a) (M.sure b)) 0 2 = true) ∧ K (dI (M.sure (maxI (M.sure a) (M.sure b)))) [])) (K (dI (-1 : Int)) [])) := by kernel_rfl
theorem con92_ok : Con1 P 92 c92 := conR C92 func92 (kC con129_ok (kC con130_ok kN)) fun args hp K h0 => by
 obtain ⟨a, b, rfl, rfl, hK⟩ := g2e h0
 have h : ok (F.spec_OrOf a b) (fun r => K (dI r) []) := ok_of_eq (F.spec_OrOf_eq a b) hK
 refine ⟨rfl, ann92, noLoops, (.dat TInt), (no_loops (by kernel_rfl)), ?_⟩
 ·rw [vc92]
  exact (oC h (fun b_1 h => (oC h (fun _ h => h) fun b_2 h => ⟨(bnf (bgt b_1)), ⟨(bnf b_2), (oG h fun _ h => h)⟩⟩)) fun _ h => h)
def c93 : Con := ⟨[.dat TInt], fun args hp K => g1 (pD TInt) (fun a => K (dI (M.notOf a)) []) args hp, .plain⟩
@[reducible] def C93 : Ctx := cx [(129, c129), (130, c130)] 10 [] 0 false
def ann93 := an [[kp 1], [kp 33], [kp 4], [kp 4]] []
theorem vc93 (a : Int) (K : KA) : vcT C93 noLoops ann93 f93 [dI a] [] (.dat TInt) K =
 (cond (!(M.inR a 0 2)) (K (dI (-1 : Int)) []) ((M.inR a 0 2 = true) ∧ (M.inR (wrap64 (Z2 - (M.sure a))) 0 2 = true) ∧ K (dI (M.sure (wrap64 (Z2 - (M.sure a))))) [])) := by kernel_rfl
theorem con93_ok : Con1 P 93 c93 := conR C93 func93 (kC con129_ok (kC con130_ok kN)) fun args hp K h0 => by
 obtain ⟨a, rfl, rfl, hK⟩ := g1e h0
 have h : ok (F.spec_NotOf a) (fun r => K (dI r) []) := ok_of_eq (F.spec_NotOf_eq a) hK
 refine ⟨rfl, ann93, noLoops, (.dat TInt), (no_loops (by kernel_rfl)), ?_⟩
 ·rw [vc93]
  exact (oC h (fun _ h => h) fun b_1 h => ⟨(bnf b_1), (oG h fun _ h => h)⟩)
def c55 : Con := ⟨[.dat TVS, .mv, .dat TPart], fun args hp K => hpN 0 false TValue (fun values => args3 (fun a0 a1 a2 => withD TVS a0 fun row => withO 0 a1 (withD TPart a2 fun p => (Sm TVS row) ∧ (Sm TVS values) ∧ (Sm TPart p) ∧ (values.length ≤ 1000) ∧ (M.takes p ≤ (values.length : Int)) ∧ (1 ≤ p.1 ∧ p.1 ≤ 8) ∧ (M.colIn p row.length) ∧ (∀ r : LV, r = (M.valStep row values p) → K (.own 0 none) [(0, .arr false TValue r)]))) args []) hp, .mv⟩
@[reducible] def C55 : Ctx := cx [(87, c87), (88, c88), (89, c89), (90, c90), (91, c91), (92, c92), (93, c93), (94, c94)] 145 [] 0 true
def ann55 := an [[.fixRow 5 TPart, kp 35], [kp 163], [kp 2211], [kp 6307], [kp 64], [kp 526499], [kp 64], [kp 536873122], [kp 64], [kp 281474976712866], [kp 64], [.keep [1, 7, 11, 70]], [kp 64], [.keep [1, 7, 11, 92]], [kp 64], [.keep [1, 7, 114]], [kp 64], [kp 64]] []
theorem vc55 (row : LV) (values : LV) (p : TPart.D) (K : KA) : vcT C55 noLoops ann55 f55 [.data TVS row, .own 0 none, .data TPart p] [(0, .arr false TValue values)] .raw K =
 (cond (decide (p.1 = Z1)) (((values.length + [p.2.2.1].length) * 32 ≤ lim) ∧ K (.own 0 none) [(0, .arr false TValue (values ++ [p.2.2.1]))]) (cond (decide (p.1 = Z2)) ((0 ≤ p.2.1) ∧ (p.2.1 < (row.length : Int)) ∧ ((values.length + [(nV row p.2.1)].length) * 32 ≤ lim) ∧ K (.own 0 none) [(0, .arr false TValue (values ++ [(nV row p.2.1)]))]) (cond (decide (p.1 = Z3)) ((0 ≤ Z0) ∧ (Z0 ≤ wrap64 ((values.length : Int) - Z2)) ∧ (wrap64 ((values.length : Int) - Z2) ≤ (values.length : Int)) ∧ (wrap64 ((values.length : Int) - Z2) = wrap64 ((values.length : Int) - Z2)) ∧ (0 ≤ wrap64 ((values.length : Int) - Z2)) ∧ (wrap64 ((values.length : Int) - Z2) < (values.length : Int)) ∧ (0 ≤ wrap64 ((values.length : Int) - Z1)) ∧ (wrap64 ((values.length : Int) - Z1) < (values.length : Int)) ∧ (Sm TValue (nV values (wrap64 ((values.length : Int) - Z2)))) ∧ (Sm TValue (nV values (wrap64 ((values.length : Int) - Z1)))) ∧ (∀ r1 : TValue.D, r1 = (M.sum (nV values (wrap64 ((values.length : Int) - Z2))) (nV values (wrap64 ((values.length : Int) - Z1)))) → (Z0 = 0) ∧ (((wrap64 ((values.length : Int) - Z2)).toNat + [r1].length) * 32 ≤ lim) ∧ K (.own 0 none) [(0, .arr false TValue (values.take (wrap64 ((values.length : Int) - Z2)).toNat ++ [r1]))])) (cond (decide (p.1 = Z4)) ((0 ≤ Z0) ∧ (Z0 ≤ wrap64 ((values.length : Int) - Z2)) ∧ (wrap64 ((values.length : Int) - Z2) ≤ (values.length : Int)) ∧ (wrap64 ((values.length : Int) - Z2) = wrap64 ((values.length : Int) - Z2)) ∧ (0 ≤ wrap64 ((values.length : Int) - Z2)) ∧ (wrap64 ((values.length : Int) - Z2) < (values.length : Int)) ∧ (0 ≤ wrap64 ((values.length : Int) - Z1)) ∧ (wrap64 ((values.length : Int) - Z1) < (values.length : Int)) ∧ (Sm TValue (nV values (wrap64 ((values.length : Int) - Z2)))) ∧ (Sm TValue (nV values (wrap64 ((values.length : Int) - Z1)))) ∧ (∀ r2 : TValue.D, r2 = (M.valueOf (M.compare p.2.1 (nV values (wrap64 ((values.length : Int) - Z2))) (nV values (wrap64 ((values.length : Int) - Z1))))) → (Z0 = 0) ∧ (((wrap64 ((values.length : Int) - Z2)).toNat + [r2].length) * 32 ≤ lim) ∧ K (.own 0 none) [(0, .arr false TValue (values.take (wrap64 ((values.length : Int) - Z2)).toNat ++ [r2]))])) (cond (decide (p.1 = Z5)) ((0 ≤ Z0) ∧ (Z0 ≤ wrap64 ((values.length : Int) - Z2)) ∧ (wrap64 ((values.length : Int) - Z2) ≤ (values.length : Int)) ∧ (wrap64 ((values.length : Int) - Z2) = wrap64 ((values.length : Int) - Z2)) ∧ (0 ≤ wrap64 ((values.length : Int) - Z2)) ∧ (wrap64 ((values.length : Int) - Z2) < (values.length : Int)) ∧ (0 ≤ wrap64 ((values.length : Int) - Z1)) ∧ (wrap64 ((values.length : Int) - Z1) < (values.length : Int)) ∧ (Sm TValue (nV values (wrap64 ((values.length : Int) - Z2)))) ∧ (Sm TValue (nV values (wrap64 ((values.length : Int) - Z1)))) ∧ (∀ r3 : TValue.D, r3 = (M.valueOf (M.andOf (M.truthOf (nV values (wrap64 ((values.length : Int) - Z2)))) (M.truthOf (nV values (wrap64 ((values.length : Int) - Z1)))))) → (Z0 = 0) ∧ (((wrap64 ((values.length : Int) - Z2)).toNat + [r3].length) * 32 ≤ lim) ∧ K (.own 0 none) [(0, .arr false TValue (values.take (wrap64 ((values.length : Int) - Z2)).toNat ++ [r3]))])) (cond (decide (p.1 = Z6)) ((0 ≤ Z0) ∧ (Z0 ≤ wrap64 ((values.length : Int) - Z2)) ∧ (wrap64 ((values.length : Int) - Z2) ≤ (values.length : Int)) ∧ (wrap64 ((values.length : Int) - Z2) = wrap64 ((values.length : Int) - Z2)) ∧ (0 ≤ wrap64 ((values.length : Int) - Z2)) ∧ (wrap64 ((values.length : Int) - Z2) < (values.length : Int)) ∧ (0 ≤ wrap64 ((values.length : Int) - Z1)) ∧ (wrap64 ((values.length : Int) - Z1) < (values.length : Int)) ∧ (Sm TValue (nV values (wrap64 ((values.length : Int) - Z2)))) ∧ (Sm TValue (nV values (wrap64 ((values.length : Int) - Z1)))) ∧ (∀ r4 : TValue.D, r4 = (M.valueOf (M.orOf (M.truthOf (nV values (wrap64 ((values.length : Int) - Z2)))) (M.truthOf (nV values (wrap64 ((values.length : Int) - Z1)))))) → (Z0 = 0) ∧ (((wrap64 ((values.length : Int) - Z2)).toNat + [r4].length) * 32 ≤ lim) ∧ K (.own 0 none) [(0, .arr false TValue (values.take (wrap64 ((values.length : Int) - Z2)).toNat ++ [r4]))])) (cond (decide (p.1 = (7 : Int))) ((0 ≤ Z0) ∧ (Z0 ≤ wrap64 ((values.length : Int) - Z1)) ∧ (wrap64 ((values.length : Int) - Z1) ≤ (values.length : Int)) ∧ (wrap64 ((values.length : Int) - Z1) = wrap64 ((values.length : Int) - Z1)) ∧ (0 ≤ wrap64 ((values.length : Int) - Z1)) ∧ (wrap64 ((values.length : Int) - Z1) < (values.length : Int)) ∧ (Sm TValue (nV values (wrap64 ((values.length : Int) - Z1)))) ∧ (∀ r5 : TValue.D, r5 = (M.valueOf (M.notOf (M.truthOf (nV values (wrap64 ((values.length : Int) - Z1)))))) → (Z0 = 0) ∧ (((wrap64 ((values.length : Int) - Z1)).toNat + [r5].length) * 32 ≤ lim) ∧ K (.own 0 none) [(0, .arr false TValue (values.take (wrap64 ((values.length : Int) - Z1)).toNat ++ [r5]))])) ((0 ≤ Z0) ∧ (Z0 ≤ wrap64 ((values.length : Int) - Z1)) ∧ (wrap64 ((values.length : Int) - Z1) ≤ (values.length : Int)) ∧ (wrap64 ((values.length : Int) - Z1) = wrap64 ((values.length : Int) - Z1)) ∧ (0 ≤ wrap64 ((values.length : Int) - Z1)) ∧ (wrap64 ((values.length : Int) - Z1) < (values.length : Int)) ∧ (∀ r6 : TValue.D, r6 = (M.valueOf (M.bool (decide ((nV values (wrap64 ((values.length : Int) - Z1))).1 = Z0)))) → (Z0 = 0) ∧ (((wrap64 ((values.length : Int) - Z1)).toNat + [r6].length) * 32 ≤ lim) ∧ K (.own 0 none) [(0, .arr false TValue (values.take (wrap64 ((values.length : Int) - Z1)).toNat ++ [r6]))]))))))))) := by kernel_rfl
theorem con55_ok : Con1 P 55 c55 := conR C55 func55 (kC con87_ok (kC con88_ok (kC con89_ok (kC con90_ok (kC con91_ok (kC con92_ok (kC con93_ok (kC con94_ok kN)))))))) fun args hp K h0 => by
 unfold c55 at h0
 dsimp only at h0
 obtain ⟨values, rfl, h00⟩ := hpN_elim (n := 0) (d := false) (t := TValue) h0
 obtain ⟨a0, a1, a2, rfl, _, h1⟩ := args3_elim h00
 obtain ⟨row, rfl, h2⟩ := withD_elim h1
 obtain ⟨rfl, h3⟩ := withO_elim h2
 obtain ⟨p, rfl, h4⟩ := withD_elim h3
 obtain ⟨h_row, h_values, h_p, p0, p1, p2, p3, hK⟩ := h4
 have h : ok (F.spec_l4Do row values p) (fun r => K (.own 0 none) [(0, .arr false TValue r)]) := ok_of_eq (F.spec_l4Do_eq row values p h_row h_values h_p p0 p1 p2 p3) (hK _ rfl)
 refine ⟨rfl, ann55, noLoops, .raw, (no_loops (by kernel_rfl)), ?_⟩
 ·rw [vc55]
  exact (oC h (fun _ h => ⟨(sm_lim2 h_values (sm_one h_p.2.2.1) rfl), h⟩) fun _ h => (oC h (fun _ h => (oG h fun _ h => (oG h fun _ h => ⟨(sm_lim2 h_values (sm_one (sm_nth h_row p.2.1)) rfl), h⟩))) fun _ h => (oC h (fun _ h => ⟨(Int.natCast_nonneg 0), (oG h fun _ h => (oG h fun _ h => ⟨rfl, (oG h fun _ h => (oG h fun _ h => (oG h fun _ h => (oG h fun _ h => ⟨(sm_nth h_values (wrap64 ((values.length : Int) - Z2))), ⟨(sm_nth h_values (wrap64 ((values.length : Int) - Z1))), (oL h fun _ _ h => ⟨rfl, (oG h fun _ h => h)⟩)⟩⟩))))⟩))⟩) fun _ h => (oC h (fun _ h => ⟨(Int.natCast_nonneg 0), (oG h fun _ h => (oG h fun _ h => ⟨rfl, (oG h fun _ h => (oG h fun _ h => (oG h fun _ h => (oG h fun _ h => ⟨(sm_nth h_values (wrap64 ((values.length : Int) - Z2))), ⟨(sm_nth h_values (wrap64 ((values.length : Int) - Z1))), (oL h fun _ _ h => ⟨rfl, (oG h fun _ h => h)⟩)⟩⟩))))⟩))⟩) fun _ h => (oC h (fun _ h => ⟨(Int.natCast_nonneg 0), (oG h fun _ h => (oG h fun _ h => ⟨rfl, (oG h fun _ h => (oG h fun _ h => (oG h fun _ h => (oG h fun _ h => ⟨(sm_nth h_values (wrap64 ((values.length : Int) - Z2))), ⟨(sm_nth h_values (wrap64 ((values.length : Int) - Z1))), (oL h fun _ _ h => ⟨rfl, (oG h fun _ h => h)⟩)⟩⟩))))⟩))⟩) fun _ h => (oC h (fun _ h => ⟨(Int.natCast_nonneg 0), (oG h fun _ h => (oG h fun _ h => ⟨rfl, (oG h fun _ h => (oG h fun _ h => (oG h fun _ h => (oG h fun _ h => ⟨(sm_nth h_values (wrap64 ((values.length : Int) - Z2))), ⟨(sm_nth h_values (wrap64 ((values.length : Int) - Z1))), (oL h fun _ _ h => ⟨rfl, (oG h fun _ h => h)⟩)⟩⟩))))⟩))⟩) fun _ h => (oC h (fun _ h => ⟨(Int.natCast_nonneg 0), (oG h fun _ h => (oG h fun _ h => ⟨rfl, (oG h fun _ h => (oG h fun _ h => ⟨(sm_nth h_values (wrap64 ((values.length : Int) - Z1))), (oL h fun _ _ h => ⟨rfl, (oG h fun _ h => h)⟩)⟩))⟩))⟩) fun _ h => ⟨(Int.natCast_nonneg 0), (oG h fun _ h => (oG h fun _ h => ⟨rfl, (oG h fun _ h => (oG h fun _ h => (oL h fun _ _ h => ⟨rfl, (oG h fun _ h => h)⟩)))⟩))⟩)))))))
def c26 : Con := ⟨[.dat TVS, .dat TPS], fun args hp K => g2 (pD TVS) (pD TPS) (fun row e => (Sm TVS row) ∧ (Sm TPS e) ∧ (M.exprSafe row.length e) ∧ (∀ r : TValue.D, r = (M.exprValue row e) → K (.data TValue r) [])) args hp, .plain⟩
@[reducible] def C26 : Ctx := cx [(55, c55)] 24 [] 0 false
def ann26 := an [[kp 19], [kp 51], [kp 115], [kp 2163], [kp 115], [kp 115], [kp 16]] [[kp 48]]
@[reducible] def s26_0 (row : LV) (e : LPt) (i0 : Int) (v0 : LV) : St := ⟨[(0, .data TVS row), (1, .data TPS e), (4, .ptr 4 0), (5, .own 7 none), (6, dI i0)], [(4, .box [dI Z0, dI Z0, .data Ty.str (⟨#[]⟩ : ByteArray)]), (7, .arr false TValue v0)]⟩
@[reducible] def LP26_0 (row : LV) (e : LPt) (m : Nat) (st_ : St) (K : KX) : Prop := True ∧ LoopE (t := TPart) (s26_0 row e) e (F.spec_l4Value_l0 row e) (fun v0 : LV => True) (outD (fun v0 : LV => True → K (.exit 0) (⟨[(4, .ptr 4 0), (5, .own 7 none)], [(4, .box [dI Z0, dI Z0, .data Ty.str (⟨#[]⟩ : ByteArray)]), (7, .arr false TValue v0)]⟩ : St)) (fun _ => False)) m st_
def L26 (row : LV) (e : LPt) : Loops := lp1 0 (LP26_0 row e)
theorem vc26 (row : LV) (e : LPt) (K : KA) : vcT C26 (L26 row e) ann26 f26 [.data TVS row, .data TPS e] [] (.dat TValue) K =
 (∃ m_, True ∧ LoopE (t := TPart) (s26_0 row e) e (F.spec_l4Value_l0 row e) (fun v0 : LV => True) (outD (fun v0 : LV => True → (0 ≤ Z0) ∧ (Z0 < (v0.length : Int)) ∧ K (.data TValue (nV v0 Z0)) []) (fun _ => False)) m_ (s26_0 row e Z0 [])) := by kernel_rfl
theorem lvc26_0 (row : LV) (e : LPt)  (i0 : Int) (v0 : LV) (m : Nat) (K : KX) : lvT C26 (L26 row e) ann26 f26 0 0 (s26_0 row e i0 v0) m K =
 (cond (decide (i0 < (e.length : Int))) ((0 ≤ i0) ∧ (i0 < (e.length : Int)) ∧ (Sm TVS row) ∧ (Sm TVS v0) ∧ (Sm TPart (nP e i0)) ∧ (v0.length ≤ 1000) ∧ (M.takes (nP e i0) ≤ (v0.length : Int)) ∧ (1 ≤ (nP e i0).1 ∧ (nP e i0).1 ≤ 8) ∧ (M.colIn (nP e i0) row.length) ∧ (∀ r1 : LV, r1 = (M.valStep row v0 (nP e i0)) → (nxT (LP26_0 row e) m K (s26_0 row e (wrap64 (i0 + Z1)) r1)))) (K (.exit 0) (⟨[(4, .ptr 4 0), (5, .own 7 none)], [(4, .box [dI Z0, dI Z0, .data Ty.str (⟨#[]⟩ : ByteArray)]), (7, .arr false TValue v0)]⟩ : St))) := by kernel_rfl
theorem con26_ok : Con1 P 26 c26 := conR C26 func26 (kC con55_ok kN) fun args hp K h0 => by
 obtain ⟨row, e, rfl, rfl, h_row, h_e, p0, hK⟩ := g2e h0
 have h : ok (F.spec_l4Value row e) (fun r => K (.data TValue r) []) := ok_of_eq (F.spec_l4Value_eq row e h_row h_e p0) (hK _ rfl)
 refine ⟨rfl, ann26, (L26 row e), (.dat TValue), (loopsN1 (i0 := 0) (by kernel_rfl) ?_), ?_⟩
 ·rintro _ _ K ⟨hc0, i0, v0, rfl, hl0, rfl, hv0, h⟩
  exact cast (lvc26_0 _ _ _ _ _ _).symm (loopE_step (t := TPart) hl0 h (fun ht0 h => ⟨hl0, ⟨ht0, ⟨h_row, (oG h fun _ h => ⟨(sm_nth h_e i0), (oG h fun _ h => (oG h fun _ h => (oG h fun _ h => (oG h fun _ h => (oL h fun _ _ h => (loopE_next (t := TPart) (fun _ hm => ⟨hc0, hm⟩) _ rfl hl0 ht0 (sm_len h_e) trivial h))))))⟩)⟩⟩⟩) fun h => (h trivial))
 ·rw [vc26]
  exact (loopE_start (t := TPart) (fun m hm => ⟨trivial, hm⟩) _ rfl trivial (ok_then h (fun v0 h hv0 => ⟨(Int.natCast_nonneg 0), (oG h fun _ h => h)⟩) (fun _ h => h.elim)))
def c7 : Con := ⟨[.dat TCS, .dat TPS], fun args hp K => g2 (pD TCS) (pD TPS) (fun columns e => (Sm TCS columns) ∧ (Sm TPS e) ∧ (∀ r : LPt, r = (M.exprFolded columns e) → K (.own 0 none) [(0, .arr false TPart r)])) args hp, .plain⟩
@[reducible] def C7 : Ctx := cx [(24, c24), (25, c25), (26, c26)] 32 [] 0 false
def ann7 := an [[kp 3], [kp 35], [kp 2083], [kp 16], [kp 131106], [.fixRow 6 TValue, kp 98], [kp 8388706], [kp 16], [kp 16]] []
theorem vc7 (columns : LC) (e : LPt) (K : KA) : vcT C7 noLoops ann7 f7 [.data TCS columns, .data TPS e] [] .raw K =
 ((Sm TCS columns) ∧ (Sm TPS e) ∧ cond (decide ((M.exprKind columns e) < Z0)) (K (.own 0 none) [(0, .arr false TPart [])]) ((Sm TCS columns) ∧ (Sm TPS e) ∧ (∀ r1 : (List Int), r1 = (M.exprColumns columns e) → cond (decide ((r1.length : Int) = Z0)) ((Sm TVS []) ∧ (Sm TPS e) ∧ (M.exprSafe ([] : LV).length e) ∧ (∀ r2 : TValue.D, r2 = (M.exprValue [] e) → cond (!decide (r2.1 = Z0)) (((([] : List TPart.D).length + [(Z1, (Z0, (r2, ())))].length) * 48 ≤ lim) ∧ K (.own 0 none) [(0, .arr false TPart ([] ++ [(Z1, (Z0, (r2, ())))]))]) (((([] : List TPart.D).length + e.length) * 48 ≤ lim) ∧ K (.own 0 none) [(0, .arr false TPart ([] ++ e))]))) (((([] : List TPart.D).length + e.length) * 48 ≤ lim) ∧ K (.own 0 none) [(0, .arr false TPart ([] ++ e))])))) := by kernel_rfl
theorem con7_ok : Con1 P 7 c7 := conR C7 func7 (kC con24_ok (kC con25_ok (kC con26_ok kN))) fun args hp K h0 => by
 obtain ⟨columns, e, rfl, rfl, h_columns, h_e, hK⟩ := g2e h0
 have h : ok (F.spec_ExprFolded columns e) (fun r => K (.own 0 none) [(0, .arr false TPart r)]) := ok_of_eq (F.spec_ExprFolded_eq columns e h_columns h_e) (hK _ rfl)
 refine ⟨rfl, ann7, noLoops, .raw, (no_loops (by kernel_rfl)), ?_⟩
 ·rw [vc7]
  exact ⟨h_columns, ⟨h_e, (oC h (fun _ h => h) fun _ h => ⟨h_columns, ⟨h_e, (oL h fun _ _ h => (oC h (fun _ h => ⟨(sm_nil TValue), ⟨h_e, (oG h fun _ h => (oL h fun _ _ h => (oC h (fun _ h => (oG h fun _ h => h)) fun _ h => ⟨(sm_lim2 (sm_nil TPart) h_e rfl), h⟩)))⟩⟩) fun _ h => ⟨(sm_lim2 (sm_nil TPart) h_e rfl), h⟩))⟩⟩)⟩⟩
def c27 : Con := ⟨[.dat TColumn], fun args hp K => g1 (pD TColumn) (fun x => (∀ r : TColumn.D, r = x → K (.data TColumn r) [])) args hp, .plain⟩
@[reducible] def C27 : Ctx := cx [] 11 [] 0 false
def ann27 := an [[.fixRow 1 TColumn, kp 6], [kp 14], [kp 14], [kp 12], [kp 4]] []
theorem vc27 (x : TColumn.D) (K : KA) : vcT C27 noLoops ann27 f27 [.data TColumn x] [] (.dat TColumn) K =
 (K (.data TColumn x) []) := by kernel_rfl
theorem con27_ok : Con1 P 27 c27 := conR C27 func27 kN fun args hp K h0 => by
 obtain ⟨x, rfl, rfl, hK⟩ := g1e h0
 have h : ok (F.laws_toColumn x) (fun r => K (.data TColumn r) []) := ok_of_eq (F.laws_toColumn_eq x) (hK _ rfl)
 refine ⟨rfl, ann27, noLoops, (.dat TColumn), (no_loops (by kernel_rfl)), ?_⟩
 ·rw [vc27]
  exact h
def c8 : Con := ⟨[.dat TCS], fun args hp K => g1 (pD TCS) (fun x => (Sm TCS x) ∧ (∀ r : LC, r = x → K (.own 0 none) [(0, .arr false TColumn r)])) args hp, .plain⟩
@[reducible] def C8 : Ctx := cx [(27, c27)] 23 [] 0 false
def ann8 := an [[kp 1], [kp 9], [kp 25], [kp 2073], [kp 25], [kp 25], [kp 4]] [[kp 8]]
@[reducible] def s8_0 (x : LC) (i0 : Int) (v0 : LC) : St := ⟨[(0, .data TCS x), (3, .own 7 none), (4, dI i0)], [(7, .arr false TColumn v0)]⟩
@[reducible] def LP8_0 (x : LC) (m : Nat) (st_ : St) (K : KX) : Prop := True ∧ LoopI (s8_0 x) Z0 (x.length : Int) (F.laws_toColumnS_l0 x) (fun v0 : LC => True) (outD (fun v0 : LC => True → K (.exit 0) (⟨[(3, .own 7 none)], [(7, .arr false TColumn v0)]⟩ : St)) (fun _ => False)) m st_
def L8 (x : LC) : Loops := lp1 0 (LP8_0 x)
theorem vc8 (x : LC) (K : KA) : vcT C8 (L8 x) ann8 f8 [.data TCS x] [] .raw K =
 (((x.length : Int) = (x.length : Int)) ∧ (0 ≤ (x.length : Int)) ∧ ((x.length : Int) * 16 ≤ (lim : Int)) ∧ (∃ m_, True ∧ LoopI (s8_0 x) Z0 (x.length : Int) (F.laws_toColumnS_l0 x) (fun v0 : LC => True) (outD (fun v0 : LC => True → K (.own 0 none) [(0, .arr false TColumn v0)]) (fun _ => False)) m_ (s8_0 x Z0 (List.replicate (x.length : Int).toNat (Z0, (false, ())))))) := by kernel_rfl
theorem lvc8_0 (x : LC)  (i0 : Int) (v0 : LC) (m : Nat) (K : KX) : lvT C8 (L8 x) ann8 f8 0 0 (s8_0 x i0 v0) m K =
 (cond (decide (i0 < (x.length : Int))) ((0 ≤ i0) ∧ (i0 < (x.length : Int)) ∧ (∀ r1 : TColumn.D, r1 = (nC x i0) → (0 ≤ i0) ∧ (i0 < (v0.length : Int)) ∧ (nxT (LP8_0 x) m K (s8_0 x (wrap64 (i0 + Z1)) (v0.set i0.toNat r1))))) (K (.exit 0) (⟨[(3, .own 7 none)], [(7, .arr false TColumn v0)]⟩ : St))) := by kernel_rfl
theorem con8_ok : Con1 P 8 c8 := conR C8 func8 (kC con27_ok kN) fun args hp K h0 => by
 obtain ⟨x, rfl, rfl, h_x, hK⟩ := g1e h0
 have h : ok (F.laws_toColumnS x) (fun r => K (.own 0 none) [(0, .arr false TColumn r)]) := ok_of_eq (F.laws_toColumnS_eq x h_x) (hK _ rfl)
 refine ⟨rfl, ann8, (L8 x), .raw, (loopsN1 (i0 := 0) (by kernel_rfl) ?_), ?_⟩
 ·rintro _ _ K ⟨hc0, i0, v0, rfl, hl0, rfl, hv0, h⟩
  exact cast (lvc8_0 _ _ _ _ _).symm (loopI_step h (fun ht0 h => ⟨hl0, ⟨ht0, (oL h fun _ _ h => ⟨hl0, (oG h fun _ h => (loopI_next (fun _ hm => ⟨hc0, hm⟩) _ rfl hl0 low0 ht0 (sm_len h_x) trivial h))⟩)⟩⟩) fun h => (h trivial))
 ·rw [vc8]
  exact ⟨rfl, ⟨(Int.natCast_nonneg _), ⟨(sm_limI h_x rfl), (loopI_start (fun m hm => ⟨trivial, hm⟩) Z0 _ rfl (Int.natCast_nonneg 0) trivial (ok_then h (fun v0 h hv0 => h) (fun _ h => h.elim)))⟩⟩⟩
def c56 : Con := ⟨[.dat TValue], fun args hp K => g1 (pD TValue) (fun x => (Sm TValue x) ∧ (∀ r : TValue.D, r = x → K (.data TValue r) [])) args hp, .plain⟩
@[reducible] def C56 : Ctx := cx [] 14 [] 0 false
def ann56 := an [[.fixRow 1 TValue, kp 6], [kp 14], [kp 14], [kp 14], [kp 12], [kp 4]] []
theorem vc56 (x : TValue.D) (K : KA) : vcT C56 noLoops ann56 f56 [.data TValue x] [] (.dat TValue) K =
 (K (.data TValue x) []) := by kernel_rfl
theorem con56_ok : Con1 P 56 c56 := conR C56 func56 kN fun args hp K h0 => by
 obtain ⟨x, rfl, rfl, h_x, hK⟩ := g1e h0
 have h : ok (F.laws_toValue x) (fun r => K (.data TValue r) []) := ok_of_eq (F.laws_toValue_eq x h_x) (hK _ rfl)
 refine ⟨rfl, ann56, noLoops, (.dat TValue), (no_loops (by kernel_rfl)), ?_⟩
 ·rw [vc56]
  exact h
def c28 : Con := ⟨[.dat TPart], fun args hp K => g1 (pD TPart) (fun x => (Sm TPart x) ∧ (∀ r : TPart.D, r = x → K (.data TPart r) [])) args hp, .plain⟩
@[reducible] def C28 : Ctx := cx [(56, c56)] 15 [] 0 false
def ann28 := an [[.fixRow 1 TPart, kp 6], [kp 14], [kp 14], [kp 14], [kp 12], [kp 4]] []
theorem vc28 (x : TPart.D) (K : KA) : vcT C28 noLoops ann28 f28 [.data TPart x] [] (.dat TPart) K =
 ((Sm TValue x.2.2.1) ∧ (∀ r1 : TValue.D, r1 = x.2.2.1 → K (.data TPart (x.1, (x.2.1, (r1, ())))) [])) := by kernel_rfl
theorem con28_ok : Con1 P 28 c28 := conR C28 func28 (kC con56_ok kN) fun args hp K h0 => by
 obtain ⟨x, rfl, rfl, h_x, hK⟩ := g1e h0
 have h : ok (F.laws_toPart x) (fun r => K (.data TPart r) []) := ok_of_eq (F.laws_toPart_eq x h_x) (hK _ rfl)
 refine ⟨rfl, ann28, noLoops, (.dat TPart), (no_loops (by kernel_rfl)), ?_⟩
 ·rw [vc28]
  exact ⟨h_x.2.2.1, (oL h fun _ _ h => h)⟩
def c9 : Con := ⟨[.dat TPS], fun args hp K => g1 (pD TPS) (fun x => (Sm TPS x) ∧ (∀ r : LPt, r = x → K (.own 0 none) [(0, .arr false TPart r)])) args hp, .plain⟩
@[reducible] def C9 : Ctx := cx [(28, c28)] 23 [] 0 false
def ann9 := an [[kp 1], [kp 9], [kp 25], [kp 2073], [kp 25], [kp 25], [kp 4]] [[kp 8]]
@[reducible] def s9_0 (x : LPt) (i0 : Int) (v0 : LPt) : St := ⟨[(0, .data TPS x), (3, .own 7 none), (4, dI i0)], [(7, .arr false TPart v0)]⟩
@[reducible] def LP9_0 (x : LPt) (m : Nat) (st_ : St) (K : KX) : Prop := True ∧ LoopI (s9_0 x) Z0 (x.length : Int) (F.laws_toPartS_l0 x) (fun v0 : LPt => True) (outD (fun v0 : LPt => True → K (.exit 0) (⟨[(3, .own 7 none)], [(7, .arr false TPart v0)]⟩ : St)) (fun _ => False)) m st_
def L9 (x : LPt) : Loops := lp1 0 (LP9_0 x)
theorem vc9 (x : LPt) (K : KA) : vcT C9 (L9 x) ann9 f9 [.data TPS x] [] .raw K =
 (((x.length : Int) = (x.length : Int)) ∧ (0 ≤ (x.length : Int)) ∧ ((x.length : Int) * 48 ≤ (lim : Int)) ∧ (∃ m_, True ∧ LoopI (s9_0 x) Z0 (x.length : Int) (F.laws_toPartS_l0 x) (fun v0 : LPt => True) (outD (fun v0 : LPt => True → K (.own 0 none) [(0, .arr false TPart v0)]) (fun _ => False)) m_ (s9_0 x Z0 (List.replicate (x.length : Int).toNat (Z0, (Z0, ((Z0, (Z0, ((⟨#[]⟩ : ByteArray), ()))), ()))))))) := by kernel_rfl
theorem lvc9_0 (x : LPt)  (i0 : Int) (v0 : LPt) (m : Nat) (K : KX) : lvT C9 (L9 x) ann9 f9 0 0 (s9_0 x i0 v0) m K =
 (cond (decide (i0 < (x.length : Int))) ((0 ≤ i0) ∧ (i0 < (x.length : Int)) ∧ (Sm TPart (nP x i0)) ∧ (∀ r1 : TPart.D, r1 = (nP x i0) → (0 ≤ i0) ∧ (i0 < (v0.length : Int)) ∧ (nxT (LP9_0 x) m K (s9_0 x (wrap64 (i0 + Z1)) (v0.set i0.toNat r1))))) (K (.exit 0) (⟨[(3, .own 7 none)], [(7, .arr false TPart v0)]⟩ : St))) := by kernel_rfl
theorem con9_ok : Con1 P 9 c9 := conR C9 func9 (kC con28_ok kN) fun args hp K h0 => by
 obtain ⟨x, rfl, rfl, h_x, hK⟩ := g1e h0
 have h : ok (F.laws_toPartS x) (fun r => K (.own 0 none) [(0, .arr false TPart r)]) := ok_of_eq (F.laws_toPartS_eq x h_x) (hK _ rfl)
 refine ⟨rfl, ann9, (L9 x), .raw, (loopsN1 (i0 := 0) (by kernel_rfl) ?_), ?_⟩
 ·rintro _ _ K ⟨hc0, i0, v0, rfl, hl0, rfl, hv0, h⟩
  exact cast (lvc9_0 _ _ _ _ _).symm (loopI_step h (fun ht0 h => ⟨hl0, ⟨ht0, ⟨(sm_nth h_x i0), (oL h fun _ _ h => ⟨hl0, (oG h fun _ h => (loopI_next (fun _ hm => ⟨hc0, hm⟩) _ rfl hl0 low0 ht0 (sm_len h_x) trivial h))⟩)⟩⟩⟩) fun h => (h trivial))
 ·rw [vc9]
  exact ⟨rfl, ⟨(Int.natCast_nonneg _), ⟨(sm_limI h_x rfl), (loopI_start (fun m hm => ⟨trivial, hm⟩) Z0 _ rfl (Int.natCast_nonneg 0) trivial (ok_then h (fun v0 h hv0 => h) (fun _ h => h.elim)))⟩⟩⟩
def c77 : Con := ⟨[.dat TInt, .dat TInt, .dat TInt], fun args hp K => g3 (pD TInt) (pD TInt) (pD TInt) (fun n low high => K (dB (M.inR n low high)) []) args hp, .plain⟩
@[reducible] def C77 : Ctx := cx [] 15 [] 0 false
def ann77 := an [[kp 7], [kp 64]] []
theorem vc77 (n : Int) (low : Int) (high : Int) (K : KA) : vcT C77 noLoops ann77 f77 [dI n, dI low, dI high] [] (.dat Ty.bool) K =
 (cond ((decide (low ≤ n)) == true) (K (dB (decide (n ≤ high))) []) (K (dB false) [])) := by kernel_rfl
theorem con77_ok : Con1 P 77 c77 := conR C77 func77 kN fun args hp K h0 => by
 obtain ⟨n, low, high, rfl, rfl, hK⟩ := g3e h0
 have h : ok (F.impl_between n low high) (fun r => K (dB r) []) := ok_of_eq (F.impl_between_eq n low high) hK
 refine ⟨rfl, ann77, noLoops, (.dat Ty.bool), (no_loops (by kernel_rfl)), ?_⟩
 ·rw [vc77]
  exact (oC h (fun _ h => h) fun _ h => h)
def c96 : Con := ⟨[.dat TColumn], fun args hp K => g1 (pD TColumn) (fun c => K (dB (!M.columnOk c)) []) args hp, .plain⟩
@[reducible] def C96 : Ctx := cx [(77, c77)] 7 [] 0 false
def ann96 := an [[.fixRow 1 TColumn, kp 2], [kp 4]] []
theorem vc96 (c : TColumn.D) (K : KA) : vcT C96 noLoops ann96 f96 [.data TColumn c] [] (.dat Ty.bool) K =
 (K (dB (!(M.inR c.1 Z1 Z3))) []) := by kernel_rfl
theorem con96_ok : Con1 P 96 c96 := conR C96 func96 (kC con77_ok kN) fun args hp K h0 => by
 obtain ⟨c, rfl, rfl, hK⟩ := g1e h0
 have h : ok (F.impl_ColumnsOk_1 c) (fun r => K (dB r) []) := ok_of_eq (F.impl_ColumnsOk_1_eq c) hK
 refine ⟨rfl, ann96, noLoops, (.dat Ty.bool), (no_loops (by kernel_rfl)), ?_⟩
 ·rw [vc96]
  exact h
def c131 : Con := ⟨[.lent TColumn, .any], fun args hp K => args2 (fun a0 a1 => withB TColumn a0 fun xs => withF 96 a1 (caps0 ((Sm TCS xs) ∧ K (dI (M.idx (t := TColumn) (fun e => !M.columnOk e) xs)) []))) args hp, .plain⟩
@[reducible] def C131 : Ctx := cx [(96, c96)] 19 [] 0 false
def ann131 := an [[kp 3], [kp 387], [kp 899], [kp 419], [kp 65955], [kp 16], [kp 387], [kp 16]] [[kp 0]]
@[reducible] def s131_0 (xs : LC) (i0 : Int) (v0 : Unit) : St := ⟨[(0, .brw TColumn xs), (1, .fn 96 []), (7, dI (xs.length : Int)), (8, dI i0)], []⟩
@[reducible] def LP131_0 (xs : LC) (m : Nat) (st_ : St) (K : KX) : Prop := True ∧ LoopI (s131_0 xs) Z0 (xs.length : Int) (F.IndexFunc_impl_ColumnsOk_1_l0 xs) (fun v0 : Unit => True) (outD (fun v0 : Unit => True → K (.exit 0) (⟨[], []⟩ : St)) (fun q0 : Int => K .ret (⟨[(4, dI q0)], []⟩ : St))) m st_
def L131 (xs : LC) : Loops := lp1 0 (LP131_0 xs)
theorem vc131 (xs : LC) (K : KA) : vcT C131 (L131 xs) ann131 f131 [.brw TColumn xs, .fn 96 []] [] (.dat TInt) K =
 (∃ m_, True ∧ LoopI (s131_0 xs) Z0 (xs.length : Int) (F.IndexFunc_impl_ColumnsOk_1_l0 xs) (fun v0 : Unit => True) (outD (fun v0 : Unit => True → K (dI (-1 : Int)) []) (fun q0 : Int => K (dI q0) [])) m_ (s131_0 xs Z0 ())) := by kernel_rfl
theorem lvc131_0 (xs : LC)  (i0 : Int) (v0 : Unit) (m : Nat) (K : KX) : lvT C131 (L131 xs) ann131 f131 0 0 (s131_0 xs i0 v0) m K =
 (cond (decide (i0 < (xs.length : Int))) ((0 ≤ i0) ∧ (i0 < (xs.length : Int)) ∧ cond (!M.columnOk (nC xs i0)) (K .ret (⟨[(4, dI i0)], []⟩ : St)) (nxT (LP131_0 xs) m K (s131_0 xs (wrap64 (i0 + Z1)) ()))) (K (.exit 0) (⟨[], []⟩ : St))) := by kernel_rfl
theorem con131_ok : Con1 P 131 c131 := conR C131 func131 (kC con96_ok kN) fun args hp K h0 => by
 obtain ⟨a0, a1, rfl, rfl, h1⟩ := args2_elim h0
 obtain ⟨xs, rfl, h2⟩ := withB_elim h1
 obtain ⟨cs1, rfl, h3⟩ := withF_elim h2
 obtain ⟨rfl, h4⟩ := caps0_elim h3
 obtain ⟨h_xs, hK⟩ := h4
 have h : ok (F.IndexFunc_impl_ColumnsOk_1 xs) (fun r => K (dI r) []) := ok_of_eq (F.IndexFunc_impl_ColumnsOk_1_eq xs h_xs) hK
 refine ⟨rfl, ann131, (L131 xs), (.dat TInt), (loopsN1 (i0 := 0) (by kernel_rfl) ?_), ?_⟩
 ·rintro _ _ K ⟨hc0, i0, v0, rfl, hl0, rfl, hv0, h⟩
  exact cast (lvc131_0 _ _ _ _ _).symm (loopI_step h (fun ht0 h => ⟨hl0, ⟨ht0, (oC h (fun _ h => h) fun _ h => (loopI_next (fun _ hm => ⟨hc0, hm⟩) _ rfl hl0 low0 ht0 (sm_len h_xs) trivial h))⟩⟩) fun h => (h trivial))
 ·rw [vc131]
  exact (loopI_start (fun m hm => ⟨trivial, hm⟩) Z0 _ rfl (Int.natCast_nonneg 0) trivial (ok_then h (fun v0 h hv0 => h) (fun q0 h => h)))
def c95 : Con := ⟨[.lent TColumn, .any], fun args hp K => args2 (fun a0 a1 => withB TColumn a0 fun xs => withF 96 a1 (caps0 ((Sm TCS xs) ∧ K (dB (List.any xs (fun e => !M.columnOk e))) []))) args hp, .plain⟩
@[reducible] def C95 : Ctx := cx [(96, c96), (131, c131)] 9 [] 0 false
def ann95 := an [[kp 3], [kp 16]] []
theorem vc95 (xs : LC) (K : KA) : vcT C95 noLoops ann95 f95 [.brw TColumn xs, .fn 96 []] [] (.dat Ty.bool) K =
 ((Sm TCS xs) ∧ K (dB (decide (Z0 ≤ (M.idx (t := TColumn) (fun e => !M.columnOk e) xs)))) []) := by kernel_rfl
theorem con95_ok : Con1 P 95 c95 := conR C95 func95 (kC con96_ok (kC con131_ok kN)) fun args hp K h0 => by
 obtain ⟨a0, a1, rfl, rfl, h1⟩ := args2_elim h0
 obtain ⟨xs, rfl, h2⟩ := withB_elim h1
 obtain ⟨cs1, rfl, h3⟩ := withF_elim h2
 obtain ⟨rfl, h4⟩ := caps0_elim h3
 obtain ⟨h_xs, hK⟩ := h4
 have h : ok (F.ContainsFunc_impl_ColumnsOk_1 xs) (fun r => K (dB r) []) := ok_of_eq (F.ContainsFunc_impl_ColumnsOk_1_eq xs h_xs) hK
 refine ⟨rfl, ann95, noLoops, (.dat Ty.bool), (no_loops (by kernel_rfl)), ?_⟩
 ·rw [vc95]
  exact ⟨h_xs, h⟩
def c57 : Con := ⟨[.dat TCS], fun args hp K => g1 (pD TCS) (fun columns => (Sm TCS columns) ∧ K (dB (M.columnsOk columns)) []) args hp, .plain⟩
@[reducible] def C57 : Ctx := cx [(95, c95)] 11 [] 0 false
def ann57 := an [[kp 1], [kp 4]] []
theorem vc57 (columns : LC) (K : KA) : vcT C57 noLoops ann57 f57 [.data TCS columns] [] (.dat Ty.bool) K =
 (cond ((decide ((columns.length : Int) ≤ Z4)) == true) ((Sm TCS columns) ∧ K (dB (!(List.any columns (fun e => !M.columnOk e)))) []) (K (dB false) [])) := by kernel_rfl
theorem con57_ok : Con1 P 57 c57 := conR C57 func57 (kC con95_ok kN) fun args hp K h0 => by
 obtain ⟨columns, rfl, rfl, h_columns, hK⟩ := g1e h0
 have h : ok (F.impl_ColumnsOk columns) (fun r => K (dB r) []) := ok_of_eq (F.impl_ColumnsOk_eq columns h_columns) hK
 refine ⟨rfl, ann57, noLoops, (.dat Ty.bool), (no_loops (by kernel_rfl)), ?_⟩
 ·rw [vc57]
  exact (oC h (fun _ h => ⟨h_columns, h⟩) fun _ h => h)
def c58 : Con := ⟨[.dat TPart], fun args hp K => g1 (pD TPart) (fun p => (Sm TPart p) ∧ K (dI (M.takes p)) []) args hp, .plain⟩
@[reducible] def C58 : Ctx := cx [] 13 [] 0 false
def ann58 := an [[.fixRow 1 TPart, kp 2], [kp 16], [kp 48], [kp 48], [kp 48], [kp 48], [kp 4], [kp 1040], [kp 1024], [kp 4], [kp 4]] []
@[reducible] def S58_0 (p : TPart.D) (K : KA) : Prop := cond (decide (p.1 = (7 : Int))) (cond (decide (p.1 = (7 : Int))) (K (dI Z1) []) (K (dI Z0) [])) (cond (decide (p.1 = (8 : Int))) (K (dI Z1) []) (K (dI Z0) []))
theorem vc58 (p : TPart.D) (K : KA) : vcT C58 noLoops ann58 f58 [.data TPart p] [] (.dat TInt) K =
 (cond (decide (p.1 = Z3)) (cond (decide (p.1 = Z3)) (K (dI Z2) []) (S58_0 p K)) (cond (decide (p.1 = Z4)) (cond (decide (p.1 = Z4)) (K (dI Z2) []) (S58_0 p K)) (cond (decide (p.1 = Z5)) (cond (decide (p.1 = Z5)) (K (dI Z2) []) (S58_0 p K)) (cond (decide (p.1 = Z6)) (K (dI Z2) []) (S58_0 p K))))) := by kernel_rfl
theorem con58_ok : Con1 P 58 c58 := conR C58 func58 kN fun args hp K h0 => by
 obtain ⟨p, rfl, rfl, h_p, hK⟩ := g1e h0
 have h : ok (F.impl_Part_takes p) (fun r => K (dI r) []) := ok_of_eq (F.impl_Part_takes_eq p h_p) hK
 refine ⟨rfl, ann58, noLoops, (.dat TInt), (no_loops (by kernel_rfl)), ?_⟩
 ·rw [vc58]
  exact (oC h (fun b_1 h => (cond_t b_1 h)) fun _ h => (oC h (fun b_6 h => (cond_t b_6 h)) fun _ h => (oC h (fun b_11 h => (cond_t b_11 h)) fun _ h => (oC h (fun _ h => h) fun _ h => (oC h (fun b_17 h => (cond_t b_17 h)) fun _ h => (oC h (fun _ h => h) fun _ h => h))))))
def c132 : Con := ⟨[.dat Ty.str], fun args hp K => g1 (pD Ty.str) (fun s => (Sm Ty.str s) ∧ K (dB (M.lower (byteInts s))) []) args hp, .plain⟩
@[reducible] def C132 : Ctx := cx [(77, c77)] 17 [] 0 false
def ann132 := an [[kp 1], [kp 448], [kp 960], [kp 464], [kp 33216], [kp 4], [kp 448], [kp 4]] [[kp 0]]
@[reducible] def s132_0 (s : ByteArray) (i0 : Int) (v0 : Unit) : St := ⟨[(6, .data (Ty.sl (Ty.int .u8)) (byteInts s)), (7, dI ((byteInts s).length : Int)), (8, dI i0)], []⟩
@[reducible] def LP132_0 (s : ByteArray) (m : Nat) (st_ : St) (K : KX) : Prop := True ∧ LoopE (t := (Ty.int .u8)) (s132_0 s) (byteInts s) (F.impl_letters_l0 s) (fun v0 : Unit => True) (outD (fun v0 : Unit => True → K (.exit 0) (⟨[], []⟩ : St)) (fun q0 : Unit => K .ret (⟨[(2, dB false)], []⟩ : St))) m st_
def L132 (s : ByteArray) : Loops := lp1 0 (LP132_0 s)
theorem vc132 (s : ByteArray) (K : KA) : vcT C132 (L132 s) ann132 f132 [.data Ty.str s] [] (.dat Ty.bool) K =
 (∃ m_, True ∧ LoopE (t := (Ty.int .u8)) (s132_0 s) (byteInts s) (F.impl_letters_l0 s) (fun v0 : Unit => True) (outD (fun v0 : Unit => True → K (dB true) []) (fun q0 : Unit => K (dB false) [])) m_ (s132_0 s Z0 ())) := by kernel_rfl
theorem lvc132_0 (s : ByteArray)  (i0 : Int) (v0 : Unit) (m : Nat) (K : KX) : lvT C132 (L132 s) ann132 f132 0 0 (s132_0 s i0 v0) m K =
 (cond (decide (i0 < ((byteInts s).length : Int))) ((0 ≤ i0) ∧ (i0 < ((byteInts s).length : Int)) ∧ cond (!(M.inR (wrap64 (nth (t := (Ty.int .u8)) (byteInts s) i0)) (97 : Int) (122 : Int))) (K .ret (⟨[(2, dB false)], []⟩ : St)) (nxT (LP132_0 s) m K (s132_0 s (wrap64 (i0 + Z1)) ()))) (K (.exit 0) (⟨[], []⟩ : St))) := by kernel_rfl
theorem con132_ok : Con1 P 132 c132 := conR C132 func132 (kC con77_ok kN) fun args hp K h0 => by
 obtain ⟨s, rfl, rfl, h_s, hK⟩ := g1e h0
 have h : ok (F.impl_letters s) (fun r => K (dB r) []) := ok_of_eq (F.impl_letters_eq s h_s) hK
 refine ⟨rfl, ann132, (L132 s), (.dat Ty.bool), (loopsN1 (i0 := 0) (by kernel_rfl) ?_), ?_⟩
 ·rintro _ _ K ⟨hc0, i0, v0, rfl, hl0, rfl, hv0, h⟩
  exact cast (lvc132_0 _ _ _ _ _).symm (loopE_step (t := (Ty.int .u8)) hl0 h (fun ht0 h => ⟨hl0, ⟨ht0, (oC h (fun _ h => h) fun _ h => (loopE_next (t := (Ty.int .u8)) (fun _ hm => ⟨hc0, hm⟩) _ rfl hl0 ht0 (sm_len (sm_bytes h_s)) trivial h))⟩⟩) fun h => (h trivial))
 ·rw [vc132]
  exact (loopE_start (t := (Ty.int .u8)) (fun m hm => ⟨trivial, hm⟩) _ rfl trivial (ok_then h (fun v0 h hv0 => h) (fun q0 h => h)))
def c97 : Con := ⟨[.dat TValue], fun args hp K => g1 (pD TValue) (fun v => (Sm TValue v) ∧ K (dB (M.valueOk v)) []) args hp, .plain⟩
@[reducible] def C97 : Ctx := cx [(77, c77), (132, c132)] 46 [] 0 false
def ann97 := an [[.fixRow 1 TValue, kp 2], [kp 18], [kp 50], [kp 4], [kp 1042], [kp 4], [kp 1048594], [kp 4], [.keep [1, 36]], [kp 4], [kp 4]] []
theorem vc97 (v : TValue.D) (K : KA) : vcT C97 noLoops ann97 f97 [.data TValue v] [] (.dat Ty.bool) K =
 (cond (decide (v.1 = Z0)) (K (dB (Ty.beq TValue v (Z0, (Z0, ((⟨#[]⟩ : ByteArray), ()))))) []) (cond (decide (v.1 = Z1)) (cond ((decide (v.2.2.1 = (⟨#[]⟩ : ByteArray))) == true) (K (dB (M.inR v.2.1 (-9999 : Int) (9999 : Int))) []) (K (dB false) [])) (cond (decide (v.1 = Z2)) (cond ((decide (v.2.1 = Z0)) == true) (cond ((decide ((v.2.2.1.size : Int) ≤ Z6)) == true) ((Sm Ty.str v.2.2.1) ∧ K (dB (M.lower (byteInts v.2.2.1))) []) (K (dB false) [])) (K (dB false) [])) (cond (decide (v.1 = Z3)) (cond ((decide (v.2.2.1 = (⟨#[]⟩ : ByteArray))) == true) (K (dB (M.inR v.2.1 Z0 Z1)) []) (K (dB false) [])) (K (dB false) []))))) := by kernel_rfl
theorem con97_ok : Con1 P 97 c97 := conR C97 func97 (kC con77_ok (kC con132_ok kN)) fun args hp K h0 => by
 obtain ⟨v, rfl, rfl, h_v, hK⟩ := g1e h0
 have h : ok (F.impl_Value_ok v) (fun r => K (dB r) []) := ok_of_eq (F.impl_Value_ok_eq v h_v) hK
 refine ⟨rfl, ann97, noLoops, (.dat Ty.bool), (no_loops (by kernel_rfl)), ?_⟩
 ·rw [vc97]
  exact (oC h (fun _ h => h) fun _ h => (oC h (fun _ h => (oC h (fun _ h => h) fun _ h => h)) fun _ h => (oC h (fun _ h => (oC h (fun _ h => (oC h (fun _ h => ⟨h_v.2.2.1, h⟩) fun _ h => h)) fun _ h => h)) fun _ h => (oC h (fun _ h => (oC h (fun _ h => h) fun _ h => h)) fun _ h => h))))
def c59 : Con := ⟨[.dat TPart, .dat TCS], fun args hp K => g2 (pD TPart) (pD TCS) (fun p columns => (Sm TPart p) ∧ (Sm TCS columns) ∧ K (dB (M.tells p columns)) []) args hp, .plain⟩
@[reducible] def C59 : Ctx := cx [(77, c77), (97, c97)] 63 [] 0 false
def ann59 := an [[.fixRow 2 TPart, kp 6], [kp 70], [kp 198], [kp 16], [kp 8388678], [kp 16], [kp 137438953540], [kp 16], [.keep [2, 6, 48]], [.keep [2, 6, 48]], [.keep [2, 6, 48]], [.keep [2, 6, 48]], [.keep [2, 48]], [kp 16], [kp 16]] []
@[reducible] def S59_0 (p : TPart.D) (columns : LC) (K : KA) : Prop := cond ((decide (p.2.1 = Z0)) == true) (K (dB (Ty.beq TValue p.2.2.1 (Z0, (Z0, ((⟨#[]⟩ : ByteArray), ()))))) []) (K (dB false) [])
theorem vc59 (p : TPart.D) (columns : LC) (K : KA) : vcT C59 noLoops ann59 f59 [.data TPart p, .data TCS columns] [] (.dat Ty.bool) K =
 (cond (decide (p.1 = Z1)) (cond ((decide (p.2.1 = Z0)) == true) ((Sm TValue p.2.2.1) ∧ cond ((M.valueOk p.2.2.1) == true) (K (dB (!decide (p.2.2.1.1 = Z0))) []) (K (dB false) [])) (K (dB false) [])) (cond (decide (p.1 = Z2)) (cond ((M.inR p.2.1 Z0 (wrap64 ((columns.length : Int) - Z1))) == true) (K (dB (Ty.beq TValue p.2.2.1 (Z0, (Z0, ((⟨#[]⟩ : ByteArray), ()))))) []) (K (dB false) [])) (cond (decide (p.1 = Z4)) (cond ((M.inR p.2.1 Z1 Z4) == true) (K (dB (Ty.beq TValue p.2.2.1 (Z0, (Z0, ((⟨#[]⟩ : ByteArray), ()))))) []) (K (dB false) [])) (cond (decide (p.1 = Z3)) (cond (decide (p.1 = Z3)) (S59_0 p columns K) (K (dB false) [])) (cond (decide (p.1 = Z5)) (cond (decide (p.1 = Z5)) (S59_0 p columns K) (K (dB false) [])) (cond (decide (p.1 = Z6)) (cond (decide (p.1 = Z6)) (S59_0 p columns K) (K (dB false) [])) (cond (decide (p.1 = (7 : Int))) (cond (decide (p.1 = (7 : Int))) (S59_0 p columns K) (K (dB false) [])) (cond (decide (p.1 = (8 : Int))) (S59_0 p columns K) (K (dB false) []))))))))) := by kernel_rfl
theorem con59_ok : Con1 P 59 c59 := conR C59 func59 (kC con77_ok (kC con97_ok kN)) fun args hp K h0 => by
 obtain ⟨p, columns, rfl, rfl, h_p, h_columns, hK⟩ := g2e h0
 have h : ok (F.impl_Part_tells p columns) (fun r => K (dB r) []) := ok_of_eq (F.impl_Part_tells_eq p columns h_p h_columns) hK
 refine ⟨rfl, ann59, noLoops, (.dat Ty.bool), (no_loops (by kernel_rfl)), ?_⟩
 ·rw [vc59]
  exact (oC h (fun _ h => (oC h (fun _ h => ⟨h_p.2.2.1, (oC h (fun _ h => h) fun _ h => h)⟩) fun _ h => h)) fun _ h => (oC h (fun _ h => (oC h (fun _ h => h) fun _ h => h)) fun _ h => (oC h (fun _ h => (oC h (fun _ h => h) fun _ h => h)) fun _ h => (oC h (fun b_8 h => (cond_t b_8 (oC h (fun _ h => h) fun _ h => h))) fun _ h => (oC h (fun b_11 h => (cond_t b_11 (oC h (fun _ h => h) fun _ h => h))) fun _ h => (oC h (fun b_14 h => (cond_t b_14 (oC h (fun _ h => h) fun _ h => h))) fun _ h => (oC h (fun b_17 h => (cond_t b_17 (oC h (fun _ h => h) fun _ h => h))) fun _ h => (oC h (fun _ h => (oC h (fun _ h => h) fun _ h => h)) fun _ h => h))))))))
def c100 : Con := ⟨[.dat TInt, .any], fun args hp K => g2 (pD TInt) (pR TInt) (fun k kind => K (dB (!decide (k = kind))) []) args hp, .plain⟩
@[reducible] def C100 : Ctx := cx [] 7 [] 0 false
def ann100 := an [[kp 3], [kp 8]] []
theorem vc100 (k : Int) (kind : Int) (K : KA) : vcT C100 noLoops ann100 f100 [dI k, .ref (dI kind)] [] (.dat Ty.bool) K =
 (K (dB (!decide (k = kind))) []) := by kernel_rfl
theorem con100_ok : Con1 P 100 c100 := conR C100 func100 kN fun args hp K h0 => by
 obtain ⟨k, kind, rfl, rfl, hK⟩ := g2e h0
 have h : ok (F.impl_Part_kind_1_1 k kind) (fun r => K (dB r) []) := ok_of_eq (F.impl_Part_kind_1_1_eq k kind) hK
 refine ⟨rfl, ann100, noLoops, (.dat Ty.bool), (no_loops (by kernel_rfl)), ?_⟩
 ·rw [vc100]
  exact h
def c133 : Con := ⟨[.lent TInt, .any], fun args hp K => args2 (fun a0 a1 => withB TInt a0 fun xs => withF 100 a1 (caps1 (fun b1_0 => withR TInt b1_0 fun k0 => (Sm (Ty.sl TInt) xs) ∧ K (dI (M.idx (t := TInt) (fun e => !decide (e = k0)) xs)) []))) args hp, .plain⟩
@[reducible] def C133 : Ctx := cx [(100, c100)] 19 [] 0 false
def ann133 := an [[kp 3], [kp 387], [kp 899], [kp 419], [kp 65955], [kp 16], [kp 387], [kp 16]] [[kp 0]]
@[reducible] def s133_0 (xs : (List Int)) (k0 : Int) (i0 : Int) (v0 : Unit) : St := ⟨[(0, .brw TInt xs), (1, .fn 100 [.ref (dI k0)]), (7, dI (xs.length : Int)), (8, dI i0)], []⟩
@[reducible] def LP133_0 (xs : (List Int)) (k0 : Int) (m : Nat) (st_ : St) (K : KX) : Prop := True ∧ LoopI (s133_0 xs k0) Z0 (xs.length : Int) (F.IndexFunc_impl_Part_kind_1_1_l0 xs k0) (fun v0 : Unit => True) (outD (fun v0 : Unit => True → K (.exit 0) (⟨[], []⟩ : St)) (fun q0 : Int => K .ret (⟨[(4, dI q0)], []⟩ : St))) m st_
def L133 (xs : (List Int)) (k0 : Int) : Loops := lp1 0 (LP133_0 xs k0)
theorem vc133 (xs : (List Int)) (k0 : Int) (K : KA) : vcT C133 (L133 xs k0) ann133 f133 [.brw TInt xs, .fn 100 [.ref (dI k0)]] [] (.dat TInt) K =
 (∃ m_, True ∧ LoopI (s133_0 xs k0) Z0 (xs.length : Int) (F.IndexFunc_impl_Part_kind_1_1_l0 xs k0) (fun v0 : Unit => True) (outD (fun v0 : Unit => True → K (dI (-1 : Int)) []) (fun q0 : Int => K (dI q0) [])) m_ (s133_0 xs k0 Z0 ())) := by kernel_rfl
theorem lvc133_0 (xs : (List Int)) (k0 : Int)  (i0 : Int) (v0 : Unit) (m : Nat) (K : KX) : lvT C133 (L133 xs k0) ann133 f133 0 0 (s133_0 xs k0 i0 v0) m K =
 (cond (decide (i0 < (xs.length : Int))) ((0 ≤ i0) ∧ (i0 < (xs.length : Int)) ∧ cond (!decide ((nI xs i0) = k0)) (K .ret (⟨[(4, dI i0)], []⟩ : St)) (nxT (LP133_0 xs k0) m K (s133_0 xs k0 (wrap64 (i0 + Z1)) ()))) (K (.exit 0) (⟨[], []⟩ : St))) := by kernel_rfl
theorem con133_ok : Con1 P 133 c133 := conR C133 func133 (kC con100_ok kN) fun args hp K h0 => by
 obtain ⟨a0, a1, rfl, rfl, h1⟩ := args2_elim h0
 obtain ⟨xs, rfl, h2⟩ := withB_elim h1
 obtain ⟨cs1, rfl, h3⟩ := withF_elim h2
 obtain ⟨b1_0, rfl, h4⟩ := caps1_elim h3
 obtain ⟨k0, rfl, h5⟩ := withR_elim h4
 obtain ⟨h_xs, hK⟩ := h5
 have h : ok (F.IndexFunc_impl_Part_kind_1_1 xs k0) (fun r => K (dI r) []) := ok_of_eq (F.IndexFunc_impl_Part_kind_1_1_eq xs k0 h_xs) hK
 refine ⟨rfl, ann133, (L133 xs k0), (.dat TInt), (loopsN1 (i0 := 0) (by kernel_rfl) ?_), ?_⟩
 ·rintro _ _ K ⟨hc0, i0, v0, rfl, hl0, rfl, hv0, h⟩
  exact cast (lvc133_0 _ _ _ _ _ _).symm (loopI_step h (fun ht0 h => ⟨hl0, ⟨ht0, (oC h (fun _ h => h) fun _ h => (loopI_next (fun _ hm => ⟨hc0, hm⟩) _ rfl hl0 low0 ht0 (sm_len h_xs) trivial h))⟩⟩) fun h => (h trivial))
 ·rw [vc133]
  exact (loopI_start (fun m hm => ⟨trivial, hm⟩) Z0 _ rfl (Int.natCast_nonneg 0) trivial (ok_then h (fun v0 h hv0 => h) (fun q0 h => h)))
def c99 : Con := ⟨[.lent TInt, .any], fun args hp K => args2 (fun a0 a1 => withB TInt a0 fun xs => withF 100 a1 (caps1 (fun b1_0 => withR TInt b1_0 fun k0 => (Sm (Ty.sl TInt) xs) ∧ K (dB (List.any xs (fun e => !decide (e = k0)))) []))) args hp, .plain⟩
@[reducible] def C99 : Ctx := cx [(100, c100), (133, c133)] 9 [] 0 false
def ann99 := an [[kp 3], [kp 16]] []
theorem vc99 (xs : (List Int)) (k0 : Int) (K : KA) : vcT C99 noLoops ann99 f99 [.brw TInt xs, .fn 100 [.ref (dI k0)]] [] (.dat Ty.bool) K =
 ((Sm (Ty.sl TInt) xs) ∧ K (dB (decide (Z0 ≤ (M.idx (t := TInt) (fun e => !decide (e = k0)) xs)))) []) := by kernel_rfl
theorem con99_ok : Con1 P 99 c99 := conR C99 func99 (kC con100_ok (kC con133_ok kN)) fun args hp K h0 => by
 obtain ⟨a0, a1, rfl, rfl, h1⟩ := args2_elim h0
 obtain ⟨xs, rfl, h2⟩ := withB_elim h1
 obtain ⟨cs1, rfl, h3⟩ := withF_elim h2
 obtain ⟨b1_0, rfl, h4⟩ := caps1_elim h3
 obtain ⟨k0, rfl, h5⟩ := withR_elim h4
 obtain ⟨h_xs, hK⟩ := h5
 have h : ok (F.ContainsFunc_impl_Part_kind_1_1 xs k0) (fun r => K (dB r) []) := ok_of_eq (F.ContainsFunc_impl_Part_kind_1_1_eq xs k0 h_xs) hK
 refine ⟨rfl, ann99, noLoops, (.dat Ty.bool), (no_loops (by kernel_rfl)), ?_⟩
 ·rw [vc99]
  exact ⟨h_xs, h⟩
def c98 : Con := ⟨[.dat TInt, .any], fun args hp K => g2 (pD TInt) (pQ TInt) (fun kind ins => (Sm (Ty.sl TInt) ins) ∧ K (dB (List.all ins (fun k => decide (k = kind)))) []) args hp, .plain⟩
@[reducible] def C98 : Ctx := cx [(99, c99), (100, c100)] 8 [] 0 false
def ann98 := an [[.fixBox 2, kp 6], [kp 8]] []
theorem vc98 (kind : Int) (ins : (List Int)) (K : KA) : vcT C98 noLoops ann98 f98 [dI kind, .ref (.brw TInt ins)] [] (.dat Ty.bool) K =
 ((Sm (Ty.sl TInt) ins) ∧ K (dB (!(List.any ins (fun e => !decide (e = kind))))) []) := by kernel_rfl
theorem con98_ok : Con1 P 98 c98 := conR C98 func98 (kC con99_ok (kC con100_ok kN)) fun args hp K h0 => by
 obtain ⟨kind, ins, rfl, rfl, h_ins, hK⟩ := g2e h0
 have h : ok (F.impl_Part_kind_1 kind ins) (fun r => K (dB r) []) := ok_of_eq (F.impl_Part_kind_1_eq kind ins h_ins) hK
 refine ⟨rfl, ann98, noLoops, (.dat Ty.bool), (no_loops (by kernel_rfl)), ?_⟩
 ·rw [vc98]
  exact ⟨h_ins, h⟩
def c60 : Con := ⟨[.dat TPart, .dat TCS, .lent TInt], fun args hp K => g3 (pD TPart) (pD TCS) (pB TInt) (fun p columns inp => (Sm TPart p) ∧ (Sm TCS columns) ∧ (Sm (Ty.sl TInt) inp) ∧ (M.tells p columns = true) ∧ ((inp.length : Int) = M.takes p) ∧ (∀ r : Int × Bool, r = (M.partKind p columns inp) → K (.tup [dI r.1, dB r.2]) [])) args hp, .plain⟩
@[reducible] def C60 : Ctx := cx [(98, c98)] 42 [] 0 false
def ann60 := an [[.fixRow 3 TPart, .fixBox 5, kp 42], [kp 298], [kp 2346], [kp 6442], [kp 192], [kp 133418], [kp 192], [kp 33556768], [kp 192], [kp 536873248], [kp 192], [.keep [8, 38]], [kp 192], [kp 192]] []
theorem vc60 (p : TPart.D) (columns : LC) (inp : (List Int)) (K : KA) : vcT C60 noLoops ann60 f60 [.data TPart p, .data TCS columns, .brw TInt inp] [] (.tup [TInt, Ty.bool]) K =
 (cond (decide (p.1 = Z1)) (K (.tup [dI p.2.2.1.1, dB true]) []) (cond (decide (p.1 = Z2)) ((0 ≤ p.2.1) ∧ (p.2.1 < (columns.length : Int)) ∧ K (.tup [dI (nC columns p.2.1).1, dB true]) []) (cond (decide (p.1 = Z3)) ((Sm (Ty.sl TInt) inp) ∧ K (.tup [dI Z1, dB (List.all inp (fun k => decide (k = Z1)))]) []) (cond (decide (p.1 = Z4)) ((0 ≤ Z0) ∧ (Z0 < (inp.length : Int)) ∧ (0 ≤ Z1) ∧ (Z1 < (inp.length : Int)) ∧ K (.tup [dI Z3, dB (decide ((nI inp Z0) = (nI inp Z1)))]) []) (cond (decide (p.1 = (8 : Int))) (K (.tup [dI Z3, dB true]) []) ((Sm (Ty.sl TInt) inp) ∧ K (.tup [dI Z3, dB (List.all inp (fun k => decide (k = Z3)))]) [])))))) := by kernel_rfl
theorem con60_ok : Con1 P 60 c60 := conR C60 func60 (kC con98_ok kN) fun args hp K h0 => by
 obtain ⟨p, columns, inp, rfl, rfl, h_p, h_columns, h_inp, p0, p1, hK⟩ := g3e h0
 have h : ok (F.impl_Part_kind p columns inp) (fun r => K (.tup [dI r.1, dB r.2]) []) := ok_of_eq (F.impl_Part_kind_eq p columns inp h_p h_columns h_inp p0 p1) (hK _ rfl)
 refine ⟨rfl, ann60, noLoops, (.tup [TInt, Ty.bool]), (no_loops (by kernel_rfl)), ?_⟩
 ·rw [vc60]
  exact (oC h (fun _ h => h) fun _ h => (oC h (fun _ h => (oG h fun _ h => (oG h fun _ h => h))) fun _ h => (oC h (fun _ h => ⟨h_inp, h⟩) fun _ h => (oC h (fun _ h => ⟨(Int.natCast_nonneg 0), (oG h fun _ h => ⟨(Int.natCast_nonneg 1), (oG h fun _ h => h)⟩)⟩) fun _ h => (oC h (fun _ h => h) fun _ h => ⟨h_inp, h⟩)))))
def c29 : Con := ⟨[.dat TCS, .dat TPS], fun args hp K => g2 (pD TCS) (pD TPS) (fun columns e => (Sm TCS columns) ∧ (Sm TPS e) ∧ K (dI (M.exprKind columns e)) []) args hp, .plain⟩
@[reducible] def C29 : Ctx := cx [(57, c57), (58, c58), (59, c59), (60, c60)] 67 [] 0 false
def ann29 := an [[kp 3], [kp 262147], [kp 16], [kp 35], [kp 3670049], [kp 7864353], [.fixRow 7 TPart, kp 3670177], [kp 3670433], [kp 68723147169], [kp 16], [kp 3671841], [kp 1125899910513441], [kp 16], [kp 3670049], [kp 3670049], [.keep [5, 63]], [kp 16], [kp 16]] [[kp 32]]
@[reducible] def s29_0 (columns : LC) (e : LPt) (i0 : Int) (v0 : (List Int)) : St := ⟨[(0, .data TCS columns), (5, .own 5 none), (19, .data TPS e), (20, dI (e.length : Int)), (21, dI i0)], [(5, .arr false TInt v0)]⟩
@[reducible] def LP29_0 (columns : LC) (e : LPt) (m : Nat) (st_ : St) (K : KX) : Prop := True ∧ LoopE (t := TPart) (s29_0 columns e) e (F.impl_ExprKind_l0 columns e) (fun v0 : (List Int) => True) (outD (fun v0 : (List Int) => True → K (.exit 0) (⟨[(5, .own 5 none)], [(5, .arr false TInt v0)]⟩ : St)) (fun q0 : Unit => K .ret (⟨[(4, dI (-1 : Int))], []⟩ : St))) m st_
def L29 (columns : LC) (e : LPt) : Loops := lp1 0 (LP29_0 columns e)
theorem vc29 (columns : LC) (e : LPt) (K : KA) : vcT C29 (L29 columns e) ann29 f29 [.data TCS columns, .data TPS e] [] (.dat TInt) K =
 ((Sm TCS columns) ∧ cond ((!(M.columnsOk columns)) == false) (cond (decide ((12 : Int) < (e.length : Int))) (K (dI (-1 : Int)) []) (∃ m_, True ∧ LoopE (t := TPart) (s29_0 columns e) e (F.impl_ExprKind_l0 columns e) (fun v0 : (List Int) => True) (outD (fun v0 : (List Int) => True → cond (!decide ((v0.length : Int) = Z1)) (K (dI (-1 : Int)) []) ((0 ≤ Z0) ∧ (Z0 < (v0.length : Int)) ∧ K (dI (nI v0 Z0)) [])) (fun q0 : Unit => K (dI (-1 : Int)) [])) m_ (s29_0 columns e Z0 []))) (K (dI (-1 : Int)) [])) := by kernel_rfl
theorem lvc29_0 (columns : LC) (e : LPt)  (i0 : Int) (v0 : (List Int)) (m : Nat) (K : KX) : lvT C29 (L29 columns e) ann29 f29 0 0 (s29_0 columns e i0 v0) m K =
 (cond (decide (i0 < (e.length : Int))) ((0 ≤ i0) ∧ (i0 < (e.length : Int)) ∧ (Sm TPart (nP e i0)) ∧ (Sm TPart (nP e i0)) ∧ (Sm TCS columns) ∧ cond ((!(M.tells (nP e i0) columns)) == false) (cond (decide ((v0.length : Int) < (M.takes (nP e i0)))) (K .ret (⟨[(4, dI (-1 : Int))], []⟩ : St)) ((0 ≤ wrap64 ((v0.length : Int) - (M.takes (nP e i0)))) ∧ (wrap64 ((v0.length : Int) - (M.takes (nP e i0))) ≤ (v0.length : Int)) ∧ ((v0.length : Int) ≤ (v0.length : Int)) ∧ ((v0.length : Int) = (v0.length : Int)) ∧ (Sm TPart (nP e i0)) ∧ (Sm TCS columns) ∧ (Sm (Ty.sl TInt) (cutList v0 (some (wrap64 ((v0.length : Int) - (M.takes (nP e i0))), (v0.length : Int))))) ∧ (M.tells (nP e i0) columns = true) ∧ (((cutList v0 (some (wrap64 ((v0.length : Int) - (M.takes (nP e i0))), (v0.length : Int)))).length : Int) = M.takes (nP e i0)) ∧ (∀ r1 : Int × Bool, r1 = (M.partKind (nP e i0) columns (cutList v0 (some (wrap64 ((v0.length : Int) - (M.takes (nP e i0))), (v0.length : Int))))) → cond (!r1.2) (K .ret (⟨[(4, dI (-1 : Int))], []⟩ : St)) ((0 ≤ Z0) ∧ (Z0 ≤ wrap64 ((v0.length : Int) - (M.takes (nP e i0)))) ∧ (wrap64 ((v0.length : Int) - (M.takes (nP e i0))) ≤ (v0.length : Int)) ∧ (wrap64 ((v0.length : Int) - (M.takes (nP e i0))) = wrap64 ((v0.length : Int) - (M.takes (nP e i0)))) ∧ (Z0 = 0) ∧ (((wrap64 ((v0.length : Int) - (M.takes (nP e i0)))).toNat + [r1.1].length) * 8 ≤ lim) ∧ (nxT (LP29_0 columns e) m K (s29_0 columns e (wrap64 (i0 + Z1)) (v0.take (wrap64 ((v0.length : Int) - (M.takes (nP e i0)))).toNat ++ [r1.1]))))))) (K .ret (⟨[(4, dI (-1 : Int))], []⟩ : St))) (K (.exit 0) (⟨[(5, .own 5 none)], [(5, .arr false TInt v0)]⟩ : St))) := by kernel_rfl
theorem con29_ok : Con1 P 29 c29 := conR C29 func29 (kC con57_ok (kC con58_ok (kC con59_ok (kC con60_ok kN)))) fun args hp K h0 => by
 obtain ⟨columns, e, rfl, rfl, h_columns, h_e, hK⟩ := g2e h0
 have h : ok (F.impl_ExprKind columns e) (fun r => K (dI r) []) := ok_of_eq (F.impl_ExprKind_eq columns e h_columns h_e) hK
 refine ⟨rfl, ann29, (L29 columns e), (.dat TInt), (loopsN1 (i0 := 0) (by kernel_rfl) ?_), ?_⟩
 ·rintro _ _ K ⟨hc0, i0, v0, rfl, hl0, rfl, hv0, h⟩
  exact cast (lvc29_0 _ _ _ _ _ _).symm (loopE_step (t := TPart) hl0 h (fun ht0 h => ⟨hl0, ⟨ht0, ⟨(sm_nth h_e i0), ⟨(sm_nth h_e i0), ⟨h_columns, (oC h (fun b_37 h => (oC h (fun _ h => h) fun _ h => (oG h fun _ h => (oG h fun g1 h => ⟨(Int.le_refl _), ⟨rfl, ⟨(sm_nth h_e i0), ⟨h_columns, (oG h fun _ h => ⟨(bnf (bgt b_37)), (oG h fun _ h => (oL h fun _ _ h => (oC h (fun _ h => h) fun _ h => ⟨(Int.natCast_nonneg 0), (oG h fun _ h => ⟨g1, ⟨rfl, ⟨rfl, (oG h fun _ h => (loopE_next (t := TPart) (fun _ hm => ⟨hc0, hm⟩) _ rfl hl0 ht0 (sm_len h_e) trivial h))⟩⟩⟩)⟩)))⟩)⟩⟩⟩⟩)))) fun _ h => h)⟩⟩⟩⟩⟩) fun h => (h trivial))
 ·rw [vc29]
  exact ⟨h_columns, (oC h (fun _ h => (oC h (fun _ h => h) fun _ h => (loopE_start (t := TPart) (fun m hm => ⟨trivial, hm⟩) _ rfl trivial (ok_then h (fun v0 h hv0 => (oC h (fun _ h => h) fun _ h => ⟨(Int.natCast_nonneg 0), (oG h fun _ h => h)⟩)) (fun q0 h => h))))) fun _ h => h)⟩
def c160 : Con := ⟨[.dat TInt], fun args hp K => g1 (pD TInt) (fun x => K (dB false) []) args hp, .plain⟩
@[reducible] def C160 : Ctx := cx [] 6 [] 0 false
def ann160 := an [[kp 1], [kp 4]] []
theorem vc160 (x : Int) (K : KA) : vcT C160 noLoops ann160 f160 [dI x] [] (.dat Ty.bool) K =
 (K (dB (!decide (x = x))) []) := by kernel_rfl
theorem con160_ok : Con1 P 160 c160 := conR C160 func160 kN fun args hp K h0 => by
 obtain ⟨x, rfl, rfl, hK⟩ := g1e h0
 have h : ok (F.cmp_isNaN_int x) (fun r => K (dB r) []) := ok_of_eq (F.cmp_isNaN_int_eq x) hK
 refine ⟨rfl, ann160, noLoops, (.dat Ty.bool), (no_loops (by kernel_rfl)), ?_⟩
 ·rw [vc160]
  exact h
def c140 : Con := ⟨[.dat TInt, .dat TInt], fun args hp K => g2 (pD TInt) (pD TInt) (fun x y => K (dB (decide (x < y))) []) args hp, .plain⟩
@[reducible] def C140 : Ctx := cx [(160, c160)] 17 [] 0 false
def ann140 := an [[kp 3], [kp 16]] []
theorem vc140 (x : Int) (y : Int) (K : KA) : vcT C140 noLoops ann140 f140 [dI x, dI y] [] (.dat Ty.bool) K =
 (cond (false == true) (cond ((!false) == false) (K (dB (decide (x < y))) []) (K (dB true) [])) (K (dB (decide (x < y))) [])) := by kernel_rfl
theorem con140_ok : Con1 P 140 c140 := conR C140 func140 (kC con160_ok kN) fun args hp K h0 => by
 obtain ⟨x, y, rfl, rfl, hK⟩ := g2e h0
 have h : ok (F.cmp_Less_int x y) (fun r => K (dB r) []) := ok_of_eq (F.cmp_Less_int_eq x y) hK
 refine ⟨rfl, ann140, noLoops, (.dat Ty.bool), (no_loops (by kernel_rfl)), ?_⟩
 ·rw [vc140]
  exact (oC h (fun b_1 h => (cond_t (ugt (unf (bet b_1))) h)) fun _ h => h)
def c134 : Con := ⟨[.dat TInt, .dat TInt], fun args hp K => hpN 1000000 false TInt (fun xs => args3 (fun a0 a1 a2 => withC 1000000 (xs.length : Int) a0 (withD TInt a1 fun a => withD TInt a2 fun b => (Sm (Ty.sl TInt) xs) ∧ (a = 0) ∧ (b = (xs.length : Int)) ∧ (∀ r : (List Int), r = (M.isort xs) → K (.tup []) [(1000000, .arr false TInt r)]))) args []) hp, .io⟩
@[reducible] def C134 : Ctx := cx [(140, c140)] 49 [] 0 false
def ann134 := an [[kp 71], [kp 4167], [kp 71], [kp 199], [kp 1073742023], [kp 199], [kp 199]] [[kp 0], [], [kp 71]]
@[reducible] def s134_0 (xs : (List Int)) (a : Int) (b : Int) (i0 : Int) (v0 : (List Int)) : St := ⟨[(0, .clp 1000000 (xs.length : Int)), (1, dI a), (2, dI b), (6, dI i0)], [(1000000, .arr false TInt v0)]⟩
@[reducible] def LP134_0 (xs : (List Int)) (a : Int) (b : Int) (m : Nat) (st_ : St) (K : KX) : Prop := (b ≤ top63 ∧ True) ∧ LoopI (s134_0 xs a b) Z0 b (F.slices_insertionSort_l0 xs a b) (fun v0 : (List Int) => True) (outD (fun v0 : (List Int) => True → K (.exit 0) (⟨[], [(1000000, .arr false TInt v0)]⟩ : St)) (fun _ => False)) m st_
@[reducible] def s134_2 (xs : (List Int)) (a : Int) (b : Int) (c2_0 : Int) (v2 : Int × (List Int)) : St := ⟨[(0, .clp 1000000 (xs.length : Int)), (1, dI a), (2, dI b), (6, dI c2_0), (7, dI v2.1)], [(1000000, .arr false TInt v2.2)]⟩
@[reducible] def LP134_2 (xs : (List Int)) (a : Int) (b : Int) (m : Nat) (st_ : St) (K : KX) : Prop := ∃ c2_0 : Int, True ∧ LoopW (s134_2 xs a b c2_0) (F.slices_insertionSort_l2 xs a b c2_0) (fun v2 : Int × (List Int) => True) (fun e2 : (List Int) => True → K (.exit 2) (⟨[(0, .clp 1000000 (xs.length : Int)), (1, dI a), (2, dI b), (6, dI c2_0)], [(1000000, .arr false TInt e2)]⟩ : St)) m st_
def L134 (xs : (List Int)) (a : Int) (b : Int) : Loops := lp2 0 (LP134_0 xs a b) 2 (LP134_2 xs a b)
theorem vc134 (xs : (List Int)) (a : Int) (b : Int) (K : KA) : vcT C134 (L134 xs a b) ann134 f134 [.clp 1000000 (xs.length : Int), dI a, dI b] [(1000000, .arr false TInt xs)] .raw K =
 (∃ m_, (b ≤ top63 ∧ True) ∧ LoopI (s134_0 xs a b) Z0 b (F.slices_insertionSort_l0 xs a b) (fun v0 : (List Int) => True) (outD (fun v0 : (List Int) => True → K (.tup []) [(1000000, .arr false TInt v0)]) (fun _ => False)) m_ (s134_0 xs a b (wrap64 (a + Z1)) xs)) := by kernel_rfl
theorem lvc134_0 (xs : (List Int)) (a : Int) (b : Int)  (i0 : Int) (v0 : (List Int)) (m : Nat) (K : KX) : lvT C134 (L134 xs a b) ann134 f134 0 0 (s134_0 xs a b i0 v0) m K =
 (cond (decide (i0 < b)) (∃ m_, ∃ c2_0 : Int, True ∧ LoopW (s134_2 xs a b c2_0) (F.slices_insertionSort_l2 xs a b c2_0) (fun v2 : Int × (List Int) => True) (fun e2 : (List Int) => True → (nxT (LP134_0 xs a b) m K (s134_0 xs a b (wrap64 (c2_0 + Z1)) e2))) m_ (s134_2 xs a b i0 (i0, v0))) (K (.exit 0) (⟨[], [(1000000, .arr false TInt v0)]⟩ : St))) := by kernel_rfl
@[reducible] def S134l2_0 (xs : (List Int)) (a : Int) (b : Int) (c2_0 : Int) (v2 : Int × (List Int)) (m : Nat) (K : KX) : Prop := (0 ≤ wrap64 (v2.1 - Z1)) ∧ (wrap64 (v2.1 - Z1) < (xs.length : Int)) ∧ (let y1 : (List Int) := ((v2.2.set v2.1.toNat (nI v2.2 (wrap64 (v2.1 - Z1)))).set (wrap64 (v2.1 - Z1)).toNat (nI v2.2 v2.1)); (nxT (LP134_2 xs a b) m K (s134_2 xs a b c2_0 (wrap64 (v2.1 - Z1), y1))))
@[reducible] def S134l2_1 (xs : (List Int)) (a : Int) (b : Int) (c2_0 : Int) (v2 : Int × (List Int)) (m : Nat) (K : KX) : Prop := K (.exit 2) (⟨[(0, .clp 1000000 (xs.length : Int)), (1, dI a), (2, dI b), (6, dI c2_0)], [(1000000, .arr false TInt v2.2)]⟩ : St)
theorem lvc134_1 (xs : (List Int)) (a : Int) (b : Int) (c2_0 : Int) (v2 : Int × (List Int)) (m : Nat) (K : KX) : lvT C134 (L134 xs a b) ann134 f134 1 2 (s134_2 xs a b c2_0 v2) m K =
 (cond ((decide (a < v2.1)) == true) ((0 ≤ v2.1) ∧ (v2.1 < (xs.length : Int)) ∧ (0 ≤ wrap64 (v2.1 - Z1)) ∧ (wrap64 (v2.1 - Z1) < (xs.length : Int)) ∧ cond (decide ((nI v2.2 v2.1) < (nI v2.2 (wrap64 (v2.1 - Z1))))) ((0 ≤ wrap64 (v2.1 - Z1)) ∧ (wrap64 (v2.1 - Z1) < (xs.length : Int)) ∧ (0 ≤ v2.1) ∧ (v2.1 < (xs.length : Int)) ∧ (0 ≤ v2.1) ∧ (v2.1 < (xs.length : Int)) ∧ (S134l2_0  xs a b c2_0 v2 m K) ∧ (S134l2_0  xs a b c2_0 v2 m K)) (S134l2_1  xs a b c2_0 v2 m K)) (S134l2_1  xs a b c2_0 v2 m K)) := by kernel_rfl
theorem con134_ok : Con1 P 134 c134 := conR C134 func134 (kC con140_ok kN) fun args hp K h0 => by
 unfold c134 at h0
 dsimp only at h0
 obtain ⟨xs, rfl, h00⟩ := hpN_elim (n := 1000000) (d := false) (t := TInt) h0
 obtain ⟨a0, a1, a2, rfl, _, h1⟩ := args3_elim h00
 obtain ⟨rfl, h2⟩ := withC_elim h1
 obtain ⟨a, rfl, h3⟩ := withD_elim h2
 obtain ⟨b, rfl, h4⟩ := withD_elim h3
 obtain ⟨h_xs, p0, p1, hK⟩ := h4
 have h : ok (F.slices_insertionSort xs a b) (fun r => K (.tup []) [(1000000, .arr false TInt r)]) := ok_of_eq (F.slices_insertionSort_eq xs a b h_xs p0 p1) (hK _ rfl)
 refine ⟨rfl, ann134, (L134 xs a b), .raw, (loopsN2 (i0 := 0) (i1 := 2) (by kernel_rfl) ?_ ?_), ?_⟩
 ·rintro _ _ K ⟨hc0, i0, v0, rfl, hl0, rfl, hv0, h⟩
  exact cast (lvc134_0 _ _ _ _ _ _ _).symm (loopI_step h (fun ht0 h => (loopW_start (fun m hm => ⟨i0, trivial, hm⟩) _ rfl trivial (ok_bind h (fun e2 h hv2 => (loopI_next (fun _ hm => ⟨hc0, hm⟩) _ rfl hl0 low0 ht0 hc0.1 trivial h))))) fun h => (h trivial))
 ·rintro _ _ K ⟨c2_0, hc2, v2, rfl, hv2, h⟩
  exact cast (lvc134_1 _ _ _ _ _ _ _).symm (loopW_step h (fun m1 hm2 h => (oC h (fun _ h => (oG h fun g1 h => (oG h fun g2 h => (oG h fun g3 h => (oG h fun g4 h => (oC h (fun _ h => ⟨g3, ⟨g4, ⟨g1, ⟨g2, ⟨g1, ⟨g2, (⟨⟨g3, ⟨g4, (let y1 : (List Int) := ((v2.2.set v2.1.toNat (nI v2.2 (wrap64 (v2.1 - Z1)))).set (wrap64 (v2.1 - Z1)).toNat (nI v2.2 v2.1)); (have h := (ok_let h y1 rfl); (loopW_next (fun _ hm => ⟨c2_0, hc2, hm⟩) hm2 _ rfl trivial h)))⟩⟩, ⟨g3, ⟨g4, (let y1 : (List Int) := ((v2.2.set v2.1.toNat (nI v2.2 (wrap64 (v2.1 - Z1)))).set (wrap64 (v2.1 - Z1)).toNat (nI v2.2 v2.1)); (have h := (ok_let h y1 rfl); (loopW_next (fun _ hm => ⟨c2_0, hc2, hm⟩) hm2 _ rfl trivial h)))⟩⟩⟩)⟩⟩⟩⟩⟩⟩) fun _ h => ((ok_ret h :) trivial))))))) fun _ h => ((ok_ret h :) trivial))))
 ·rw [vc134]
  exact (have hi_0 := (ok_guard h).1; have hlo := (ok_guard (ok_guard h).2).1; have h := (ok_guard (ok_guard h).2).2; (loopI_start (fun m hm => ⟨⟨hi_0, trivial⟩, hm⟩) (wrap64 (a + Z1)) _ rfl hlo trivial (ok_then h (fun v0 h hv0 => h) (fun _ h => h.elim))))
def c101 : Con := ⟨[.dat TInt, .dat TInt, .dat TInt], fun args hp K => hpN 1000000 false TInt (fun xs => args4 (fun a0 a1 a2 a3 => withC 1000000 (xs.length : Int) a0 (withD TInt a1 fun a => withD TInt a2 fun b => withD TInt a3 fun limit => (Sm (Ty.sl TInt) xs) ∧ (a = 0) ∧ (b = (xs.length : Int)) ∧ (xs.length ≤ 12) ∧ (∀ r : (List Int), r = (M.isort xs) → K (.tup []) [(1000000, .arr false TInt r)]))) args []) hp, .io⟩
@[reducible] def C101 : Ctx := cx [(134, c134)] 134 [] 0 false
def ann101 := an [[kp 7], [kp 7], [kp 1031], [kp 8388615], [kp 0]] [[kp 0]]
@[reducible] def s101_0 (xs : (List Int)) (a : Int) (b : Int) (limit : Int) (v0 : Unit) : St := ⟨[(0, .clp 1000000 (xs.length : Int)), (1, dI a), (2, dI b)], [(1000000, .arr false TInt xs)]⟩
@[reducible] def LP101_0 (xs : (List Int)) (a : Int) (b : Int) (limit : Int) (m : Nat) (st_ : St) (K : KX) : Prop := True ∧ LoopW (s101_0 xs a b limit) (F.slices_pdqsort_l0 xs a b limit) (fun v0 : Unit => True) (fun q0 : (List Int) => K .ret (⟨[], [(1000000, .arr false TInt q0)]⟩ : St)) m st_
def L101 (xs : (List Int)) (a : Int) (b : Int) (limit : Int) : Loops := lp1 0 (LP101_0 xs a b limit)
theorem vc101 (xs : (List Int)) (a : Int) (b : Int) (limit : Int) (K : KA) : vcT C101 (L101 xs a b limit) ann101 (cutF [(23, false)] f101) [.clp 1000000 (xs.length : Int), dI a, dI b, dI limit] [(1000000, .arr false TInt xs)] .raw K =
 (∃ m_, True ∧ LoopW (s101_0 xs a b limit) (F.slices_pdqsort_l0 xs a b limit) (fun v0 : Unit => True) (fun q0 : (List Int) => K (.tup []) [(1000000, .arr false TInt q0)]) m_ (s101_0 xs a b limit ())) := by kernel_rfl
theorem lvc101_0 (xs : (List Int)) (a : Int) (b : Int) (limit : Int)  (v0 : Unit) (m : Nat) (K : KX) : lvT C101 (L101 xs a b limit) ann101 (cutF [(23, false)] f101) 0 0 (s101_0 xs a b limit v0) m K =
 (cond (decide (wrap64 (b - a) ≤ (12 : Int))) (((xs.length : Int) = (xs.length : Int)) ∧ ((xs.length : Int) = (xs.length : Int)) ∧ (Sm (Ty.sl TInt) xs) ∧ (a = 0) ∧ (b = (xs.length : Int)) ∧ (∀ r1 : (List Int), r1 = (M.isort xs) → (r1.length = xs.length) ∧ K .ret (⟨[], [(1000000, .arr false TInt r1)]⟩ : St))) False) := by kernel_rfl
theorem con101_ok : Con1 P 101 c101 := conRc [(23, false)] C101 func101 (kC con134_ok kN) fun args hp K h0 => by
 unfold c101 at h0
 dsimp only at h0
 obtain ⟨xs, rfl, h00⟩ := hpN_elim (n := 1000000) (d := false) (t := TInt) h0
 obtain ⟨a0, a1, a2, a3, rfl, _, h1⟩ := args4_elim h00
 obtain ⟨rfl, h2⟩ := withC_elim h1
 obtain ⟨a, rfl, h3⟩ := withD_elim h2
 obtain ⟨b, rfl, h4⟩ := withD_elim h3
 obtain ⟨limit, rfl, h5⟩ := withD_elim h4
 obtain ⟨h_xs, p0, p1, p2, hK⟩ := h5
 have h : ok (F.slices_pdqsort xs a b limit) (fun r => K (.tup []) [(1000000, .arr false TInt r)]) := ok_of_eq (F.slices_pdqsort_eq xs a b limit h_xs p0 p1 p2) (hK _ rfl)
 refine ⟨rfl, ann101, (L101 xs a b limit), .raw, (loopsN1 (i0 := 0) (by kernel_rfl) ?_), ?_⟩
 ·rintro _ _ K ⟨hc0, v0, rfl, hv0, h⟩
  exact cast (lvc101_0 _ _ _ _ _ _ _).symm (loopW_step h (fun m1 hm0 h => (oC h (fun _ h => ⟨rfl, ⟨rfl, ⟨h_xs, (oG h fun _ h => (oG h fun _ h => (oL h fun _ er1 h => ⟨(by rw [er1]; exact (M.isort_length _)), h⟩)))⟩⟩⟩) fun _ h => h)))
 ·rw [vc101]
  exact (loopW_start (fun m hm => ⟨trivial, hm⟩) _ rfl trivial (ok_bind h (fun q0 h => h)))
def c144 : Con := ⟨[.dat (Ty.int .u64)], fun args hp K => g1 (pD (Ty.int .u64)) (fun x => (0 ≤ x) ∧ (x ≤ 12) ∧ K (dI (M.len64 x)) []) args hp, .plain⟩
@[reducible] def C144 : Ctx := cx [] 25 [] 0 false
def ann144 := an [[kp 5], [kp 21], [], [], [kp 261], [], [], [kp 16389], [], [], [kp 4]] []
theorem vc144 (x : Int) (K : KA) : vcT C144 noLoops ann144 (cutF [(4, true), (8, true), (14, true)] f144) [.data (Ty.int .u64) x] [] .raw K =
 (cond (decide ((4294967296 : Int) ≤ x)) False (cond (decide ((65536 : Int) ≤ x)) False (cond (decide ((256 : Int) ≤ x)) False ((0 ≤ (x % 256)) ∧ ((x % 256) < ((⟨#[0, 1, 2, 2, 3, 3, 3, 3, 4, 4, 4, 4, 4, 4, 4, 4, 5, 5, 5, 5, 5, 5, 5, 5, 5, 5, 5, 5, 5, 5, 5, 5, 6, 6, 6, 6, 6, 6, 6, 6, 6, 6, 6, 6, 6, 6, 6, 6, 6, 6, 6, 6, 6, 6, 6, 6, 6, 6, 6, 6, 6, 6, 6, 6, 7, 7, 7, 7, 7, 7, 7, 7, 7, 7, 7, 7, 7, 7, 7, 7, 7, 7, 7, 7, 7, 7, 7, 7, 7, 7, 7, 7, 7, 7, 7, 7, 7, 7, 7, 7, 7, 7, 7, 7, 7, 7, 7, 7, 7, 7, 7, 7, 7, 7, 7, 7, 7, 7, 7, 7, 7, 7, 7, 7, 7, 7, 7, 7, 8, 8, 8, 8, 8, 8, 8, 8, 8, 8, 8, 8, 8, 8, 8, 8, 8, 8, 8, 8, 8, 8, 8, 8, 8, 8, 8, 8, 8, 8, 8, 8, 8, 8, 8, 8, 8, 8, 8, 8, 8, 8, 8, 8, 8, 8, 8, 8, 8, 8, 8, 8, 8, 8, 8, 8, 8, 8, 8, 8, 8, 8, 8, 8, 8, 8, 8, 8, 8, 8, 8, 8, 8, 8, 8, 8, 8, 8, 8, 8, 8, 8, 8, 8, 8, 8, 8, 8, 8, 8, 8, 8, 8, 8, 8, 8, 8, 8, 8, 8, 8, 8, 8, 8, 8, 8, 8, 8, 8, 8, 8, 8, 8, 8, 8, 8, 8, 8, 8, 8, 8, 8, 8, 8, 8, 8, 8, 8]⟩ : ByteArray).size : Int)) ∧ K (dI (wrap64 (Z0 + wrap64 (((⟨#[0, 1, 2, 2, 3, 3, 3, 3, 4, 4, 4, 4, 4, 4, 4, 4, 5, 5, 5, 5, 5, 5, 5, 5, 5, 5, 5, 5, 5, 5, 5, 5, 6, 6, 6, 6, 6, 6, 6, 6, 6, 6, 6, 6, 6, 6, 6, 6, 6, 6, 6, 6, 6, 6, 6, 6, 6, 6, 6, 6, 6, 6, 6, 6, 7, 7, 7, 7, 7, 7, 7, 7, 7, 7, 7, 7, 7, 7, 7, 7, 7, 7, 7, 7, 7, 7, 7, 7, 7, 7, 7, 7, 7, 7, 7, 7, 7, 7, 7, 7, 7, 7, 7, 7, 7, 7, 7, 7, 7, 7, 7, 7, 7, 7, 7, 7, 7, 7, 7, 7, 7, 7, 7, 7, 7, 7, 7, 7, 8, 8, 8, 8, 8, 8, 8, 8, 8, 8, 8, 8, 8, 8, 8, 8, 8, 8, 8, 8, 8, 8, 8, 8, 8, 8, 8, 8, 8, 8, 8, 8, 8, 8, 8, 8, 8, 8, 8, 8, 8, 8, 8, 8, 8, 8, 8, 8, 8, 8, 8, 8, 8, 8, 8, 8, 8, 8, 8, 8, 8, 8, 8, 8, 8, 8, 8, 8, 8, 8, 8, 8, 8, 8, 8, 8, 8, 8, 8, 8, 8, 8, 8, 8, 8, 8, 8, 8, 8, 8, 8, 8, 8, 8, 8, 8, 8, 8, 8, 8, 8, 8, 8, 8, 8, 8, 8, 8, 8, 8, 8, 8, 8, 8, 8, 8, 8, 8, 8, 8, 8, 8, 8, 8, 8, 8, 8, 8]⟩ : ByteArray).get! (x % 256).toNat).toNat : Int)))) [])))) := by kernel_rfl
theorem con144_ok : Con1 P 144 c144 := conRc [(4, true), (8, true), (14, true)] C144 func144 kN fun args hp K h0 => by
 obtain ⟨x, rfl, rfl, p0, p1, hK⟩ := g1e h0
 have h : ok (F.bits_Len64 x) (fun r => K (dI r) []) := ok_of_eq (F.bits_Len64_eq x p0 p1) hK
 refine ⟨rfl, ann144, noLoops, .raw, (no_loops (by kernel_rfl)), ?_⟩
 ·rw [vc144]
  exact (oC h (fun _ h => h) fun _ h => (oC h (fun _ h => h) fun _ h => (oC h (fun _ h => h) fun _ h => (oG h fun _ h => (oG h fun _ h => h)))))
def c102 : Con := ⟨[.dat (Ty.int .u64)], fun args hp K => g1 (pD (Ty.int .u64)) (fun x => (0 ≤ x) ∧ (x ≤ 12) ∧ K (dI (M.len64 x)) []) args hp, .plain⟩
@[reducible] def C102 : Ctx := cx [(144, c144)] 8 [] 0 false
def ann102 := an [[kp 1], [kp 4], [kp 4]] []
theorem vc102 (x : Int) (K : KA) : vcT C102 noLoops ann102 f102 [.data (Ty.int .u64) x] [] .raw K =
 ((0 ≤ x) ∧ (x ≤ 12) ∧ K (dI (M.len64 x)) []) := by kernel_rfl
theorem con102_ok : Con1 P 102 c102 := conR C102 func102 (kC con144_ok kN) fun args hp K h0 => by
 obtain ⟨x, rfl, rfl, p0, p1, hK⟩ := g1e h0
 have h : ok (F.bits_Len x) (fun r => K (dI r) []) := ok_of_eq (F.bits_Len_eq x p0 p1) hK
 refine ⟨rfl, ann102, noLoops, .raw, (no_loops (by kernel_rfl)), ?_⟩
 ·rw [vc102]
  exact ⟨p0, ⟨p1, h⟩⟩
def c61 : Con := ⟨[], fun args hp K => hpN 1000000 false TInt (fun xs => args1 (fun a0 => withC 1000000 (xs.length : Int) a0 ((Sm (Ty.sl TInt) xs) ∧ (xs.length ≤ 12) ∧ (∀ r : (List Int), r = (M.isort xs) → K (.tup []) [(1000000, .arr false TInt r)]))) args []) hp, .io⟩
@[reducible] def C61 : Ctx := cx [(101, c101), (102, c102)] 11 [] 0 false
def ann61 := an [[kp 5], [kp 0]] []
theorem vc61 (xs : (List Int)) (K : KA) : vcT C61 noLoops ann61 f61 [.clp 1000000 (xs.length : Int)] [(1000000, .arr false TInt xs)] .raw K =
 ((0 ≤ (wrapK .u64 (xs.length : Int))) ∧ ((wrapK .u64 (xs.length : Int)) ≤ 12) ∧ ((xs.length : Int) = (xs.length : Int)) ∧ ((xs.length : Int) = (xs.length : Int)) ∧ (Sm (Ty.sl TInt) xs) ∧ (Z0 = 0) ∧ ((xs.length : Int) = (xs.length : Int)) ∧ (xs.length ≤ 12) ∧ (∀ r1 : (List Int), r1 = (M.isort xs) → (r1.length = xs.length) ∧ K (.tup []) [(1000000, .arr false TInt r1)])) := by kernel_rfl
theorem con61_ok : Con1 P 61 c61 := conR C61 func61 (kC con101_ok (kC con102_ok kN)) fun args hp K h0 => by
 unfold c61 at h0
 dsimp only at h0
 obtain ⟨xs, rfl, h00⟩ := hpN_elim (n := 1000000) (d := false) (t := TInt) h0
 obtain ⟨a0, rfl, _, h1⟩ := args1_elim h00
 obtain ⟨rfl, h2⟩ := withC_elim h1
 obtain ⟨h_xs, p0, hK⟩ := h2
 have h : ok (F.slices_Sort xs) (fun r => K (.tup []) [(1000000, .arr false TInt r)]) := ok_of_eq (F.slices_Sort_eq xs h_xs p0) (hK _ rfl)
 refine ⟨rfl, ann61, noLoops, .raw, (no_loops (by kernel_rfl)), ?_⟩
 ·rw [vc61]
  exact (oG h fun _ h => (oG h fun _ h => ⟨rfl, ⟨rfl, ⟨h_xs, (oG h fun _ h => (oG h fun _ h => ⟨p0, (oL h fun _ er1 h => ⟨(by rw [er1]; exact (M.isort_length _)), h⟩)⟩))⟩⟩⟩))
@[reducible] def C103 : Ctx := cx [] 9 [] 400000 true
def T103 : Inl := inlT C103 (fun _ => []) (bodyOf f103) f103.results.toList
theorem inlOk103 : Inl1 P 103 T103 := inlR C103 func103 kN
def c62 : Con := ⟨[.dat (Ty.sl TInt)], fun args hp K => g1 (pD (Ty.sl TInt)) (fun xs => (Sm (Ty.sl TInt) xs) ∧ (∀ r : (List Int), r = xs → K (.clp 0 (r.length : Int)) [(0, .arr false TInt r)])) args hp, .bor⟩
@[reducible] def C62 : Ctx := cx [] 9 [(103, T103)] 0 true
def ann62 := an [[kp 1], [kp 33], [.clip 2, kp 4], [kp 4]] []
theorem vc62 (xs : (List Int)) (K : KA) : vcT C62 noLoops ann62 f62 [.data (Ty.sl TInt) xs] [] .raw K =
 (cond (decide ((xs.length : Int) = Z0)) (K (.clp 0 (([] : List TInt.D).length : Int)) [(0, .arr false TInt ([] : List TInt.D))]) ((xs.length * 8 ≤ lim) ∧ (0 ≤ Z0) ∧ (Z0 ≤ (xs.length : Int)) ∧ ((xs.length : Int) ≤ (xs.length : Int)) ∧ ((xs.length : Int) = (xs.length : Int)) ∧ (Z0 = 0) ∧ K (.clp 0 ((xs.take (xs.length : Int).toNat).length : Int)) [(0, .arr false TInt (xs.take (xs.length : Int).toNat))])) := by kernel_rfl
theorem con62_ok : Con1 P 62 c62 := conR C62 func62 (kI inlOk103 kN) fun args hp K h0 => by
 obtain ⟨xs, rfl, rfl, h_xs, hK⟩ := g1e h0
 have h : ok (F.clone_Inti64 xs) (fun r => K (.clp 0 (r.length : Int)) [(0, .arr false TInt r)]) := ok_of_eq (F.clone_Inti64_eq xs h_xs) (hK _ rfl)
 refine ⟨rfl, ann62, noLoops, .raw, (no_loops (by kernel_rfl)), ?_⟩
 ·rw [vc62]
  exact (oC h (fun _ h => h) fun _ h => ⟨(sm_lim h_xs rfl), ⟨(Int.natCast_nonneg 0), ⟨(Int.natCast_nonneg _), ⟨(Int.le_refl _), ⟨rfl, ⟨rfl, h⟩⟩⟩⟩⟩⟩)
def c63 : Con := ⟨[.mv], fun args hp K => hpN 0 false TInt (fun xs => args1 (fun a0 => withO 0 a0 ((Sm (Ty.sl TInt) xs) ∧ (∀ r : (List Int), r = (M.compact xs) → K (.own 0 none) [(0, .arr false TInt r)]))) args []) hp, .mv⟩
@[reducible] def C63 : Ctx := cx [] 61 [] 0 false
def ann63 := an [[kp 1], [kp 257], [kp 4], [kp 9], [kp 8201], [kp 9], [kp 33554441], [kp 25], [kp 57], [kp 4294967353], [kp 57], [kp 17592186044473], [kp 57], [kp 57], [kp 9], [kp 4], [kp 4]] [[kp 1], [], [kp 9]]
@[reducible] def s63_0 (xs : (List Int)) (i0 : Int) (v0 : Unit) : St := ⟨[(0, .own 0 none), (3, dI i0)], [(0, .arr false TInt xs)]⟩
@[reducible] def LP63_0 (xs : (List Int)) (m : Nat) (st_ : St) (K : KX) : Prop := True ∧ LoopI (s63_0 xs) Z0 (xs.length : Int) (F.slices_Compact_l0 xs) (fun v0 : Unit => True) (outD (fun v0 : Unit => True → K (.exit 0) (⟨[(0, .own 0 none)], [(0, .arr false TInt xs)]⟩ : St)) (fun q0 : Int × (List Int) => K .ret (⟨[(2, .own 0 (some (Z0, q0.1)))], [(0, .arr false TInt q0.2)]⟩ : St))) m st_
@[reducible] def s63_2 (xs : (List Int)) (c2_0 : Int) (i2 : Int) (v2 : Int × (List Int)) : St := ⟨[(0, .own 0 none), (3, dI v2.1), (4, .own 0 (some (c2_0, (xs.length : Int)))), (5, dI i2)], [(0, .arr false TInt v2.2)]⟩
@[reducible] def LP63_2 (xs : (List Int)) (m : Nat) (st_ : St) (K : KX) : Prop := ∃ c2_0 : Int, (((xs.length : Int) - Z1) ≤ top63 ∧ ((xs.length : Int) - c2_0) ≤ top63 ∧ True) ∧ LoopI (s63_2 xs c2_0) Z0 ((xs.length : Int) - c2_0) (F.slices_Compact_l2 xs c2_0) (fun v2 : Int × (List Int) => True) (outD (fun v2 : Int × (List Int) => True → K (.exit 2) (⟨[(0, .own 0 none), (3, dI v2.1)], [(0, .arr false TInt v2.2)]⟩ : St)) (fun _ => False)) m st_
def L63 (xs : (List Int)) : Loops := lp2 0 (LP63_0 xs) 2 (LP63_2 xs)
theorem vc63 (xs : (List Int)) (K : KA) : vcT C63 (L63 xs) ann63 f63 [.own 0 none] [(0, .arr false TInt xs)] .raw K =
 (cond (decide ((xs.length : Int) < Z2)) (K (.own 0 none) [(0, .arr false TInt xs)]) (∃ m_, True ∧ LoopI (s63_0 xs) Z0 (xs.length : Int) (F.slices_Compact_l0 xs) (fun v0 : Unit => True) (outD (fun v0 : Unit => True → K (.own 0 none) [(0, .arr false TInt xs)]) (fun q0 : Int × (List Int) => (Z0 = 0) ∧ K (.own 0 none) [(0, .arr false TInt (q0.2.take q0.1.toNat))])) m_ (s63_0 xs Z1 ()))) := by kernel_rfl
theorem lvc63_0 (xs : (List Int))  (i0 : Int) (v0 : Unit) (m : Nat) (K : KX) : lvT C63 (L63 xs) ann63 f63 0 0 (s63_0 xs i0 v0) m K =
 (cond (decide (i0 < (xs.length : Int))) ((0 ≤ i0) ∧ (i0 < (xs.length : Int)) ∧ (0 ≤ wrap64 (i0 - Z1)) ∧ (wrap64 (i0 - Z1) < (xs.length : Int)) ∧ cond (decide ((nI xs i0) = (nI xs (wrap64 (i0 - Z1))))) ((0 ≤ i0) ∧ (i0 ≤ (xs.length : Int)) ∧ ((xs.length : Int) ≤ (xs.length : Int)) ∧ ((xs.length : Int) = (xs.length : Int)) ∧ (∃ m_, ∃ c2_0 : Int, (((xs.length : Int) - Z1) ≤ top63 ∧ ((xs.length : Int) - c2_0) ≤ top63 ∧ True) ∧ LoopI (s63_2 xs c2_0) Z0 ((xs.length : Int) - c2_0) (F.slices_Compact_l2 xs c2_0) (fun v2 : Int × (List Int) => True) (outD (fun v2 : Int × (List Int) => True → (0 ≤ v2.1) ∧ (v2.1 ≤ (v2.2.length : Int)) ∧ ((v2.2.length : Int) ≤ (v2.2.length : Int)) ∧ ((v2.2.length : Int) = (v2.2.length : Int)) ∧ (0 ≤ Z0) ∧ (Z0 ≤ v2.1) ∧ (v2.1 ≤ ((v2.2.take v2.1.toNat ++ (List.replicate ((v2.2.length : Int) - v2.1).toNat Z0 ++ v2.2.drop (v2.2.length : Int).toNat)).length : Int)) ∧ (v2.1 = v2.1) ∧ K .ret (⟨[(2, .own 0 (some (Z0, v2.1)))], [(0, .arr false TInt (v2.2.take v2.1.toNat ++ (List.replicate ((v2.2.length : Int) - v2.1).toNat Z0 ++ v2.2.drop (v2.2.length : Int).toNat)))]⟩ : St)) (fun _ => False)) m_ (s63_2 xs i0 Z1 (i0, xs)))) (nxT (LP63_0 xs) m K (s63_0 xs (wrap64 (i0 + Z1)) ()))) (K (.exit 0) (⟨[(0, .own 0 none)], [(0, .arr false TInt xs)]⟩ : St))) := by kernel_rfl
theorem lvc63_1 (xs : (List Int)) (c2_0 : Int) (i2 : Int) (v2 : Int × (List Int)) (m : Nat) (K : KX) : lvT C63 (L63 xs) ann63 f63 1 2 (s63_2 xs c2_0 i2 v2) m K =
 (cond (decide (i2 < ((xs.length : Int) - c2_0))) ((0 ≤ i2) ∧ (i2 < (xs.length : Int) - c2_0) ∧ (0 ≤ wrap64 (i2 - Z1)) ∧ (wrap64 (i2 - Z1) < (xs.length : Int) - c2_0) ∧ cond (!decide ((nI v2.2 (c2_0 + i2)) = (nI v2.2 (c2_0 + wrap64 (i2 - Z1))))) ((0 ≤ i2) ∧ (i2 < (xs.length : Int) - c2_0) ∧ (0 ≤ v2.1) ∧ (v2.1 < (v2.2.length : Int)) ∧ (nxT (LP63_2 xs) m K (s63_2 xs c2_0 (wrap64 (i2 + Z1)) (wrap64 (v2.1 + Z1), (v2.2.set v2.1.toNat (nI v2.2 (c2_0 + i2))))))) (nxT (LP63_2 xs) m K (s63_2 xs c2_0 (wrap64 (i2 + Z1)) (v2.1, v2.2)))) (K (.exit 2) (⟨[(0, .own 0 none), (3, dI v2.1)], [(0, .arr false TInt v2.2)]⟩ : St))) := by kernel_rfl
theorem con63_ok : Con1 P 63 c63 := conR C63 func63 kN fun args hp K h0 => by
 unfold c63 at h0
 dsimp only at h0
 obtain ⟨xs, rfl, h00⟩ := hpN_elim (n := 0) (d := false) (t := TInt) h0
 obtain ⟨a0, rfl, _, h1⟩ := args1_elim h00
 obtain ⟨rfl, h2⟩ := withO_elim h1
 obtain ⟨h_xs, hK⟩ := h2
 have h : ok (F.slices_Compact xs) (fun r => K (.own 0 none) [(0, .arr false TInt r)]) := ok_of_eq (F.slices_Compact_eq xs h_xs) (hK _ rfl)
 refine ⟨rfl, ann63, (L63 xs), .raw, (loopsN2 (i0 := 0) (i1 := 2) (by kernel_rfl) ?_ ?_), ?_⟩
 ·rintro _ _ K ⟨hc0, i0, v0, rfl, hl0, rfl, hv0, h⟩
  exact cast (lvc63_0 _ _ _ _ _).symm (loopI_step h (fun ht0 h => ⟨hl0, ⟨ht0, (oG h fun _ h => (oG h fun _ h => (oC h (fun _ h => ⟨hl0, (oG h fun _ h => ⟨(Int.le_refl _), ⟨rfl, (have hi_0 := (ok_guard h).1; have hi_1 := (ok_guard (ok_guard h).2).1; have h := (ok_guard (ok_guard h).2).2; (loopI_start (fun m hm => ⟨i0, ⟨hi_0, hi_1, trivial⟩, hm⟩) Z1 _ rfl (Int.natCast_nonneg 1) trivial (ok_then h (fun v2 h hv2 => (oG h fun _ h => (oG h fun _ h => ⟨(Int.le_refl _), ⟨rfl, ⟨(Int.natCast_nonneg 0), (oG h fun _ h => (oG h fun _ h => ⟨rfl, h⟩))⟩⟩⟩))) (fun _ h => h.elim))))⟩⟩)⟩) fun _ h => (loopI_next (fun _ hm => ⟨hc0, hm⟩) _ rfl hl0 low0 ht0 (sm_len h_xs) trivial h))))⟩⟩) fun h => (h trivial))
 ·rintro _ _ K ⟨c2_0, hc2, i2, v2, rfl, hl2, rfl, hv2, h⟩
  exact cast (lvc63_1 _ _ _ _ _ _).symm (loopI_step h (fun ht2 h => ⟨hl2, (oG h fun g1 h => (oG h fun _ h => (oG h fun _ h => (oC h (fun _ h => ⟨hl2, ⟨g1, (oG h fun _ h => (oG h fun _ h => (loopI_next (fun _ hm => ⟨c2_0, hc2, hm⟩) _ rfl hl2 low0 ht2 hc2.2.1 trivial h)))⟩⟩) fun _ h => (loopI_next (fun _ hm => ⟨c2_0, hc2, hm⟩) _ rfl hl2 low0 ht2 hc2.2.1 trivial h)))))⟩) fun h => (h trivial))
 ·rw [vc63]
  exact (oC h (fun _ h => h) fun _ h => (loopI_start (fun m hm => ⟨trivial, hm⟩) Z1 _ rfl (Int.natCast_nonneg 1) trivial (ok_then h (fun v0 h hv0 => h) (fun q0 h => ⟨rfl, h⟩))))
def c30 : Con := ⟨[.dat TPS], fun args hp K => g1 (pD TPS) (fun e => (Sm TPS e) ∧ (e.length ≤ 12) ∧ (∀ r : (List Int), r = (M.exprCols e) → K (.clp 0 (r.length : Int)) [(0, .arr false TInt r)])) args hp, .bor⟩
@[reducible] def C30 : Ctx := cx [(61, c61), (62, c62), (63, c63)] 26 [] 0 false
def ann30 := an [[kp 1], [kp 9], [kp 456], [kp 968], [.fixRow 5 TPart, kp 488], [kp 16872], [kp 456], [kp 456], [kp 8], [kp 4]] [[kp 8]]
@[reducible] def s30_0 (e : LPt) (i0 : Int) (v0 : (List Int)) : St := ⟨[(3, .own 3 none), (6, .data TPS e), (7, dI (e.length : Int)), (8, dI i0)], [(3, .arr false TInt v0)]⟩
@[reducible] def LP30_0 (e : LPt) (m : Nat) (st_ : St) (K : KX) : Prop := True ∧ LoopE (t := TPart) (s30_0 e) e (F.impl_exprColumns_l0 e) (fun v0 : (List Int) => True) (outD (fun v0 : (List Int) => True → K (.exit 0) (⟨[(3, .own 3 none)], [(3, .arr false TInt v0)]⟩ : St)) (fun _ => False)) m st_
def L30 (e : LPt) : Loops := lp1 0 (LP30_0 e)
theorem vc30 (e : LPt) (K : KA) : vcT C30 (L30 e) ann30 f30 [.data TPS e] [] .raw K =
 (∃ m_, True ∧ LoopE (t := TPart) (s30_0 e) e (F.impl_exprColumns_l0 e) (fun v0 : (List Int) => True) (outD (fun v0 : (List Int) => True → ((v0.length : Int) = (v0.length : Int)) ∧ (Sm (Ty.sl TInt) v0) ∧ (v0.length ≤ 12) ∧ (∀ r1 : (List Int), r1 = (M.isort v0) → (r1.length = v0.length) ∧ (Sm (Ty.sl TInt) r1) ∧ (∀ r2 : (List Int), r2 = (M.compact r1) → (Sm (Ty.sl TInt) r2) ∧ (∀ r3 : (List Int), r3 = r2 → K (.clp 0 ((r3.take (r3.length : Int).toNat).length : Int)) [(0, .arr false TInt (r3.take (r3.length : Int).toNat))])))) (fun _ => False)) m_ (s30_0 e Z0 [])) := by kernel_rfl
theorem lvc30_0 (e : LPt)  (i0 : Int) (v0 : (List Int)) (m : Nat) (K : KX) : lvT C30 (L30 e) ann30 f30 0 0 (s30_0 e i0 v0) m K =
 (cond (decide (i0 < (e.length : Int))) ((0 ≤ i0) ∧ (i0 < (e.length : Int)) ∧ cond (decide ((nP e i0).1 = Z2)) (((v0.length + [(nP e i0).2.1].length) * 8 ≤ lim) ∧ (nxT (LP30_0 e) m K (s30_0 e (wrap64 (i0 + Z1)) (v0 ++ [(nP e i0).2.1])))) (nxT (LP30_0 e) m K (s30_0 e (wrap64 (i0 + Z1)) v0))) (K (.exit 0) (⟨[(3, .own 3 none)], [(3, .arr false TInt v0)]⟩ : St))) := by kernel_rfl
theorem con30_ok : Con1 P 30 c30 := conR C30 func30 (kC con61_ok (kC con62_ok (kC con63_ok kN))) fun args hp K h0 => by
 obtain ⟨e, rfl, rfl, h_e, p0, hK⟩ := g1e h0
 have h : ok (F.impl_exprColumns e) (fun r => K (.clp 0 (r.length : Int)) [(0, .arr false TInt r)]) := ok_of_eq (F.impl_exprColumns_eq e h_e p0) (hK _ rfl)
 refine ⟨rfl, ann30, (L30 e), .raw, (loopsN1 (i0 := 0) (by kernel_rfl) ?_), ?_⟩
 ·rintro _ _ K ⟨hc0, i0, v0, rfl, hl0, rfl, hv0, h⟩
  exact cast (lvc30_0 _ _ _ _ _).symm (loopE_step (t := TPart) hl0 h (fun ht0 h => ⟨hl0, ⟨ht0, (oC h (fun _ h => (oG h fun _ h => (loopE_next (t := TPart) (fun _ hm => ⟨hc0, hm⟩) _ rfl hl0 ht0 (sm_len h_e) trivial h))) fun _ h => (loopE_next (t := TPart) (fun _ hm => ⟨hc0, hm⟩) _ rfl hl0 ht0 (sm_len h_e) trivial h))⟩⟩) fun h => (h trivial))
 ·rw [vc30]
  exact (loopE_start (t := TPart) (fun m hm => ⟨trivial, hm⟩) _ rfl trivial (ok_then h (fun v0 h hv0 => ⟨rfl, (oG h fun _ h => (oG h fun _ h => (oL h fun _ er1 h => ⟨(by rw [er1]; exact (M.isort_length _)), (oG h fun _ h => (oL h fun _ _ h => (oG h fun _ h => (oL h fun _ _ h => h))))⟩)))⟩) (fun _ h => h.elim)))
def c104 : Con := ⟨[.dat TInt], fun args hp K => g1 (pD TInt) (fun truth => (∀ r : TValue.D, r = (M.valueOf truth) → K (.data TValue r) [])) args hp, .plain⟩
@[reducible] def C104 : Ctx := cx [(77, c77)] 9 [] 0 false
def ann104 := an [[kp 5], [kp 37], [kp 4], [kp 4]] []
theorem vc104 (truth : Int) (K : KA) : vcT C104 noLoops ann104 f104 [dI truth] [] (.dat TValue) K =
 (cond (!(M.inR truth Z0 Z1)) (K (.data TValue (Z0, (Z0, ((⟨#[]⟩ : ByteArray), ())))) []) (K (.data TValue (Z3, (truth, ((⟨#[]⟩ : ByteArray), ())))) [])) := by kernel_rfl
theorem con104_ok : Con1 P 104 c104 := conR C104 func104 (kC con77_ok kN) fun args hp K h0 => by
 obtain ⟨truth, rfl, rfl, hK⟩ := g1e h0
 have h : ok (F.impl_ValueOf truth) (fun r => K (.data TValue r) []) := ok_of_eq (F.impl_ValueOf_eq truth) (hK _ rfl)
 refine ⟨rfl, ann104, noLoops, (.dat TValue), (no_loops (by kernel_rfl)), ?_⟩
 ·rw [vc104]
  exact (oC h (fun _ h => h) fun _ h => h)
def c110 : Con := ⟨[.dat Ty.bool], fun args hp K => g1 (pD Ty.bool) (fun b => K (dI (M.bool b)) []) args hp, .plain⟩
@[reducible] def C110 : Ctx := cx [] 4 [] 0 false
def ann110 := an [[kp 1], [kp 8], [kp 4], [kp 4]] []
theorem vc110 (b : Bool) (K : KA) : vcT C110 noLoops ann110 f110 [dB b] [] (.dat TInt) K =
 (cond b (K (dI Z1) []) (K (dI Z0) [])) := by kernel_rfl
theorem con110_ok : Con1 P 110 c110 := conR C110 func110 kN fun args hp K h0 => by
 obtain ⟨b, rfl, rfl, hK⟩ := g1e h0
 have h : ok (F.impl_truthIf b) (fun r => K (dI r) []) := ok_of_eq (F.impl_truthIf_eq b) hK
 refine ⟨rfl, ann110, noLoops, (.dat TInt), (no_loops (by kernel_rfl)), ?_⟩
 ·rw [vc110]
  exact (oC h (fun _ h => h) fun _ h => h)
def c161 : Con := ⟨[.dat (Ty.sl TInt)], fun args hp K => g1 (pD (Ty.sl TInt)) (fun vals => (Sm (Ty.sl TInt) vals) ∧ K (dI (M.orI vals)) []) args hp, .plain⟩
@[reducible] def C161 : Ctx := cx [] 18 [] 0 false
def ann161 := an [[kp 1], [kp 9], [kp 456], [kp 968], [kp 488], [kp 16872], [kp 4], [kp 456], [kp 4]] [[kp 8]]
@[reducible] def s161_0 (vals : (List Int)) (i0 : Int) (v0 : Unit) : St := ⟨[(3, dI Z0), (6, .data (Ty.sl TInt) vals), (7, dI (vals.length : Int)), (8, dI i0)], []⟩
@[reducible] def LP161_0 (vals : (List Int)) (m : Nat) (st_ : St) (K : KX) : Prop := True ∧ LoopE (t := TInt) (s161_0 vals) vals (F.cmp_Or_int_l0 vals) (fun v0 : Unit => True) (outD (fun v0 : Unit => True → K (.exit 0) (⟨[(3, dI Z0)], []⟩ : St)) (fun q0 : Int => K .ret (⟨[(2, dI q0)], []⟩ : St))) m st_
def L161 (vals : (List Int)) : Loops := lp1 0 (LP161_0 vals)
theorem vc161 (vals : (List Int)) (K : KA) : vcT C161 (L161 vals) ann161 f161 [.data (Ty.sl TInt) vals] [] (.dat TInt) K =
 (∃ m_, True ∧ LoopE (t := TInt) (s161_0 vals) vals (F.cmp_Or_int_l0 vals) (fun v0 : Unit => True) (outD (fun v0 : Unit => True → K (dI Z0) []) (fun q0 : Int => K (dI q0) [])) m_ (s161_0 vals Z0 ())) := by kernel_rfl
theorem lvc161_0 (vals : (List Int))  (i0 : Int) (v0 : Unit) (m : Nat) (K : KX) : lvT C161 (L161 vals) ann161 f161 0 0 (s161_0 vals i0 v0) m K =
 (cond (decide (i0 < (vals.length : Int))) ((0 ≤ i0) ∧ (i0 < (vals.length : Int)) ∧ cond (!decide ((nI vals i0) = Z0)) (K .ret (⟨[(2, dI (nI vals i0))], []⟩ : St)) (nxT (LP161_0 vals) m K (s161_0 vals (wrap64 (i0 + Z1)) ()))) (K (.exit 0) (⟨[(3, dI Z0)], []⟩ : St))) := by kernel_rfl
theorem con161_ok : Con1 P 161 c161 := conR C161 func161 kN fun args hp K h0 => by
 obtain ⟨vals, rfl, rfl, h_vals, hK⟩ := g1e h0
 have h : ok (F.cmp_Or_int vals) (fun r => K (dI r) []) := ok_of_eq (F.cmp_Or_int_eq vals h_vals) hK
 refine ⟨rfl, ann161, (L161 vals), (.dat TInt), (loopsN1 (i0 := 0) (by kernel_rfl) ?_), ?_⟩
 ·rintro _ _ K ⟨hc0, i0, v0, rfl, hl0, rfl, hv0, h⟩
  exact cast (lvc161_0 _ _ _ _ _).symm (loopE_step (t := TInt) hl0 h (fun ht0 h => ⟨hl0, ⟨ht0, (oC h (fun _ h => h) fun _ h => (loopE_next (t := TInt) (fun _ hm => ⟨hc0, hm⟩) _ rfl hl0 ht0 (sm_len h_vals) trivial h))⟩⟩) fun h => (h trivial))
 ·rw [vc161]
  exact (loopE_start (t := TInt) (fun m hm => ⟨trivial, hm⟩) _ rfl trivial (ok_then h (fun v0 h hv0 => h) (fun q0 h => h)))
def c162 : Con := ⟨[.dat TInt, .dat TInt], fun args hp K => g2 (pD TInt) (pD TInt) (fun x y => K (dI (M.cmpI x y)) []) args hp, .plain⟩
@[reducible] def C162 : Ctx := cx [(160, c160)] 20 [] 0 false
def ann162 := an [[kp 3], [kp 35], [kp 99], [kp 2115], [kp 4096], [kp 16], [kp 16], [kp 8195], [kp 16], [kp 65539], [kp 16], [kp 524288], [kp 16], [kp 16]] []
theorem vc162 (x : Int) (y : Int) (K : KA) : vcT C162 noLoops ann162 f162 [dI x, dI y] [] (.dat TInt) K =
 (cond false (cond false (K (dI Z0) []) (K (dI (-1 : Int)) [])) (cond false (K (dI Z1) []) (cond (decide (x < y)) (K (dI (-1 : Int)) []) (cond (decide (y < x)) (K (dI Z1) []) (K (dI Z0) []))))) := by kernel_rfl
theorem con162_ok : Con1 P 162 c162 := conR C162 func162 (kC con160_ok kN) fun args hp K h0 => by
 obtain ⟨x, y, rfl, rfl, hK⟩ := g2e h0
 have h : ok (F.cmp_Compare_int x y) (fun r => K (dI r) []) := ok_of_eq (F.cmp_Compare_int_eq x y) hK
 refine ⟨rfl, ann162, noLoops, (.dat TInt), (no_loops (by kernel_rfl)), ?_⟩
 ·rw [vc162]
  exact (oC h (fun b_1 h => (cond_t b_1 h)) fun b_1 h => (cond_f b_1 (oC h (fun _ h => h) fun _ h => (oC h (fun _ h => h) fun _ h => h))))
def c167 : Con := ⟨[.dat Ty.str], fun args hp K => g1 (pD Ty.str) (fun x => (Sm Ty.str x) ∧ K (dB false) []) args hp, .plain⟩
@[reducible] def C167 : Ctx := cx [] 6 [] 0 false
def ann167 := an [[kp 1], [kp 4]] []
theorem vc167 (x : ByteArray) (K : KA) : vcT C167 noLoops ann167 f167 [.data Ty.str x] [] (.dat Ty.bool) K =
 (K (dB (!decide (x = x))) []) := by kernel_rfl
theorem con167_ok : Con1 P 167 c167 := conR C167 func167 kN fun args hp K h0 => by
 obtain ⟨x, rfl, rfl, h_x, hK⟩ := g1e h0
 have h : ok (F.cmp_isNaN_string x) (fun r => K (dB r) []) := ok_of_eq (F.cmp_isNaN_string_eq x h_x) hK
 refine ⟨rfl, ann167, noLoops, (.dat Ty.bool), (no_loops (by kernel_rfl)), ?_⟩
 ·rw [vc167]
  exact h
def c163 : Con := ⟨[.dat Ty.str, .dat Ty.str], fun args hp K => g2 (pD Ty.str) (pD Ty.str) (fun x y => (Sm Ty.str x) ∧ (Sm Ty.str y) ∧ K (dI (M.cmpS x y)) []) args hp, .plain⟩
@[reducible] def C163 : Ctx := cx [(167, c167)] 20 [] 0 false
def ann163 := an [[kp 3], [kp 35], [kp 99], [kp 2115], [kp 4096], [kp 16], [kp 16], [kp 8195], [kp 16], [kp 65539], [kp 16], [kp 524288], [kp 16], [kp 16]] []
theorem vc163 (x : ByteArray) (y : ByteArray) (K : KA) : vcT C163 noLoops ann163 f163 [.data Ty.str x, .data Ty.str y] [] (.dat TInt) K =
 ((Sm Ty.str x) ∧ (Sm Ty.str y) ∧ cond false (cond false (K (dI Z0) []) (K (dI (-1 : Int)) [])) (cond false (K (dI Z1) []) (cond (Op.bytesLess x.toList y.toList) (K (dI (-1 : Int)) []) (cond (!(Op.bytesLess x.toList y.toList || decide (x = y))) (K (dI Z1) []) (K (dI Z0) []))))) := by kernel_rfl
theorem con163_ok : Con1 P 163 c163 := conR C163 func163 (kC con167_ok kN) fun args hp K h0 => by
 obtain ⟨x, y, rfl, rfl, h_x, h_y, hK⟩ := g2e h0
 have h : ok (F.cmp_Compare_string x y) (fun r => K (dI r) []) := ok_of_eq (F.cmp_Compare_string_eq x y h_x h_y) hK
 refine ⟨rfl, ann163, noLoops, (.dat TInt), (no_loops (by kernel_rfl)), ?_⟩
 ·rw [vc163]
  exact ⟨h_x, ⟨h_y, (oC h (fun b_1 h => (cond_t b_1 h)) fun b_1 h => (cond_f b_1 (oC h (fun _ h => h) fun _ h => (oC h (fun _ h => h) fun _ h => h))))⟩⟩
def c145 : Con := ⟨[.dat TValue, .dat TValue], fun args hp K => g2 (pD TValue) (pD TValue) (fun v w => (Sm TValue v) ∧ (Sm TValue w) ∧ K (dI (M.order v w)) []) args hp, .plain⟩
@[reducible] def C145 : Ctx := cx [(161, c161), (162, c162), (163, c163)] 22 [] 0 false
def ann145 := an [[.fixRow 2 TValue, .fixRow 3 TValue, kp 12], [kp 16]] []
theorem vc145 (v : TValue.D) (w : TValue.D) (K : KA) : vcT C145 noLoops ann145 f145 [.data TValue v, .data TValue w] [] (.dat TInt) K =
 ((Sm Ty.str v.2.2.1) ∧ (Sm Ty.str w.2.2.1) ∧ (Sm (Ty.sl TInt) [(M.cmpI v.1 w.1), (M.cmpI v.2.1 w.2.1), (M.cmpS v.2.2.1 w.2.2.1)]) ∧ K (dI (M.orI [(M.cmpI v.1 w.1), (M.cmpI v.2.1 w.2.1), (M.cmpS v.2.2.1 w.2.2.1)])) []) := by kernel_rfl
theorem con145_ok : Con1 P 145 c145 := conR C145 func145 (kC con161_ok (kC con162_ok (kC con163_ok kN))) fun args hp K h0 => by
 obtain ⟨v, w, rfl, rfl, h_v, h_w, hK⟩ := g2e h0
 have h : ok (F.impl_Value_order v w) (fun r => K (dI r) []) := ok_of_eq (F.impl_Value_order_eq v w h_v h_w) hK
 refine ⟨rfl, ann145, noLoops, (.dat TInt), (no_loops (by kernel_rfl)), ?_⟩
 ·rw [vc145]
  exact ⟨h_v.2.2.1, ⟨h_w.2.2.1, (oG h fun _ h => h)⟩⟩
def c105 : Con := ⟨[.dat TInt, .dat TValue, .dat TValue], fun args hp K => g3 (pD TInt) (pD TValue) (pD TValue) (fun kind a b => (Sm TValue a) ∧ (Sm TValue b) ∧ K (dI (M.compare kind a b)) []) args hp, .plain⟩
@[reducible] def C105 : Ctx := cx [(77, c77), (97, c97), (110, c110), (145, c145)] 71 [] 0 false
def ann105 := an [[.fixRow 4 TValue, .fixRow 5 TValue, kp 49], [kp 305], [kp 64], [kp 4194353], [kp 64], [kp 2147483697], [kp 64], [kp 129], [kp 64]] []
@[reducible] def S105_0 (kind : Int) (a : TValue.D) (b : TValue.D) (K : KA) : Prop := cond ((decide (kind = Z4)) == true) (K (dI (M.bool (decide ((M.order a b) ≤ Z0)))) []) (K (dI (M.bool false)) [])
@[reducible] def S105_1 (kind : Int) (a : TValue.D) (b : TValue.D) (K : KA) : Prop := cond ((decide (kind = Z3)) == true) (cond ((decide ((M.order a b) < Z0)) == false) (S105_0 kind a b K) (K (dI (M.bool true)) [])) (S105_0 kind a b K)
@[reducible] def S105_2 (kind : Int) (a : TValue.D) (b : TValue.D) (K : KA) : Prop := cond ((decide (kind = Z2)) == true) (cond ((!decide ((M.order a b) = Z0)) == false) (S105_1 kind a b K) (K (dI (M.bool true)) [])) (S105_1 kind a b K)
theorem vc105 (kind : Int) (a : TValue.D) (b : TValue.D) (K : KA) : vcT C105 noLoops ann105 f105 [dI kind, .data TValue a, .data TValue b] [] (.dat TInt) K =
 (cond ((!(M.inR kind Z1 Z4)) == false) ((Sm TValue a) ∧ cond ((!(M.valueOk a)) == false) ((Sm TValue b) ∧ cond (!(M.valueOk b)) (K (dI (-1 : Int)) []) (cond ((decide (a.1 = Z0)) == false) (cond (decide (b.1 = Z0)) (K (dI Z2) []) (cond (!decide (a.1 = b.1)) (K (dI (-1 : Int)) []) ((Sm TValue a) ∧ (Sm TValue b) ∧ cond ((decide (kind = Z1)) == true) (cond ((decide ((M.order a b) = Z0)) == false) (S105_2 kind a b K) (K (dI (M.bool true)) [])) (S105_2 kind a b K)))) (K (dI Z2) []))) (K (dI (-1 : Int)) [])) (K (dI (-1 : Int)) [])) := by kernel_rfl
theorem con105_ok : Con1 P 105 c105 := conR C105 func105 (kC con77_ok (kC con97_ok (kC con110_ok (kC con145_ok kN)))) fun args hp K h0 => by
 obtain ⟨kind, a, b, rfl, rfl, h_a, h_b, hK⟩ := g3e h0
 have h : ok (F.impl_Compare kind a b) (fun r => K (dI r) []) := ok_of_eq (F.impl_Compare_eq kind a b h_a h_b) hK
 refine ⟨rfl, ann105, noLoops, (.dat TInt), (no_loops (by kernel_rfl)), ?_⟩
 ·rw [vc105]
  exact (oC h (fun _ h => ⟨h_a, (oC h (fun _ h => ⟨h_b, (oC h (fun _ h => h) fun _ h => (oC h (fun _ h => (oC h (fun _ h => h) fun _ h => (oC h (fun _ h => h) fun _ h => ⟨h_a, ⟨h_b, (oC h (fun b_7 h => (oC h (fun _ h => (cond_f (uef (dec_ne (bet b_7) (by decide))) (cond_f (uef (dec_ne (bet b_7) (by decide))) (cond_f (uef (dec_ne (bet b_7) (by decide))) h)))) fun _ h => h)) fun _ h => (oC h (fun b_19 h => (oC h (fun _ h => (cond_f (uef (dec_ne (bet b_19) (by decide))) (cond_f (uef (dec_ne (bet b_19) (by decide))) h))) fun _ h => h)) fun _ h => (oC h (fun b_25 h => (oC h (fun _ h => (cond_f (uef (dec_ne (bet b_25) (by decide))) h)) fun _ h => h)) fun _ h => (oC h (fun _ h => h) fun _ h => h))))⟩⟩))) fun _ h => h))⟩) fun _ h => h)⟩) fun _ h => h)
def c164 : Con := ⟨[.dat TInt], fun args hp K => g1 (pD TInt) (fun n => K (dB (M.inR n 0 2)) []) args hp, .plain⟩
@[reducible] def C164 : Ctx := cx [(77, c77)] 5 [] 0 false
def ann164 := an [[kp 1], [kp 4]] []
theorem vc164 (n : Int) (K : KA) : vcT C164 noLoops ann164 f164 [dI n] [] (.dat Ty.bool) K =
 (K (dB (M.inR n Z0 Z2)) []) := by kernel_rfl
theorem con164_ok : Con1 P 164 c164 := conR C164 func164 (kC con77_ok kN) fun args hp K h0 => by
 obtain ⟨n, rfl, rfl, hK⟩ := g1e h0
 have h : ok (F.impl_TruthOk n) (fun r => K (dB r) []) := ok_of_eq (F.impl_TruthOk_eq n) hK
 refine ⟨rfl, ann164, noLoops, (.dat Ty.bool), (no_loops (by kernel_rfl)), ?_⟩
 ·rw [vc164]
  exact h
def c146 : Con := ⟨[.dat TInt, .dat TInt, .dat TInt], fun args hp K => g3 (pD TInt) (pD TInt) (pD TInt) (fun a b alone => (0 ≤ alone ∧ alone ≤ 1) ∧ K (dI (M.fold a b alone)) []) args hp, .plain⟩
@[reducible] def C146 : Ctx := cx [(164, c164)] 35 [] 0 false
def ann146 := an [[kp 7], [kp 135], [kp 64], [kp 65543], [kp 64], [kp 67108868], [kp 64], [kp 64]] []
theorem vc146 (a : Int) (b : Int) (alone : Int) (K : KA) : vcT C146 noLoops ann146 f146 [dI a, dI b, dI alone] [] (.dat TInt) K =
 (cond ((!(M.inR a 0 2)) == false) (cond (!(M.inR b 0 2)) (K (dI (-1 : Int)) []) (cond ((decide (a = alone)) == false) (cond (decide (b = alone)) (K (dI alone) []) (cond ((decide (a = Z2)) == false) (cond (decide (b = Z2)) (K (dI Z2) []) (K (dI (wrap64 (Z1 - alone))) [])) (K (dI Z2) []))) (K (dI alone) []))) (K (dI (-1 : Int)) [])) := by kernel_rfl
theorem con146_ok : Con1 P 146 c146 := conR C146 func146 (kC con164_ok kN) fun args hp K h0 => by
 obtain ⟨a, b, alone, rfl, rfl, p0, hK⟩ := g3e h0
 have h : ok (F.impl_fold a b alone) (fun r => K (dI r) []) := ok_of_eq (F.impl_fold_eq a b alone p0) hK
 refine ⟨rfl, ann146, noLoops, (.dat TInt), (no_loops (by kernel_rfl)), ?_⟩
 ·rw [vc146]
  exact (oC h (fun _ h => (oC h (fun _ h => h) fun _ h => (oC h (fun _ h => (oC h (fun _ h => h) fun _ h => (oC h (fun _ h => (oC h (fun _ h => h) fun _ h => h)) fun _ h => h))) fun _ h => h))) fun _ h => h)
def c106 : Con := ⟨[.dat TInt, .dat TInt], fun args hp K => g2 (pD TInt) (pD TInt) (fun a b => K (dI (M.andOf a b)) []) args hp, .plain⟩
@[reducible] def C106 : Ctx := cx [(146, c146)] 8 [] 0 false
def ann106 := an [[kp 3], [kp 16]] []
theorem vc106 (a : Int) (b : Int) (K : KA) : vcT C106 noLoops ann106 f106 [dI a, dI b] [] (.dat TInt) K =
 ((0 ≤ Z0 ∧ Z0 ≤ 1) ∧ K (dI (M.fold a b Z0)) []) := by kernel_rfl
theorem con106_ok : Con1 P 106 c106 := conR C106 func106 (kC con146_ok kN) fun args hp K h0 => by
 obtain ⟨a, b, rfl, rfl, hK⟩ := g2e h0
 have h : ok (F.impl_AndOf a b) (fun r => K (dI r) []) := ok_of_eq (F.impl_AndOf_eq a b) hK
 refine ⟨rfl, ann106, noLoops, (.dat TInt), (no_loops (by kernel_rfl)), ?_⟩
 ·rw [vc106]
  exact (oG h fun _ h => h)
def c107 : Con := ⟨[.dat TValue], fun args hp K => g1 (pD TValue) (fun v => (Sm TValue v) ∧ K (dI (M.truthOf v)) []) args hp, .plain⟩
@[reducible] def C107 : Ctx := cx [(97, c97)] 17 [] 0 false
def ann107 := an [[.fixRow 1 TValue, kp 2], [kp 10], [kp 4], [kp 130], [kp 4], [kp 2050], [kp 4], [kp 4]] []
theorem vc107 (v : TValue.D) (K : KA) : vcT C107 noLoops ann107 f107 [.data TValue v] [] (.dat TInt) K =
 ((Sm TValue v) ∧ cond (!(M.valueOk v)) (K (dI (-1 : Int)) []) (cond (decide (v.1 = Z0)) (K (dI Z2) []) (cond (decide (v.1 = Z3)) (K (dI v.2.1) []) (K (dI (-1 : Int)) [])))) := by kernel_rfl
theorem con107_ok : Con1 P 107 c107 := conR C107 func107 (kC con97_ok kN) fun args hp K h0 => by
 obtain ⟨v, rfl, rfl, h_v, hK⟩ := g1e h0
 have h : ok (F.impl_TruthOf v) (fun r => K (dI r) []) := ok_of_eq (F.impl_TruthOf_eq v h_v) hK
 refine ⟨rfl, ann107, noLoops, (.dat TInt), (no_loops (by kernel_rfl)), ?_⟩
 ·rw [vc107]
  exact ⟨h_v, (oC h (fun _ h => h) fun _ h => (oC h (fun _ h => h) fun _ h => (oC h (fun _ h => h) fun _ h => h)))⟩
def c108 : Con := ⟨[.dat TInt, .dat TInt], fun args hp K => g2 (pD TInt) (pD TInt) (fun a b => K (dI (M.orOf a b)) []) args hp, .plain⟩
@[reducible] def C108 : Ctx := cx [(146, c146)] 8 [] 0 false
def ann108 := an [[kp 3], [kp 16]] []
theorem vc108 (a : Int) (b : Int) (K : KA) : vcT C108 noLoops ann108 f108 [dI a, dI b] [] (.dat TInt) K =
 ((0 ≤ Z1 ∧ Z1 ≤ 1) ∧ K (dI (M.fold a b Z1)) []) := by kernel_rfl
theorem con108_ok : Con1 P 108 c108 := conR C108 func108 (kC con146_ok kN) fun args hp K h0 => by
 obtain ⟨a, b, rfl, rfl, hK⟩ := g2e h0
 have h : ok (F.impl_OrOf a b) (fun r => K (dI r) []) := ok_of_eq (F.impl_OrOf_eq a b) hK
 refine ⟨rfl, ann108, noLoops, (.dat TInt), (no_loops (by kernel_rfl)), ?_⟩
 ·rw [vc108]
  exact (oG h fun _ h => h)
def c109 : Con := ⟨[.dat TInt], fun args hp K => g1 (pD TInt) (fun a => K (dI (M.notOf a)) []) args hp, .plain⟩
@[reducible] def C109 : Ctx := cx [] 10 [] 0 false
def ann109 := an [[kp 1], [kp 8], [kp 24], [kp 4], [kp 72], [kp 4], [kp 256], [kp 4], [kp 4]] []
theorem vc109 (a : Int) (K : KA) : vcT C109 noLoops ann109 f109 [dI a] [] (.dat TInt) K =
 (cond (decide (a = Z0)) (K (dI Z1) []) (cond (decide (a = Z1)) (K (dI Z0) []) (cond (decide (a = Z2)) (K (dI Z2) []) (K (dI (-1 : Int)) [])))) := by kernel_rfl
theorem con109_ok : Con1 P 109 c109 := conR C109 func109 kN fun args hp K h0 => by
 obtain ⟨a, rfl, rfl, hK⟩ := g1e h0
 have h : ok (F.impl_NotOf a) (fun r => K (dI r) []) := ok_of_eq (F.impl_NotOf_eq a) hK
 refine ⟨rfl, ann109, noLoops, (.dat TInt), (no_loops (by kernel_rfl)), ?_⟩
 ·rw [vc109]
  exact (oC h (fun _ h => h) fun _ h => (oC h (fun _ h => h) fun _ h => (oC h (fun _ h => h) fun _ h => h)))
def c64 : Con := ⟨[.dat TPart, .dat TVS, .lent TValue], fun args hp K => g3 (pD TPart) (pD TVS) (pB TValue) (fun p row inp => (Sm TPart p) ∧ (Sm TVS row) ∧ (Sm TVS inp) ∧ ((inp.length : Int) = M.takes p) ∧ (M.colIn p row.length) ∧ (1 ≤ p.1 ∧ p.1 ≤ 8) ∧ (∀ r : TValue.D, r = (M.partValue p row inp) → K (.data TValue r) [])) args hp, .plain⟩
@[reducible] def C64 : Ctx := cx [(97, c97), (104, c104), (105, c105), (106, c106), (107, c107), (108, c108), (109, c109), (110, c110)] 103 [] 0 false
def ann64 := an [[.fixRow 3 TPart, kp 78], [kp 590], [kp 1614], [kp 64], [kp 16974], [kp 64], [kp 2097740], [.fixRow 7 TValue, kp 196], [.keep [6, 7, 49]], [kp 64], [kp 64], [kp 4503599627371084], [kp 64], [.keep [2, 6, 9, 64]], [kp 64], [.keep [2, 6, 9, 76]], [kp 64], [.keep [2, 6, 88]], [kp 64], [kp 64]] []
theorem vc64 (p : TPart.D) (row : LV) (inp : LV) (K : KA) : vcT C64 noLoops ann64 f64 [.data TPart p, .data TVS row, .brw TValue inp] [] (.dat TValue) K =
 (cond (decide (p.1 = Z1)) (K (.data TValue p.2.2.1) []) (cond (decide (p.1 = Z2)) ((0 ≤ p.2.1) ∧ (p.2.1 < (row.length : Int)) ∧ K (.data TValue (nV row p.2.1)) []) (cond (decide (p.1 = Z3)) ((0 ≤ Z0) ∧ (Z0 < (inp.length : Int)) ∧ (0 ≤ Z1) ∧ (Z1 < (inp.length : Int)) ∧ (0 ≤ Z0) ∧ (Z0 < (inp.length : Int)) ∧ cond ((decide ((nV inp Z0).1 = Z0)) == false) ((0 ≤ Z1) ∧ (Z1 < (inp.length : Int)) ∧ cond ((decide ((nV inp Z1).1 = Z0)) == false) ((Sm TValue (Z1, (wrap64 ((nV inp Z0).2.1 + (nV inp Z1).2.1), ((⟨#[]⟩ : ByteArray), ())))) ∧ cond (!(M.valueOk (Z1, (wrap64 ((nV inp Z0).2.1 + (nV inp Z1).2.1), ((⟨#[]⟩ : ByteArray), ()))))) (K (.data TValue (Z0, (Z0, ((⟨#[]⟩ : ByteArray), ())))) []) (K (.data TValue (Z1, (wrap64 ((nV inp Z0).2.1 + (nV inp Z1).2.1), ((⟨#[]⟩ : ByteArray), ())))) [])) (K (.data TValue (Z0, (Z0, ((⟨#[]⟩ : ByteArray), ())))) [])) (K (.data TValue (Z0, (Z0, ((⟨#[]⟩ : ByteArray), ())))) [])) (cond (decide (p.1 = Z4)) ((0 ≤ Z0) ∧ (Z0 < (inp.length : Int)) ∧ (0 ≤ Z1) ∧ (Z1 < (inp.length : Int)) ∧ (Sm TValue (nV inp Z0)) ∧ (Sm TValue (nV inp Z1)) ∧ (∀ r1 : TValue.D, r1 = (M.valueOf (M.compare p.2.1 (nV inp Z0) (nV inp Z1))) → K (.data TValue r1) [])) (cond (decide (p.1 = Z5)) ((0 ≤ Z0) ∧ (Z0 < (inp.length : Int)) ∧ (0 ≤ Z1) ∧ (Z1 < (inp.length : Int)) ∧ (Sm TValue (nV inp Z0)) ∧ (Sm TValue (nV inp Z1)) ∧ (∀ r2 : TValue.D, r2 = (M.valueOf (M.andOf (M.truthOf (nV inp Z0)) (M.truthOf (nV inp Z1)))) → K (.data TValue r2) [])) (cond (decide (p.1 = Z6)) ((0 ≤ Z0) ∧ (Z0 < (inp.length : Int)) ∧ (0 ≤ Z1) ∧ (Z1 < (inp.length : Int)) ∧ (Sm TValue (nV inp Z0)) ∧ (Sm TValue (nV inp Z1)) ∧ (∀ r3 : TValue.D, r3 = (M.valueOf (M.orOf (M.truthOf (nV inp Z0)) (M.truthOf (nV inp Z1)))) → K (.data TValue r3) [])) (cond (decide (p.1 = (7 : Int))) ((0 ≤ Z0) ∧ (Z0 < (inp.length : Int)) ∧ (Sm TValue (nV inp Z0)) ∧ (∀ r4 : TValue.D, r4 = (M.valueOf (M.notOf (M.truthOf (nV inp Z0)))) → K (.data TValue r4) [])) ((0 ≤ Z0) ∧ (Z0 < (inp.length : Int)) ∧ (∀ r5 : TValue.D, r5 = (M.valueOf (M.bool (decide ((nV inp Z0).1 = Z0)))) → K (.data TValue r5) []))))))))) := by kernel_rfl
theorem con64_ok : Con1 P 64 c64 := conR C64 func64 (kC con97_ok (kC con104_ok (kC con105_ok (kC con106_ok (kC con107_ok (kC con108_ok (kC con109_ok (kC con110_ok kN)))))))) fun args hp K h0 => by
 obtain ⟨p, row, inp, rfl, rfl, h_p, h_row, h_inp, p0, p1, p2, hK⟩ := g3e h0
 have h : ok (F.impl_Part_value p row inp) (fun r => K (.data TValue r) []) := ok_of_eq (F.impl_Part_value_eq p row inp h_p h_row h_inp p0 p1 p2) (hK _ rfl)
 refine ⟨rfl, ann64, noLoops, (.dat TValue), (no_loops (by kernel_rfl)), ?_⟩
 ·rw [vc64]
  exact (oC h (fun _ h => h) fun _ h => (oC h (fun _ h => (oG h fun _ h => (oG h fun _ h => h))) fun _ h => (oC h (fun _ h => ⟨(Int.natCast_nonneg 0), (oG h fun g1 h => ⟨(Int.natCast_nonneg 1), (oG h fun g2 h => ⟨(Int.natCast_nonneg 0), ⟨g1, (oC h (fun _ h => ⟨(Int.natCast_nonneg 1), ⟨g2, (oC h (fun _ h => ⟨(show Sm TValue _ from ⟨trivial, (show Sm (Ty.pair TInt (Ty.pair Ty.str Ty.unit)) _ from ⟨trivial, (show Sm (Ty.pair Ty.str Ty.unit) _ from ⟨(Nat.le_of_ble_eq_true rfl), trivial⟩)⟩)⟩), (oC h (fun _ h => h) fun _ h => h)⟩) fun _ h => h)⟩⟩) fun _ h => h)⟩⟩)⟩)⟩) fun _ h => (oC h (fun _ h => ⟨(Int.natCast_nonneg 0), (oG h fun _ h => ⟨(Int.natCast_nonneg 1), (oG h fun _ h => ⟨(sm_nth h_inp Z0), ⟨(sm_nth h_inp Z1), (oL h fun _ _ h => h)⟩⟩)⟩)⟩) fun _ h => (oC h (fun _ h => ⟨(Int.natCast_nonneg 0), (oG h fun _ h => ⟨(Int.natCast_nonneg 1), (oG h fun _ h => ⟨(sm_nth h_inp Z0), ⟨(sm_nth h_inp Z1), (oL h fun _ _ h => h)⟩⟩)⟩)⟩) fun _ h => (oC h (fun _ h => ⟨(Int.natCast_nonneg 0), (oG h fun _ h => ⟨(Int.natCast_nonneg 1), (oG h fun _ h => ⟨(sm_nth h_inp Z0), ⟨(sm_nth h_inp Z1), (oL h fun _ _ h => h)⟩⟩)⟩)⟩) fun _ h => (oC h (fun _ h => ⟨(Int.natCast_nonneg 0), (oG h fun _ h => ⟨(sm_nth h_inp Z0), (oL h fun _ _ h => h)⟩)⟩) fun _ h => ⟨(Int.natCast_nonneg 0), (oG h fun _ h => (oL h fun _ _ h => h))⟩)))))))
def c31 : Con := ⟨[.dat TVS, .dat TPS], fun args hp K => g2 (pD TVS) (pD TPS) (fun row e => (Sm TVS row) ∧ (Sm TPS e) ∧ (M.exprSafe row.length e) ∧ (∀ r : TValue.D, r = (M.exprValue row e) → K (.data TValue r) [])) args hp, .plain⟩
@[reducible] def C31 : Ctx := cx [(58, c58), (64, c64)] 37 [] 0 false
def ann31 := an [[kp 19], [kp 51], [kp 7217], [kp 15409], [.fixRow 7 TPart, kp 7345], [kp 7601], [.fixRow 9 TValue, kp 7985], [kp 7217], [kp 7217], [kp 16]] [[kp 48]]
@[reducible] def s31_0 (row : LV) (e : LPt) (i0 : Int) (v0 : LV) : St := ⟨[(0, .data TVS row), (4, .ptr 4 0), (5, .own 5 none), (10, .data TPS e), (11, dI (e.length : Int)), (12, dI i0)], [(4, .box [dI Z0, dI Z0, .data Ty.str (⟨#[]⟩ : ByteArray)]), (5, .arr false TValue v0)]⟩
@[reducible] def LP31_0 (row : LV) (e : LPt) (m : Nat) (st_ : St) (K : KX) : Prop := True ∧ LoopE (t := TPart) (s31_0 row e) e (F.impl_exprValue_l0 row e) (fun v0 : LV => True) (outD (fun v0 : LV => True → K (.exit 0) (⟨[(4, .ptr 4 0), (5, .own 5 none)], [(4, .box [dI Z0, dI Z0, .data Ty.str (⟨#[]⟩ : ByteArray)]), (5, .arr false TValue v0)]⟩ : St)) (fun _ => False)) m st_
def L31 (row : LV) (e : LPt) : Loops := lp1 0 (LP31_0 row e)
theorem vc31 (row : LV) (e : LPt) (K : KA) : vcT C31 (L31 row e) ann31 f31 [.data TVS row, .data TPS e] [] (.dat TValue) K =
 (∃ m_, True ∧ LoopE (t := TPart) (s31_0 row e) e (F.impl_exprValue_l0 row e) (fun v0 : LV => True) (outD (fun v0 : LV => True → (0 ≤ Z0) ∧ (Z0 < (v0.length : Int)) ∧ K (.data TValue (nV v0 Z0)) []) (fun _ => False)) m_ (s31_0 row e Z0 [])) := by kernel_rfl
@[reducible] def S31l0_0 (row : LV) (e : LPt)  (i0 : Int) (v0 : LV) (m : Nat) (K : KX) : Prop := (Sm TPart (nP e i0)) ∧ (Sm TVS row) ∧ (Sm TVS (cutList v0 (some (wrap64 ((v0.length : Int) - (M.takes (nP e i0))), (v0.length : Int))))) ∧ (((cutList v0 (some (wrap64 ((v0.length : Int) - (M.takes (nP e i0))), (v0.length : Int)))).length : Int) = M.takes (nP e i0)) ∧ (M.colIn (nP e i0) row.length) ∧ (1 ≤ (nP e i0).1 ∧ (nP e i0).1 ≤ 8) ∧ (∀ r1 : TValue.D, r1 = (M.partValue (nP e i0) row (cutList v0 (some (wrap64 ((v0.length : Int) - (M.takes (nP e i0))), (v0.length : Int))))) → (0 ≤ Z0) ∧ (Z0 ≤ wrap64 ((v0.length : Int) - (M.takes (nP e i0)))) ∧ (wrap64 ((v0.length : Int) - (M.takes (nP e i0))) ≤ (v0.length : Int)) ∧ (wrap64 ((v0.length : Int) - (M.takes (nP e i0))) = wrap64 ((v0.length : Int) - (M.takes (nP e i0)))) ∧ (Z0 = 0) ∧ (((wrap64 ((v0.length : Int) - (M.takes (nP e i0)))).toNat + [r1].length) * 32 ≤ lim) ∧ (nxT (LP31_0 row e) m K (s31_0 row e (wrap64 (i0 + Z1)) (v0.take (wrap64 ((v0.length : Int) - (M.takes (nP e i0)))).toNat ++ [r1]))))
theorem lvc31_0 (row : LV) (e : LPt)  (i0 : Int) (v0 : LV) (m : Nat) (K : KX) : lvT C31 (L31 row e) ann31 f31 0 0 (s31_0 row e i0 v0) m K =
 (cond (decide (i0 < (e.length : Int))) ((0 ≤ i0) ∧ (i0 < (e.length : Int)) ∧ (Sm TPart (nP e i0)) ∧ (0 ≤ wrap64 ((v0.length : Int) - (M.takes (nP e i0)))) ∧ (wrap64 ((v0.length : Int) - (M.takes (nP e i0))) ≤ (v0.length : Int)) ∧ ((v0.length : Int) ≤ (v0.length : Int)) ∧ ((v0.length : Int) = (v0.length : Int)) ∧ (S31l0_0  row e i0 v0 m K) ∧ (S31l0_0  row e i0 v0 m K)) (K (.exit 0) (⟨[(4, .ptr 4 0), (5, .own 5 none)], [(4, .box [dI Z0, dI Z0, .data Ty.str (⟨#[]⟩ : ByteArray)]), (5, .arr false TValue v0)]⟩ : St))) := by kernel_rfl
theorem con31_ok : Con1 P 31 c31 := conR C31 func31 (kC con58_ok (kC con64_ok kN)) fun args hp K h0 => by
 obtain ⟨row, e, rfl, rfl, h_row, h_e, p0, hK⟩ := g2e h0
 have h : ok (F.impl_exprValue row e) (fun r => K (.data TValue r) []) := ok_of_eq (F.impl_exprValue_eq row e h_row h_e p0) (hK _ rfl)
 refine ⟨rfl, ann31, (L31 row e), (.dat TValue), (loopsN1 (i0 := 0) (by kernel_rfl) ?_), ?_⟩
 ·rintro _ _ K ⟨hc0, i0, v0, rfl, hl0, rfl, hv0, h⟩
  exact cast (lvc31_0 _ _ _ _ _ _).symm (loopE_step (t := TPart) hl0 h (fun ht0 h => ⟨hl0, ⟨ht0, ⟨(sm_nth h_e i0), (oG h fun _ h => (oG h fun g1 h => ⟨(Int.le_refl _), ⟨rfl, ((fun (g2_0 : Sm TVS (cutList v0 (some (wrap64 ((v0.length : Int) - (M.takes (nP e i0))), (v0.length : Int))))) => (fun (g2_1 : ((cutList v0 (some (wrap64 ((v0.length : Int) - (M.takes (nP e i0))), (v0.length : Int)))).length : Int) = M.takes (nP e i0)) => (fun (g2_2 : M.colIn (nP e i0) row.length) => (fun (g2_3 : 1 ≤ (nP e i0).1 ∧ (nP e i0).1 ≤ 8) => ⟨⟨(sm_nth h_e i0), ⟨h_row, ⟨g2_0, have g2 := g2_0; ⟨g2_1, have g3 := g2_1; ⟨g2_2, have g4 := g2_2; ⟨g2_3, have g5 := g2_3; (fun r1 er1 => (have h := (ok_let (ok_guard (ok_guard (ok_guard (ok_guard h).2).2).2).2 r1 er1); ⟨(Int.natCast_nonneg 0), (oG h fun _ h => ⟨g1, ⟨rfl, ⟨rfl, (oG h fun _ h => (loopE_next (t := TPart) (fun _ hm => ⟨hc0, hm⟩) _ rfl hl0 ht0 (sm_len h_e) trivial h))⟩⟩⟩)⟩))⟩⟩⟩⟩⟩⟩, ⟨(sm_nth h_e i0), ⟨h_row, ⟨g2_0, have g6 := g2_0; ⟨g2_1, have g7 := g2_1; ⟨g2_2, have g8 := g2_2; ⟨g2_3, have g9 := g2_3; (fun r1 er1 => (have h := (ok_let (ok_guard (ok_guard (ok_guard (ok_guard h).2).2).2).2 r1 er1); ⟨(Int.natCast_nonneg 0), (oG h fun _ h => ⟨g1, ⟨rfl, ⟨rfl, (oG h fun _ h => (loopE_next (t := TPart) (fun _ hm => ⟨hc0, hm⟩) _ rfl hl0 ht0 (sm_len h_e) trivial h))⟩⟩⟩)⟩))⟩⟩⟩⟩⟩⟩⟩) (ok_guard (ok_guard (ok_guard (ok_guard h).2).2).2).1) (ok_guard (ok_guard (ok_guard h).2).2).1) (ok_guard (ok_guard h).2).1) (ok_guard h).1)⟩⟩))⟩⟩⟩) fun h => (h trivial))
 ·rw [vc31]
  exact (loopE_start (t := TPart) (fun m hm => ⟨trivial, hm⟩) _ rfl trivial (ok_then h (fun v0 h hv0 => ⟨(Int.natCast_nonneg 0), (oG h fun _ h => h)⟩) (fun _ h => h.elim)))
@[reducible] def C65 : Ctx := cx [] 9 [] 400000 true
def T65 : Inl := inlT C65 (fun _ => []) (bodyOf f65) f65.results.toList
theorem inlOk65 : Inl1 P 65 T65 := inlR C65 func65 kN
def c32 : Con := ⟨[.dat TPS], fun args hp K => g1 (pD TPS) (fun xs => (Sm TPS xs) ∧ (∀ r : LPt, r = xs → K (.clp 0 (r.length : Int)) [(0, .arr false TPart r)])) args hp, .bor⟩
@[reducible] def C32 : Ctx := cx [] 9 [(65, T65)] 0 true
def ann32 := an [[kp 1], [kp 33], [.clip 2, kp 4], [kp 4]] []
theorem vc32 (xs : LPt) (K : KA) : vcT C32 noLoops ann32 f32 [.data TPS xs] [] .raw K =
 (cond (decide ((xs.length : Int) = Z0)) (K (.clp 0 (([] : List TPart.D).length : Int)) [(0, .arr false TPart ([] : List TPart.D))]) ((xs.length * 48 ≤ lim) ∧ (0 ≤ Z0) ∧ (Z0 ≤ (xs.length : Int)) ∧ ((xs.length : Int) ≤ (xs.length : Int)) ∧ ((xs.length : Int) = (xs.length : Int)) ∧ (Z0 = 0) ∧ K (.clp 0 ((xs.take (xs.length : Int).toNat).length : Int)) [(0, .arr false TPart (xs.take (xs.length : Int).toNat))])) := by kernel_rfl
theorem con32_ok : Con1 P 32 c32 := conR C32 func32 (kI inlOk65 kN) fun args hp K h0 => by
 obtain ⟨xs, rfl, rfl, h_xs, hK⟩ := g1e h0
 have h : ok (F.clone_TPart xs) (fun r => K (.clp 0 (r.length : Int)) [(0, .arr false TPart r)]) := ok_of_eq (F.clone_TPart_eq xs h_xs) (hK _ rfl)
 refine ⟨rfl, ann32, noLoops, .raw, (no_loops (by kernel_rfl)), ?_⟩
 ·rw [vc32]
  exact (oC h (fun _ h => h) fun _ h => ⟨(sm_lim h_xs rfl), ⟨(Int.natCast_nonneg 0), ⟨(Int.natCast_nonneg _), ⟨(Int.le_refl _), ⟨rfl, ⟨rfl, h⟩⟩⟩⟩⟩⟩)
def c10 : Con := ⟨[.dat TCS, .dat TPS], fun args hp K => g2 (pD TCS) (pD TPS) (fun columns e => (Sm TCS columns) ∧ (Sm TPS e) ∧ (∀ r : LPt, r = (M.exprFolded columns e) → K (.clp 0 (r.length : Int)) [(0, .arr false TPart r)])) args hp, .bor⟩
@[reducible] def C10 : Ctx := cx [(29, c29), (30, c30), (31, c31), (32, c32)] 24 [] 0 true
def ann10 := an [[kp 3], [kp 514], [.clip 4, kp 16], [kp 8194], [.fixRow 5 TValue, kp 34], [kp 262178], [.clip 4, kp 16], [kp 16]] []
@[reducible] def S10_0 (columns : LC) (e : LPt) (K : KA) : Prop := (Sm TPS e) ∧ (∀ r1 : LPt, r1 = e → K (.clp 0 ((r1.take (r1.length : Int).toNat).length : Int)) [(0, .arr false TPart (r1.take (r1.length : Int).toNat))])
theorem vc10 (columns : LC) (e : LPt) (K : KA) : vcT C10 noLoops ann10 f10 [.data TCS columns, .data TPS e] [] .raw K =
 ((Sm TCS columns) ∧ (Sm TPS e) ∧ cond (decide ((M.exprKind columns e) < Z0)) (K (.clp 0 (([] : List TPart.D).length : Int)) [(0, .arr false TPart ([] : List TPart.D))]) ((Sm TPS e) ∧ (e.length ≤ 12) ∧ (∀ r2 : (List Int), r2 = (M.exprCols e) → cond (decide ((r2.length : Int) = Z0)) ((Sm TVS []) ∧ (Sm TPS e) ∧ (M.exprSafe ([] : LV).length e) ∧ (∀ r3 : TValue.D, r3 = (M.exprValue [] e) → cond (!decide (r3.1 = Z0)) (K (.clp 0 (([(Z1, (Z0, (r3, ())))].take ([(Z1, (Z0, (r3, ())))].length : Int).toNat).length : Int)) [(0, .arr false TPart ([(Z1, (Z0, (r3, ())))].take ([(Z1, (Z0, (r3, ())))].length : Int).toNat))]) (S10_0 columns e K))) (S10_0 columns e K)))) := by kernel_rfl
theorem con10_ok : Con1 P 10 c10 := conR C10 func10 (kC con29_ok (kC con30_ok (kC con31_ok (kC con32_ok kN)))) fun args hp K h0 => by
 obtain ⟨columns, e, rfl, rfl, h_columns, h_e, hK⟩ := g2e h0
 have h : ok (F.impl_ExprFolded columns e) (fun r => K (.clp 0 (r.length : Int)) [(0, .arr false TPart r)]) := ok_of_eq (F.impl_ExprFolded_eq columns e h_columns h_e) (hK _ rfl)
 refine ⟨rfl, ann10, noLoops, .raw, (no_loops (by kernel_rfl)), ?_⟩
 ·rw [vc10]
  exact ⟨h_columns, ⟨h_e, (oC h (fun _ h => h) fun _ h => ⟨h_e, (oG h fun _ h => (oL h fun _ _ h => (oC h (fun _ h => ⟨(sm_nil TValue), ⟨h_e, (oG h fun _ h => (oL h fun _ _ h => (oC h (fun _ h => h) fun _ h => ⟨h_e, (oL h fun _ _ h => h)⟩)))⟩⟩) fun _ h => ⟨h_e, (oL h fun _ _ h => h)⟩)))⟩)⟩⟩
def c66 : Con := ⟨[.dat TValue, .dat TValue], fun args hp K => g2 (pD TValue) (pD TValue) (fun x y => (Sm TValue x) ∧ (Sm TValue y) ∧ (x = y) ∧ K (dB true) []) args hp, .plain⟩
@[reducible] def C66 : Ctx := cx [] 20 [] 0 false
def ann66 := an [[.fixRow 2 TValue, .fixRow 3 TValue, kp 12], [kp 524], [kp 16], [kp 16396], [kp 16], [kp 524288], [kp 16], [kp 16]] []
theorem vc66 (x : TValue.D) (y : TValue.D) (K : KA) : vcT C66 noLoops ann66 f66 [.data TValue x, .data TValue y] [] (.dat Ty.bool) K =
 (cond (!decide (x.1 = y.1)) (K (dB false) []) (cond (!decide (x.2.1 = y.2.1)) (K (dB false) []) (cond (!decide (x.2.2.1 = y.2.2.1)) (K (dB false) []) (K (dB true) [])))) := by kernel_rfl
theorem con66_ok : Con1 P 66 c66 := conR C66 func66 kN fun args hp K h0 => by
 obtain ⟨x, y, rfl, rfl, h_x, h_y, p0, hK⟩ := g2e h0
 have h : ok (F.laws_eqValue x y) (fun r => K (dB r) []) := ok_of_eq (F.laws_eqValue_eq x y h_x h_y p0) hK
 refine ⟨rfl, ann66, noLoops, (.dat Ty.bool), (no_loops (by kernel_rfl)), ?_⟩
 ·rw [vc66]
  exact (oC h (fun _ h => h) fun _ h => (oC h (fun _ h => h) fun _ h => (oC h (fun _ h => h) fun _ h => h)))
def c33 : Con := ⟨[.dat TPart, .dat TPart], fun args hp K => g2 (pD TPart) (pD TPart) (fun x y => (Sm TPart x) ∧ (Sm TPart y) ∧ (x = y) ∧ K (dB true) []) args hp, .plain⟩
@[reducible] def C33 : Ctx := cx [(66, c66)] 21 [] 0 false
def ann33 := an [[.fixRow 2 TPart, .fixRow 3 TPart, kp 12], [kp 524], [kp 16], [kp 16396], [kp 16], [kp 1048576], [kp 16], [kp 16]] []
theorem vc33 (x : TPart.D) (y : TPart.D) (K : KA) : vcT C33 noLoops ann33 f33 [.data TPart x, .data TPart y] [] (.dat Ty.bool) K =
 (cond (!decide (x.1 = y.1)) (K (dB false) []) (cond (!decide (x.2.1 = y.2.1)) (K (dB false) []) ((Sm TValue x.2.2.1) ∧ (Sm TValue y.2.2.1) ∧ (x.2.2.1 = y.2.2.1) ∧ cond (!true) (K (dB false) []) (K (dB true) [])))) := by kernel_rfl
theorem con33_ok : Con1 P 33 c33 := conR C33 func33 (kC con66_ok kN) fun args hp K h0 => by
 obtain ⟨x, y, rfl, rfl, h_x, h_y, p0, hK⟩ := g2e h0
 have h : ok (F.laws_eqPart x y) (fun r => K (dB r) []) := ok_of_eq (F.laws_eqPart_eq x y h_x h_y p0) hK
 refine ⟨rfl, ann33, noLoops, (.dat Ty.bool), (no_loops (by kernel_rfl)), ?_⟩
 ·rw [vc33]
  exact (oC h (fun _ h => h) fun _ h => (oC h (fun _ h => h) fun _ h => ⟨h_x.2.2.1, ⟨h_y.2.2.1, (oG h fun _ h => (oC h (fun _ h => h) fun _ h => h))⟩⟩))
def c11 : Con := ⟨[.dat TPS, .dat TPS], fun args hp K => g2 (pD TPS) (pD TPS) (fun x y => (Sm TPS x) ∧ (Sm TPS y) ∧ (x = y) ∧ K (dB true) []) args hp, .bor⟩
@[reducible] def C11 : Ctx := cx [(33, c33)] 27 [] 0 false
def ann11 := an [[kp 3], [kp 1027], [kp 16], [kp 35], [kp 16419], [kp 35], [kp 67108899], [kp 16], [kp 16]] [[kp 0]]
@[reducible] def s11_0 (x : LPt) (y : LPt) (i0 : Int) (v0 : Unit) : St := ⟨[(0, .data TPS x), (1, .data TPS y), (5, dI i0)], []⟩
@[reducible] def LP11_0 (x : LPt) (y : LPt) (m : Nat) (st_ : St) (K : KX) : Prop := True ∧ LoopI (s11_0 x y) Z0 (x.length : Int) (F.laws_eqPartS_l0 x y) (fun v0 : Unit => True) (outD (fun v0 : Unit => True → K (.exit 0) (⟨[], []⟩ : St)) (fun q0 : Unit => K .ret (⟨[(4, dB false)], []⟩ : St))) m st_
def L11 (x : LPt) (y : LPt) : Loops := lp1 0 (LP11_0 x y)
theorem vc11 (x : LPt) (y : LPt) (K : KA) : vcT C11 (L11 x y) ann11 f11 [.data TPS x, .data TPS y] [] (.dat Ty.bool) K =
 (cond (!decide ((x.length : Int) = (y.length : Int))) (K (dB false) []) (∃ m_, True ∧ LoopI (s11_0 x y) Z0 (x.length : Int) (F.laws_eqPartS_l0 x y) (fun v0 : Unit => True) (outD (fun v0 : Unit => True → K (dB true) []) (fun q0 : Unit => K (dB false) [])) m_ (s11_0 x y Z0 ()))) := by kernel_rfl
theorem lvc11_0 (x : LPt) (y : LPt)  (i0 : Int) (v0 : Unit) (m : Nat) (K : KX) : lvT C11 (L11 x y) ann11 f11 0 0 (s11_0 x y i0 v0) m K =
 (cond (decide (i0 < (x.length : Int))) ((0 ≤ i0) ∧ (i0 < (x.length : Int)) ∧ (0 ≤ i0) ∧ (i0 < (y.length : Int)) ∧ (Sm TPart (nP x i0)) ∧ (Sm TPart (nP y i0)) ∧ ((nP x i0) = (nP y i0)) ∧ cond (!true) (K .ret (⟨[(4, dB false)], []⟩ : St)) (nxT (LP11_0 x y) m K (s11_0 x y (wrap64 (i0 + Z1)) ()))) (K (.exit 0) (⟨[], []⟩ : St))) := by kernel_rfl
theorem con11_ok : Con1 P 11 c11 := conR C11 func11 (kC con33_ok kN) fun args hp K h0 => by
 obtain ⟨x, y, rfl, rfl, h_x, h_y, p0, hK⟩ := g2e h0
 have h : ok (F.laws_eqPartS x y) (fun r => K (dB r) []) := ok_of_eq (F.laws_eqPartS_eq x y h_x h_y p0) hK
 refine ⟨rfl, ann11, (L11 x y), (.dat Ty.bool), (loopsN1 (i0 := 0) (by kernel_rfl) ?_), ?_⟩
 ·rintro _ _ K ⟨hc0, i0, v0, rfl, hl0, rfl, hv0, h⟩
  exact cast (lvc11_0 _ _ _ _ _ _).symm (loopI_step h (fun ht0 h => ⟨hl0, ⟨ht0, ⟨hl0, (oG h fun _ h => ⟨(sm_nth h_x i0), ⟨(sm_nth h_y i0), (oG h fun _ h => (oC h (fun _ h => h) fun _ h => (loopI_next (fun _ hm => ⟨hc0, hm⟩) _ rfl hl0 low0 ht0 (sm_len h_x) trivial h)))⟩⟩)⟩⟩⟩) fun h => (h trivial))
 ·rw [vc11]
  exact (oC h (fun _ h => h) fun _ h => (loopI_start (fun m hm => ⟨trivial, hm⟩) Z0 _ rfl (Int.natCast_nonneg 0) trivial (ok_then h (fun v0 h hv0 => h) (fun q0 h => h))))
def c34 : Con := ⟨[.dat TColumn, .dat TColumn], fun args hp K => g2 (pD TColumn) (pD TColumn) (fun x y => (x = y) ∧ K (dB true) []) args hp, .plain⟩
@[reducible] def C34 : Ctx := cx [] 15 [] 0 false
def ann34 := an [[.fixRow 2 TColumn, .fixRow 3 TColumn, kp 12], [kp 524], [kp 16], [kp 16384], [kp 16], [kp 16]] []
theorem vc34 (x : TColumn.D) (y : TColumn.D) (K : KA) : vcT C34 noLoops ann34 f34 [.data TColumn x, .data TColumn y] [] (.dat Ty.bool) K =
 (cond (!decide (x.1 = y.1)) (K (dB false) []) (cond (!(Ty.beq Ty.bool x.2.1 y.2.1)) (K (dB false) []) (K (dB true) []))) := by kernel_rfl
theorem con34_ok : Con1 P 34 c34 := conR C34 func34 kN fun args hp K h0 => by
 obtain ⟨x, y, rfl, rfl, p0, hK⟩ := g2e h0
 have h : ok (F.laws_eqColumn x y) (fun r => K (dB r) []) := ok_of_eq (F.laws_eqColumn_eq x y p0) hK
 refine ⟨rfl, ann34, noLoops, (.dat Ty.bool), (no_loops (by kernel_rfl)), ?_⟩
 ·rw [vc34]
  exact (oC h (fun _ h => h) fun _ h => (oC h (fun _ h => h) fun _ h => h))
def c12 : Con := ⟨[.dat TCS, .dat TCS], fun args hp K => g2 (pD TCS) (pD TCS) (fun x y => (Sm TCS x) ∧ (Sm TCS y) ∧ (x = y) ∧ K (dB true) []) args hp, .bor⟩
@[reducible] def C12 : Ctx := cx [(34, c34)] 27 [] 0 false
def ann12 := an [[kp 3], [kp 1027], [kp 16], [kp 35], [kp 16419], [kp 35], [kp 67108899], [kp 16], [kp 16]] [[kp 0]]
@[reducible] def s12_0 (x : LC) (y : LC) (i0 : Int) (v0 : Unit) : St := ⟨[(0, .data TCS x), (1, .data TCS y), (5, dI i0)], []⟩
@[reducible] def LP12_0 (x : LC) (y : LC) (m : Nat) (st_ : St) (K : KX) : Prop := True ∧ LoopI (s12_0 x y) Z0 (x.length : Int) (F.laws_eqColumnS_l0 x y) (fun v0 : Unit => True) (outD (fun v0 : Unit => True → K (.exit 0) (⟨[], []⟩ : St)) (fun q0 : Unit => K .ret (⟨[(4, dB false)], []⟩ : St))) m st_
def L12 (x : LC) (y : LC) : Loops := lp1 0 (LP12_0 x y)
theorem vc12 (x : LC) (y : LC) (K : KA) : vcT C12 (L12 x y) ann12 f12 [.data TCS x, .data TCS y] [] (.dat Ty.bool) K =
 (cond (!decide ((x.length : Int) = (y.length : Int))) (K (dB false) []) (∃ m_, True ∧ LoopI (s12_0 x y) Z0 (x.length : Int) (F.laws_eqColumnS_l0 x y) (fun v0 : Unit => True) (outD (fun v0 : Unit => True → K (dB true) []) (fun q0 : Unit => K (dB false) [])) m_ (s12_0 x y Z0 ()))) := by kernel_rfl
theorem lvc12_0 (x : LC) (y : LC)  (i0 : Int) (v0 : Unit) (m : Nat) (K : KX) : lvT C12 (L12 x y) ann12 f12 0 0 (s12_0 x y i0 v0) m K =
 (cond (decide (i0 < (x.length : Int))) ((0 ≤ i0) ∧ (i0 < (x.length : Int)) ∧ (0 ≤ i0) ∧ (i0 < (y.length : Int)) ∧ ((nC x i0) = (nC y i0)) ∧ cond (!true) (K .ret (⟨[(4, dB false)], []⟩ : St)) (nxT (LP12_0 x y) m K (s12_0 x y (wrap64 (i0 + Z1)) ()))) (K (.exit 0) (⟨[], []⟩ : St))) := by kernel_rfl
theorem con12_ok : Con1 P 12 c12 := conR C12 func12 (kC con34_ok kN) fun args hp K h0 => by
 obtain ⟨x, y, rfl, rfl, h_x, h_y, p0, hK⟩ := g2e h0
 have h : ok (F.laws_eqColumnS x y) (fun r => K (dB r) []) := ok_of_eq (F.laws_eqColumnS_eq x y h_x h_y p0) hK
 refine ⟨rfl, ann12, (L12 x y), (.dat Ty.bool), (loopsN1 (i0 := 0) (by kernel_rfl) ?_), ?_⟩
 ·rintro _ _ K ⟨hc0, i0, v0, rfl, hl0, rfl, hv0, h⟩
  exact cast (lvc12_0 _ _ _ _ _ _).symm (loopI_step h (fun ht0 h => ⟨hl0, ⟨ht0, ⟨hl0, (oG h fun _ h => (oG h fun _ h => (oC h (fun _ h => h) fun _ h => (loopI_next (fun _ hm => ⟨hc0, hm⟩) _ rfl hl0 low0 ht0 (sm_len h_x) trivial h))))⟩⟩⟩) fun h => (h trivial))
 ·rw [vc12]
  exact (oC h (fun _ h => h) fun _ h => (loopI_start (fun m hm => ⟨trivial, hm⟩) Z0 _ rfl (Int.natCast_nonneg 0) trivial (ok_then h (fun v0 h hv0 => h) (fun q0 h => h))))
def c13 : Con := ⟨[.dat TInt], fun args hp K => hpN 1000000 false TColumn (fun x => args2 (fun a0 a1 => withC 1000000 (x.length : Int) a0 (withD TInt a1 fun k => (Ln TCS x) ∧ (0 ≤ k) ∧ (k + (M.count TCS x : Int) ≤ M.big) ∧ (∀ r : LC × Int, r = (M.mark TCS x k, k + (M.count TCS x : Int)) → K (dI r.2) [(1000000, .arr false TColumn r.1)]))) args []) hp, .io⟩
@[reducible] def C13 : Ctx := cx [] 29 [] 0 false
def ann13 := an [[kp 3], [kp 35], [kp 547], [kp 35], [kp 35], [kp 35], [kp 35], [kp 35], [kp 16]] [[kp 2]]
@[reducible] def s13_0 (x : LC) (k : Int) (i0 : Int) (v0 : Int × LC) : St := ⟨[(0, .clp 1000000 (x.length : Int)), (1, dI v0.1), (5, dI i0)], [(1000000, .arr false TColumn v0.2)]⟩
@[reducible] def LP13_0 (x : LC) (k : Int) (m : Nat) (st_ : St) (K : KX) : Prop := True ∧ LoopI (s13_0 x k) Z0 (x.length : Int) (F.laws_markColumnS_l0 x k) (fun v0 : Int × LC => True) (outD (fun v0 : Int × LC => True → K (.exit 0) (⟨[(1, dI v0.1)], [(1000000, .arr false TColumn v0.2)]⟩ : St)) (fun _ => False)) m st_
def L13 (x : LC) (k : Int) : Loops := lp1 0 (LP13_0 x k)
theorem vc13 (x : LC) (k : Int) (K : KA) : vcT C13 (L13 x k) ann13 f13 [.clp 1000000 (x.length : Int), dI k] [(1000000, .arr false TColumn x)] .raw K =
 (∃ m_, True ∧ LoopI (s13_0 x k) Z0 (x.length : Int) (F.laws_markColumnS_l0 x k) (fun v0 : Int × LC => True) (outD (fun v0 : Int × LC => True → K (dI v0.1) [(1000000, .arr false TColumn v0.2)]) (fun _ => False)) m_ (s13_0 x k Z0 (k, x))) := by kernel_rfl
theorem lvc13_0 (x : LC) (k : Int)  (i0 : Int) (v0 : Int × LC) (m : Nat) (K : KX) : lvT C13 (L13 x k) ann13 f13 0 0 (s13_0 x k i0 v0) m K =
 (cond (decide (i0 < (x.length : Int))) ((0 ≤ i0) ∧ (i0 < (x.length : Int)) ∧ (Z3 ≠ 0) ∧ (0 ≤ i0) ∧ (i0 < (x.length : Int)) ∧ (let y1 : LC := ((v0.2.set i0.toNat (v0.1, (nC v0.2 i0).2)).set i0.toNat ((nC (v0.2.set i0.toNat (v0.1, (nC v0.2 i0).2)) i0).1, ((decide (((wrap64 (v0.1 + Z1)).tmod Z3) = Z0)), ()))); (nxT (LP13_0 x k) m K (s13_0 x k (wrap64 (i0 + Z1)) (wrap64 (wrap64 (v0.1 + Z1) + Z1), y1))))) (K (.exit 0) (⟨[(1, dI v0.1)], [(1000000, .arr false TColumn v0.2)]⟩ : St))) := by kernel_rfl
theorem con13_ok : Con1 P 13 c13 := conR C13 func13 kN fun args hp K h0 => by
 unfold c13 at h0
 dsimp only at h0
 obtain ⟨x, rfl, h00⟩ := hpN_elim (n := 1000000) (d := false) (t := TColumn) h0
 obtain ⟨a0, a1, rfl, _, h1⟩ := args2_elim h00
 obtain ⟨rfl, h2⟩ := withC_elim h1
 obtain ⟨k, rfl, h3⟩ := withD_elim h2
 obtain ⟨h_x, p0, p1, hK⟩ := h3
 have h : ok (F.laws_markColumnS x k) (fun r => K (dI r.2) [(1000000, .arr false TColumn r.1)]) := ok_of_eq (F.laws_markColumnS_eq x k h_x p0 p1) (hK _ rfl)
 refine ⟨rfl, ann13, (L13 x k), .raw, (loopsN1 (i0 := 0) (by kernel_rfl) ?_), ?_⟩
 ·rintro _ _ K ⟨hc0, i0, v0, rfl, hl0, rfl, hv0, h⟩
  exact cast (lvc13_0 _ _ _ _ _ _).symm (loopI_step h (fun ht0 h => ⟨hl0, ⟨ht0, ⟨(by decide), ⟨hl0, ⟨ht0, (have h := ok_let h _ rfl; (loopI_next (fun _ hm => ⟨hc0, hm⟩) _ rfl hl0 low0 ht0 (sm_len h_x) trivial h))⟩⟩⟩⟩⟩) fun h => (h trivial))
 ·rw [vc13]
  exact (loopI_start (fun m hm => ⟨trivial, hm⟩) Z0 _ rfl (Int.natCast_nonneg 0) trivial (ok_then h (fun v0 h hv0 => h) (fun _ h => h.elim)))
def c35 : Con := ⟨[.dat TInt], fun args hp K => g1 (pD TInt) (fun k => (k ≤ M.big) ∧ (∀ r : ByteArray, r = (M.markText k) → K (.data Ty.str r) [])) args hp, .plain⟩
@[reducible] def C35 : Ctx := cx [] 20 [] 0 false
def ann35 := an [[kp 1], [kp 33], [kp 4], [kp 9], [kp 137], [kp 9], [kp 9], [kp 4]] [[kp 8]]
@[reducible] def s35_0 (k : Int) (v0 : Int × ByteArray) : St := ⟨[(0, dI v0.1), (3, .data Ty.str v0.2)], []⟩
@[reducible] def LP35_0 (k : Int) (m : Nat) (st_ : St) (K : KX) : Prop := True ∧ LoopW (s35_0 k) (F.laws_markText_l0 k) (fun v0 : Int × ByteArray => True) (fun e0 : ByteArray => True → K (.exit 0) (⟨[(3, .data Ty.str e0)], []⟩ : St)) m st_
def L35 (k : Int) : Loops := lp1 0 (LP35_0 k)
theorem vc35 (k : Int) (K : KA) : vcT C35 (L35 k) ann35 f35 [dI k] [] (.dat Ty.str) K =
 (cond (decide (k ≤ Z0)) (K (.data Ty.str (⟨#[109, 48]⟩ : ByteArray)) []) (∃ m_, True ∧ LoopW (s35_0 k) (F.laws_markText_l0 k) (fun v0 : Int × ByteArray => True) (fun e0 : ByteArray => True → ((⟨#[109]⟩ : ByteArray).size + e0.size ≤ 9223372036854775807) ∧ K (.data Ty.str ((⟨#[109]⟩ : ByteArray) ++ e0)) []) m_ (s35_0 k (k, (⟨#[]⟩ : ByteArray))))) := by kernel_rfl
theorem lvc35_0 (k : Int)  (v0 : Int × ByteArray) (m : Nat) (K : KX) : lvT C35 (L35 k) ann35 f35 0 0 (s35_0 k v0) m K =
 (cond (decide (Z0 < v0.1)) (((10 : Int) ≠ 0) ∧ ((strOf [((wrap64 ((48 : Int) + (v0.1.tmod (10 : Int)))) % 256)]).size + v0.2.size ≤ 9223372036854775807) ∧ ((10 : Int) ≠ 0) ∧ (nxT (LP35_0 k) m K (s35_0 k (wrap64 (v0.1.tdiv (10 : Int)), ((strOf [((wrap64 ((48 : Int) + (v0.1.tmod (10 : Int)))) % 256)]) ++ v0.2))))) (K (.exit 0) (⟨[(3, .data Ty.str v0.2)], []⟩ : St))) := by kernel_rfl
theorem con35_ok : Con1 P 35 c35 := conR C35 func35 kN fun args hp K h0 => by
 obtain ⟨k, rfl, rfl, p0, hK⟩ := g1e h0
 have h : ok (F.laws_markText k) (fun r => K (.data Ty.str r) []) := ok_of_eq (F.laws_markText_eq k p0) (hK _ rfl)
 refine ⟨rfl, ann35, (L35 k), (.dat Ty.str), (loopsN1 (i0 := 0) (by kernel_rfl) ?_), ?_⟩
 ·rintro _ _ K ⟨hc0, v0, rfl, hv0, h⟩
  exact cast (lvc35_0 _ _ _ _).symm (loopW_step h (fun m1 hm0 h => (oC h (fun _ h => ⟨(by decide), (oG h fun _ h => ⟨(by decide), (loopW_next (fun _ hm => ⟨hc0, hm⟩) hm0 _ rfl trivial h)⟩)⟩) fun _ h => ((ok_ret h :) trivial))))
 ·rw [vc35]
  exact (oC h (fun _ h => h) fun _ h => (loopW_start (fun m hm => ⟨trivial, hm⟩) _ rfl trivial (ok_bind h (fun e0 h hv0 => (oG h fun _ h => h)))))
def c14 : Con := ⟨[.dat TInt], fun args hp K => hpN 1000000 false TPart (fun x => args2 (fun a0 a1 => withC 1000000 (x.length : Int) a0 (withD TInt a1 fun k => (Ln TPS x) ∧ (0 ≤ k) ∧ (k + (M.count TPS x : Int) ≤ M.big) ∧ (∀ r : LPt × Int, r = (M.mark TPS x k, k + (M.count TPS x : Int)) → K (dI r.2) [(1000000, .arr false TPart r.1)]))) args []) hp, .io⟩
@[reducible] def C14 : Ctx := cx [(35, c35)] 52 [] 0 false
def ann14 := an [[kp 3], [kp 35], [kp 547], [kp 35], [kp 35], [kp 35], [kp 35], [kp 35], [kp 35], [kp 35], [kp 35], [kp 35], [kp 35], [kp 35], [kp 16]] [[kp 2]]
@[reducible] def s14_0 (x : LPt) (k : Int) (i0 : Int) (v0 : Int × LPt) : St := ⟨[(0, .clp 1000000 (x.length : Int)), (1, dI v0.1), (5, dI i0)], [(1000000, .arr false TPart v0.2)]⟩
@[reducible] def LP14_0 (x : LPt) (k : Int) (m : Nat) (st_ : St) (K : KX) : Prop := True ∧ LoopI (s14_0 x k) Z0 (x.length : Int) (F.laws_markPartS_l0 x k) (fun v0 : Int × LPt => True) (outD (fun v0 : Int × LPt => True → K (.exit 0) (⟨[(1, dI v0.1)], [(1000000, .arr false TPart v0.2)]⟩ : St)) (fun _ => False)) m st_
def L14 (x : LPt) (k : Int) : Loops := lp1 0 (LP14_0 x k)
theorem vc14 (x : LPt) (k : Int) (K : KA) : vcT C14 (L14 x k) ann14 f14 [.clp 1000000 (x.length : Int), dI k] [(1000000, .arr false TPart x)] .raw K =
 (∃ m_, True ∧ LoopI (s14_0 x k) Z0 (x.length : Int) (F.laws_markPartS_l0 x k) (fun v0 : Int × LPt => True) (outD (fun v0 : Int × LPt => True → K (dI v0.1) [(1000000, .arr false TPart v0.2)]) (fun _ => False)) m_ (s14_0 x k Z0 (k, x))) := by kernel_rfl
theorem lvc14_0 (x : LPt) (k : Int)  (i0 : Int) (v0 : Int × LPt) (m : Nat) (K : KX) : lvT C14 (L14 x k) ann14 f14 0 0 (s14_0 x k i0 v0) m K =
 (cond (decide (i0 < (x.length : Int))) ((0 ≤ i0) ∧ (i0 < (x.length : Int)) ∧ (0 ≤ i0) ∧ (i0 < (x.length : Int)) ∧ (let y1 : LPt := ((v0.2.set i0.toNat (v0.1, (nP v0.2 i0).2)).set i0.toNat ((nP (v0.2.set i0.toNat (v0.1, (nP v0.2 i0).2)) i0).1, (wrap64 (v0.1 + Z1), (nP (v0.2.set i0.toNat (v0.1, (nP v0.2 i0).2)) i0).2.2))); (0 ≤ i0) ∧ (i0 < (x.length : Int)) ∧ (let y2 : LPt := (y1.set i0.toNat ((nP y1 i0).1, ((nP y1 i0).2.1, ((wrap64 (wrap64 (v0.1 + Z1) + Z1), (nP y1 i0).2.2.1.2), ())))); (0 ≤ i0) ∧ (i0 < (x.length : Int)) ∧ (let y3 : LPt := (y2.set i0.toNat ((nP y2 i0).1, ((nP y2 i0).2.1, (((nP y2 i0).2.2.1.1, (wrap64 (wrap64 (wrap64 (v0.1 + Z1) + Z1) + Z1), (nP y2 i0).2.2.1.2.2)), ())))); ((wrap64 (wrap64 (wrap64 (wrap64 (v0.1 + Z1) + Z1) + Z1) + Z1)) ≤ M.big) ∧ (∀ r1 : ByteArray, r1 = (M.markText (wrap64 (wrap64 (wrap64 (wrap64 (v0.1 + Z1) + Z1) + Z1) + Z1))) → (0 ≤ i0) ∧ (i0 < (x.length : Int)) ∧ (let y4 : LPt := (y3.set i0.toNat ((nP y3 i0).1, ((nP y3 i0).2.1, (((nP y3 i0).2.2.1.1, ((nP y3 i0).2.2.1.2.1, (r1, ()))), ())))); (nxT (LP14_0 x k) m K (s14_0 x k (wrap64 (i0 + Z1)) (wrap64 (wrap64 (wrap64 (wrap64 (wrap64 (v0.1 + Z1) + Z1) + Z1) + Z1) + Z1), y4))))))))) (K (.exit 0) (⟨[(1, dI v0.1)], [(1000000, .arr false TPart v0.2)]⟩ : St))) := by kernel_rfl
theorem con14_ok : Con1 P 14 c14 := conR C14 func14 (kC con35_ok kN) fun args hp K h0 => by
 unfold c14 at h0
 dsimp only at h0
 obtain ⟨x, rfl, h00⟩ := hpN_elim (n := 1000000) (d := false) (t := TPart) h0
 obtain ⟨a0, a1, rfl, _, h1⟩ := args2_elim h00
 obtain ⟨rfl, h2⟩ := withC_elim h1
 obtain ⟨k, rfl, h3⟩ := withD_elim h2
 obtain ⟨h_x, p0, p1, hK⟩ := h3
 have h : ok (F.laws_markPartS x k) (fun r => K (dI r.2) [(1000000, .arr false TPart r.1)]) := ok_of_eq (F.laws_markPartS_eq x k h_x p0 p1) (hK _ rfl)
 refine ⟨rfl, ann14, (L14 x k), .raw, (loopsN1 (i0 := 0) (by kernel_rfl) ?_), ?_⟩
 ·rintro _ _ K ⟨hc0, i0, v0, rfl, hl0, rfl, hv0, h⟩
  exact cast (lvc14_0 _ _ _ _ _ _).symm (loopI_step h (fun ht0 h => ⟨hl0, ⟨ht0, ⟨hl0, ⟨ht0, (have h := ok_let h _ rfl; ⟨hl0, ⟨ht0, (have h := ok_let h _ rfl; ⟨hl0, ⟨ht0, (have h := ok_let h _ rfl; (oG h fun _ h => (oL h fun _ _ h => ⟨hl0, ⟨ht0, (have h := ok_let h _ rfl; (loopI_next (fun _ hm => ⟨hc0, hm⟩) _ rfl hl0 low0 ht0 (sm_len h_x) trivial h))⟩⟩)))⟩⟩)⟩⟩)⟩⟩⟩⟩) fun h => (h trivial))
 ·rw [vc14]
  exact (loopI_start (fun m hm => ⟨trivial, hm⟩) Z0 _ rfl (Int.natCast_nonneg 0) trivial (ok_then h (fun v0 h hv0 => h) (fun _ h => h.elim)))
def c15 : Con := ⟨[.dat TPS, .dat TInt], fun args hp K => g2 (pD TPS) (pD TInt) (fun x k => (Ln TPS x) ∧ (0 ≤ k) ∧ (k + (M.count TPS x : Int) ≤ M.big) ∧ (M.mark TPS x k = x) ∧ K (dI (k + (M.count TPS x : Int))) []) args hp, .bor⟩
@[reducible] def C15 : Ctx := cx [(35, c35)] 62 [] 0 false
def ann15 := an [[kp 3], [kp 35], [kp 547], [kp 35], [kp 262179], [kp 16], [kp 35], [kp 134217763], [kp 16], [kp 35], [kp 137438953507], [kp 16], [kp 35], [kp 140737488355363], [kp 16], [kp 35], [.keep [0, 1, 5, 58]], [kp 16], [kp 35], [kp 16]] [[kp 2]]
@[reducible] def s15_0 (x : LPt) (k : Int) (i0 : Int) (v0 : Int) : St := ⟨[(0, .data TPS x), (1, dI v0), (5, dI i0)], []⟩
@[reducible] def LP15_0 (x : LPt) (k : Int) (m : Nat) (st_ : St) (K : KX) : Prop := True ∧ LoopE (t := TPart) (s15_0 x k) x (F.laws_heldPartS_l0 x k) (fun v0 : Int => True) (outD (fun v0 : Int => True → K (.exit 0) (⟨[(1, dI v0)], []⟩ : St)) (fun q0 : Unit => K .ret (⟨[(4, dI (-1 : Int))], []⟩ : St))) m st_
def L15 (x : LPt) (k : Int) : Loops := lp1 0 (LP15_0 x k)
theorem vc15 (x : LPt) (k : Int) (K : KA) : vcT C15 (L15 x k) ann15 f15 [.data TPS x, dI k] [] (.dat TInt) K =
 (∃ m_, True ∧ LoopE (t := TPart) (s15_0 x k) x (F.laws_heldPartS_l0 x k) (fun v0 : Int => True) (outD (fun v0 : Int => True → K (dI v0) []) (fun q0 : Unit => K (dI (-1 : Int)) [])) m_ (s15_0 x k Z0 k)) := by kernel_rfl
theorem lvc15_0 (x : LPt) (k : Int)  (i0 : Int) (v0 : Int) (m : Nat) (K : KX) : lvT C15 (L15 x k) ann15 f15 0 0 (s15_0 x k i0 v0) m K =
 (cond (decide (i0 < (x.length : Int))) ((0 ≤ i0) ∧ (i0 < (x.length : Int)) ∧ cond (!decide ((nP x i0).1 = v0)) (K .ret (⟨[(4, dI (-1 : Int))], []⟩ : St)) ((0 ≤ i0) ∧ (i0 < (x.length : Int)) ∧ cond (!decide ((nP x i0).2.1 = wrap64 (v0 + Z1))) (K .ret (⟨[(4, dI (-1 : Int))], []⟩ : St)) ((0 ≤ i0) ∧ (i0 < (x.length : Int)) ∧ cond (!decide ((nP x i0).2.2.1.1 = wrap64 (wrap64 (v0 + Z1) + Z1))) (K .ret (⟨[(4, dI (-1 : Int))], []⟩ : St)) ((0 ≤ i0) ∧ (i0 < (x.length : Int)) ∧ cond (!decide ((nP x i0).2.2.1.2.1 = wrap64 (wrap64 (wrap64 (v0 + Z1) + Z1) + Z1))) (K .ret (⟨[(4, dI (-1 : Int))], []⟩ : St)) ((0 ≤ i0) ∧ (i0 < (x.length : Int)) ∧ ((wrap64 (wrap64 (wrap64 (wrap64 (v0 + Z1) + Z1) + Z1) + Z1)) ≤ M.big) ∧ (∀ r1 : ByteArray, r1 = (M.markText (wrap64 (wrap64 (wrap64 (wrap64 (v0 + Z1) + Z1) + Z1) + Z1))) → cond (!decide ((nP x i0).2.2.1.2.2.1 = r1)) (K .ret (⟨[(4, dI (-1 : Int))], []⟩ : St)) (nxT (LP15_0 x k) m K (s15_0 x k (wrap64 (i0 + Z1)) (wrap64 (wrap64 (wrap64 (wrap64 (wrap64 (v0 + Z1) + Z1) + Z1) + Z1) + Z1)))))))))) (K (.exit 0) (⟨[(1, dI v0)], []⟩ : St))) := by kernel_rfl
theorem con15_ok : Con1 P 15 c15 := conR C15 func15 (kC con35_ok kN) fun args hp K h0 => by
 obtain ⟨x, k, rfl, rfl, h_x, p0, p1, p2, hK⟩ := g2e h0
 have h : ok (F.laws_heldPartS x k) (fun r => K (dI r) []) := ok_of_eq (F.laws_heldPartS_eq x k h_x p0 p1 p2) hK
 refine ⟨rfl, ann15, (L15 x k), (.dat TInt), (loopsN1 (i0 := 0) (by kernel_rfl) ?_), ?_⟩
 ·rintro _ _ K ⟨hc0, i0, v0, rfl, hl0, rfl, hv0, h⟩
  exact cast (lvc15_0 _ _ _ _ _ _).symm (loopE_step (t := TPart) hl0 h (fun ht0 h => ⟨hl0, ⟨ht0, (oC h (fun _ h => h) fun _ h => ⟨hl0, ⟨ht0, (oC h (fun _ h => h) fun _ h => ⟨hl0, ⟨ht0, (oC h (fun _ h => h) fun _ h => ⟨hl0, ⟨ht0, (oC h (fun _ h => h) fun _ h => ⟨hl0, ⟨ht0, (oG h fun _ h => (oL h fun _ _ h => (oC h (fun _ h => h) fun _ h => (loopE_next (t := TPart) (fun _ hm => ⟨hc0, hm⟩) _ rfl hl0 ht0 (sm_len h_x) trivial h))))⟩⟩)⟩⟩)⟩⟩)⟩⟩)⟩⟩) fun h => (h trivial))
 ·rw [vc15]
  exact (loopE_start (t := TPart) (fun m hm => ⟨trivial, hm⟩) _ rfl trivial (ok_then h (fun v0 h hv0 => h) (fun q0 h => h)))
def c3 : Con := ⟨[.dat TCS, .dat TPS], fun args hp K => g2 (pD TCS) (pD TPS) (fun aColumns aE => (Ln TCS aColumns) ∧ (Ln TPS aE) ∧ K (dB true) []) args hp, .plain⟩
@[reducible] def C3 : Ctx := cx [(5, c5), (6, c6), (7, c7), (8, c8), (9, c9), (10, c10), (11, c11), (12, c12), (13, c13), (14, c14), (15, c15)] 92 [] 0 true
def ann3 := an [[kp 3], [kp 35], [kp 35], [kp 262179], [kp 16], [kp 35], [kp 8388611], [kp 16], [kp 67], [kp 195], [kp 451], [kp 963], [kp 549755814851], [kp 16], [kp 17592186045379], [kp 16], [kp 562949953422275], [kp 16], [kp 1987], [kp 1859], [kp 1603], [kp 9223372036854776387], [kp 16], [kp 2627], [kp 2627], [kp 6723], [kp 6723], [kp 2361183241434822613571], [kp 16], [kp 18889465931478580857411], [kp 16], [kp 10816], [.keep [9, 11, 83]], [kp 16], [kp 6656], [kp 6144], [.keep [11, 12, 88]], [kp 16], [.keep [91]], [kp 16], [kp 16]] []
theorem vc3 (aColumns : LC) (aE : LPt) (K : KA) : vcT C3 noLoops ann3 f3 [.data TCS aColumns, .data TPS aE] [] (.dat Ty.bool) K =
 ((Ln TCS aColumns) ∧ (0 ≤ (1048576 : Int)) ∧ ((1048576 : Int) ≤ 1048576) ∧ cond (decide ((M.szLen aColumns.length (1048576 : Int)) < Z0)) (K (dB true) []) ((Ln TPS aE) ∧ (0 ≤ (M.szLen aColumns.length (1048576 : Int))) ∧ ((M.szLen aColumns.length (1048576 : Int)) ≤ 1048576) ∧ cond (decide ((M.szS M.szPart aE (M.szLen aColumns.length (1048576 : Int))) < Z0)) (K (dB true) []) ((Sm TCS aColumns) ∧ (∀ r1 : LC, r1 = aColumns → (Sm TPS aE) ∧ (∀ r2 : LPt, r2 = aE → (Sm TCS r1) ∧ (Sm TPS r2) ∧ (∀ r3 : LPt, r3 = (M.exprFolded r1 r2) → (Sm TCS aColumns) ∧ (∀ r4 : LC, r4 = aColumns → (Sm TPS aE) ∧ (∀ r5 : LPt, r5 = aE → (Sm TCS r4) ∧ (Sm TPS r5) ∧ (∀ r6 : LPt, r6 = (M.exprFolded r4 r5) → (Sm TPS (cutList r6 (some (Z0, (r6.length : Int))))) ∧ (Sm TPS r3) ∧ ((cutList r6 (some (Z0, (r6.length : Int)))) = r3) ∧ cond (!true) (K (dB false) []) ((Sm TCS aColumns) ∧ (∀ r7 : LC, r7 = aColumns → (Sm TCS r4) ∧ (Sm TCS r7) ∧ (r4 = r7) ∧ cond (!true) (K (dB false) []) ((Sm TPS aE) ∧ (∀ r8 : LPt, r8 = aE → (Sm TPS r5) ∧ (Sm TPS r8) ∧ (r5 = r8) ∧ cond (!true) (K (dB false) []) (((r4.length : Int) = (r4.length : Int)) ∧ (Ln TCS r4) ∧ (0 ≤ Z1) ∧ (Z1 + (M.count TCS r4 : Int) ≤ M.big) ∧ (∀ r9 : LC × Int, r9 = (M.mark TCS r4 Z1, Z1 + (M.count TCS r4 : Int)) → (r9.1.length = r4.length) ∧ ((r5.length : Int) = (r5.length : Int)) ∧ (Ln TPS r5) ∧ (0 ≤ r9.2) ∧ (r9.2 + (M.count TPS r5 : Int) ≤ M.big) ∧ (∀ r10 : LPt × Int, r10 = (M.mark TPS r5 r9.2, r9.2 + (M.count TPS r5 : Int)) → (r10.1.length = r5.length) ∧ cond ((decide (r10.2 < Z0)) == false) ((Sm TPS (cutList r6 (some (Z0, (r6.length : Int))))) ∧ (Sm TPS r3) ∧ ((cutList r6 (some (Z0, (r6.length : Int)))) = r3) ∧ cond (!true) (K (dB false) []) (((r6.length : Int) = (r6.length : Int)) ∧ ((r6.length : Int) = (r6.length : Int)) ∧ (Ln TPS r6) ∧ (0 ≤ Z1) ∧ (Z1 + (M.count TPS r6 : Int) ≤ M.big) ∧ (∀ r11 : LPt × Int, r11 = (M.mark TPS r6 Z1, Z1 + (M.count TPS r6 : Int)) → (r11.1.length = r6.length) ∧ (Ln TPS (cutList r11.1 (some (Z0, (r6.length : Int))))) ∧ (0 ≤ Z1) ∧ (Z1 + (M.count TPS (cutList r11.1 (some (Z0, (r6.length : Int)))) : Int) ≤ M.big) ∧ (M.mark TPS (cutList r11.1 (some (Z0, (r6.length : Int)))) Z1 = (cutList r11.1 (some (Z0, (r6.length : Int))))) ∧ cond (decide ((Z1 + (M.count TPS (cutList r11.1 (some (Z0, (r6.length : Int)))) : Int)) < Z0)) (K (dB false) []) (cond (!decide ((Z1 + (M.count TPS (cutList r11.1 (some (Z0, (r6.length : Int)))) : Int)) = r11.2)) (K (dB false) []) ((Sm TCS aColumns) ∧ (∀ r12 : LC, r12 = aColumns → (Sm TPS aE) ∧ (∀ r13 : LPt, r13 = aE → (Sm TCS r12) ∧ (Sm TPS r13) ∧ (∀ r14 : LPt, r14 = (M.exprFolded r12 r13) → (Sm TPS (cutList r14 (some (Z0, (r14.length : Int))))) ∧ (Sm TPS r3) ∧ ((cutList r14 (some (Z0, (r14.length : Int)))) = r3) ∧ cond (!true) (K (dB false) []) ((Ln TPS (cutList r11.1 (some (Z0, (r6.length : Int))))) ∧ (0 ≤ Z1) ∧ (Z1 + (M.count TPS (cutList r11.1 (some (Z0, (r6.length : Int)))) : Int) ≤ M.big) ∧ (M.mark TPS (cutList r11.1 (some (Z0, (r6.length : Int)))) Z1 = (cutList r11.1 (some (Z0, (r6.length : Int))))) ∧ cond (decide ((Z1 + (M.count TPS (cutList r11.1 (some (Z0, (r6.length : Int)))) : Int)) < Z0)) (K (dB false) []) (cond (!decide ((Z1 + (M.count TPS (cutList r11.1 (some (Z0, (r6.length : Int)))) : Int)) = r11.2)) (K (dB false) []) (K (dB true) []))))))))))) (K (dB false) []))))))))))))))))) := by kernel_rfl
theorem con3_ok : Con1 P 3 c3 := conR C3 func3 (kC con5_ok (kC con6_ok (kC con7_ok (kC con8_ok (kC con9_ok (kC con10_ok (kC con11_ok (kC con12_ok (kC con13_ok (kC con14_ok (kC con15_ok kN))))))))))) fun args hp K h0 => by
 obtain ⟨aColumns, aE, rfl, rfl, h_aColumns, h_aE, hK⟩ := g2e h0
 have h : ok (F.laws_FnExactExprFolded aColumns aE) (fun r => K (dB r) []) := ok_of_eq (F.laws_FnExactExprFolded_eq aColumns aE h_aColumns h_aE) hK
 refine ⟨rfl, ann3, noLoops, (.dat Ty.bool), (no_loops (by kernel_rfl)), ?_⟩
 ·rw [vc3]
  exact ⟨h_aColumns, (oG h fun _ h => (oG h fun _ h => (oC h (fun _ h => h) fun _ h => ⟨h_aE, (oG h fun _ h => (oG h fun _ h => (oC h (fun _ h => h) fun _ h => (oG h fun g1 h => (oL h fun _ _ h => (oG h fun g2 h => (oL h fun _ _ h => (oG h fun _ h => (oG h fun _ h => (oL h fun _ _ h => ⟨g1, (oL h fun _ _ h => ⟨g2, (oL h fun _ _ h => (oG h fun g3 h => (oG h fun g4 h => (oL h fun _ _ h => (oG h fun g5 h => (oG h fun g6 h => (oG h fun g7 h => (oC h (fun _ h => h) fun b_16 h => ⟨g1, (oL h fun _ _ h => ⟨g3, (oG h fun _ h => (oG h fun _ h => (cond_f (unf (bnf b_16)) ⟨g2, (oL h fun _ _ h => ⟨g4, (oG h fun _ h => (oG h fun _ h => (cond_f (unf (bnf b_16)) ⟨rfl, (oG h fun _ h => (oG h fun g8 h => (oG h fun _ h => (oL h fun _ er9 h => ⟨(by rw [er9]; exact (M.mark_len TColumn _ _)), ⟨rfl, (oG h fun _ h => (oG h fun _ h => (oG h fun _ h => (oL h fun _ er10 h => ⟨(by rw [er10]; exact (M.mark_len TPart _ _)), (oC h (fun _ h => ⟨g5, ⟨g6, ⟨g7, (cond_f (unf (bnf b_16)) ⟨rfl, ⟨rfl, (oG h fun _ h => ⟨g8, (oG h fun _ h => (oL h fun _ er11 h => ⟨(by rw [er11]; exact (M.mark_len TPart _ _)), (oG h fun g9 h => ⟨g8, (oG h fun g10 h => (oG h fun g11 h => (oC h (fun _ h => h) fun b_36 h => (oC h (fun _ h => h) fun b_37 h => ⟨g1, (oL h fun _ _ h => ⟨g2, (oL h fun _ _ h => (oG h fun _ h => (oG h fun _ h => (oL h fun _ _ h => (oG h fun _ h => ⟨g6, (oG h fun _ h => (cond_f (unf (bnf b_16)) ⟨g9, ⟨g8, ⟨g10, ⟨g11, (cond_f b_36 (cond_f (unf (bnf b_37)) h))⟩⟩⟩⟩))⟩)))))⟩)⟩))))⟩)⟩))⟩)⟩⟩)⟩⟩⟩) fun _ h => h)⟩))))⟩⟩))))⟩)))⟩)⟩)))⟩)⟩))))))))⟩)⟩))))))))))⟩)))⟩
end Go.AE
