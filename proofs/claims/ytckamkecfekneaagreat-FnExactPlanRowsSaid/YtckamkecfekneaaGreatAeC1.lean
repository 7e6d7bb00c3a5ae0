/- Contracts. -/
import Derived.Test.YtckamkecfekneaaGreatAeSeat
import Derived.Test.YtckamkecfekneaaGreatAeEq
import Derived.Test.YtckamkecfekneaaGreatAeC0
namespace Go.AE
open Go Go.RowKit Go.Proofs.Tryz
set_option maxRecDepth 100000
set_option maxHeartbeats 2000000
set_option linter.unusedVariables false
def c173 : Con := ⟨[.dat TPart, .dat TVS, .lent TValue], fun args hp K => g3 (pD TPart) (pD TVS) (pB TValue) (fun p row inp => (Sm TPart p) ∧ (Sm TVS row) ∧ (Sm TVS inp) ∧ ((inp.length : Int) = M.takes p) ∧ (M.colIn p row.length) ∧ (1 ≤ p.1 ∧ p.1 ≤ 8) ∧ (∀ r : TValue.D, r = (M.partValue p row inp) → K (.data TValue r) [])) args hp, .plain⟩
@[reducible] def C173 : Ctx := cx [(145, c145), (190, c190), (194, c194), (195, c195), (196, c196), (197, c197), (198, c198), (199, c199)] 103 [] 0 false
def ann173 := an [[.fixRow 3 TPart, kp 78], [kp 590], [kp 1614], [kp 64], [kp 16974], [kp 64], [kp 2097740], [.fixRow 7 TValue, kp 196], [.keep [6, 7, 49]], [kp 64], [kp 64], [kp 4503599627371084], [kp 64], [.keep [2, 6, 9, 64]], [kp 64], [.keep [2, 6, 9, 76]], [kp 64], [.keep [2, 6, 88]], [kp 64], [kp 64]] []
theorem vc173 (p : TPart.D) (row : LV) (inp : LV) (K : KA) : vcT C173 noLoops ann173 f173 [.data TPart p, .data TVS row, .brw TValue inp] [] (.dat TValue) K =
 (cond (decide (p.1 = Z1)) (K (.data TValue p.2.2.1) []) (cond (decide (p.1 = Z2)) ((0 ≤ p.2.1) ∧ (p.2.1 < (row.length : Int)) ∧ K (.data TValue (nV row p.2.1)) []) (cond (decide (p.1 = Z3)) ((0 ≤ Z0) ∧ (Z0 < (inp.length : Int)) ∧ (0 ≤ Z1) ∧ (Z1 < (inp.length : Int)) ∧ (0 ≤ Z0) ∧ (Z0 < (inp.length : Int)) ∧ cond ((decide ((nV inp Z0).1 = Z0)) == false) ((0 ≤ Z1) ∧ (Z1 < (inp.length : Int)) ∧ cond ((decide ((nV inp Z1).1 = Z0)) == false) ((Sm TValue (Z1, (wrap64 ((nV inp Z0).2.1 + (nV inp Z1).2.1), ((⟨#[]⟩ : ByteArray), ())))) ∧ cond (!(M.valueOk (Z1, (wrap64 ((nV inp Z0).2.1 + (nV inp Z1).2.1), ((⟨#[]⟩ : ByteArray), ()))))) (K (.data TValue (Z0, (Z0, ((⟨#[]⟩ : ByteArray), ())))) []) (K (.data TValue (Z1, (wrap64 ((nV inp Z0).2.1 + (nV inp Z1).2.1), ((⟨#[]⟩ : ByteArray), ())))) [])) (K (.data TValue (Z0, (Z0, ((⟨#[]⟩ : ByteArray), ())))) [])) (K (.data TValue (Z0, (Z0, ((⟨#[]⟩ : ByteArray), ())))) [])) (cond (decide (p.1 = Z4)) ((0 ≤ Z0) ∧ (Z0 < (inp.length : Int)) ∧ (0 ≤ Z1) ∧ (Z1 < (inp.length : Int)) ∧ (Sm TValue (nV inp Z0)) ∧ (Sm TValue (nV inp Z1)) ∧ (∀ r1 : TValue.D, r1 = (M.valueOf (M.compare p.2.1 (nV inp Z0) (nV inp Z1))) → K (.data TValue r1) [])) (cond (decide (p.1 = Z5)) ((0 ≤ Z0) ∧ (Z0 < (inp.length : Int)) ∧ (0 ≤ Z1) ∧ (Z1 < (inp.length : Int)) ∧ (Sm TValue (nV inp Z0)) ∧ (Sm TValue (nV inp Z1)) ∧ (∀ r2 : TValue.D, r2 = (M.valueOf (M.andOf (M.truthOf (nV inp Z0)) (M.truthOf (nV inp Z1)))) → K (.data TValue r2) [])) (cond (decide (p.1 = Z6)) ((0 ≤ Z0) ∧ (Z0 < (inp.length : Int)) ∧ (0 ≤ Z1) ∧ (Z1 < (inp.length : Int)) ∧ (Sm TValue (nV inp Z0)) ∧ (Sm TValue (nV inp Z1)) ∧ (∀ r3 : TValue.D, r3 = (M.valueOf (M.orOf (M.truthOf (nV inp Z0)) (M.truthOf (nV inp Z1)))) → K (.data TValue r3) [])) (cond (decide (p.1 = (7 : Int))) ((0 ≤ Z0) ∧ (Z0 < (inp.length : Int)) ∧ (Sm TValue (nV inp Z0)) ∧ (∀ r4 : TValue.D, r4 = (M.valueOf (M.notOf (M.truthOf (nV inp Z0)))) → K (.data TValue r4) [])) ((0 ≤ Z0) ∧ (Z0 < (inp.length : Int)) ∧ (∀ r5 : TValue.D, r5 = (M.valueOf (M.bool (decide ((nV inp Z0).1 = Z0)))) → K (.data TValue r5) []))))))))) := by kernel_rfl
theorem con173_ok : Con1 P 173 c173 := conR C173 func173 (kC con145_ok (kC con190_ok (kC con194_ok (kC con195_ok (kC con196_ok (kC con197_ok (kC con198_ok (kC con199_ok kN)))))))) fun args hp K h0 => by
 obtain ⟨p, row, inp, rfl, rfl, h_p, h_row, h_inp, p0, p1, p2, hK⟩ := g3e h0
 have h : ok (F.impl_Part_value p row inp) (fun r => K (.data TValue r) []) := ok_of_eq (F.impl_Part_value_eq p row inp h_p h_row h_inp p0 p1 p2) (hK _ rfl)
 refine ⟨rfl, ann173, noLoops, (.dat TValue), (no_loops (by kernel_rfl)), ?_⟩
 ·rw [vc173]
  exact (oC h (fun _ h => h) fun _ h => (oC h (fun _ h => (oG h fun _ h => (oG h fun _ h => h))) fun _ h => (oC h (fun _ h => ⟨(Int.natCast_nonneg 0), (oG h fun g1 h => ⟨(Int.natCast_nonneg 1), (oG h fun g2 h => ⟨(Int.natCast_nonneg 0), ⟨g1, (oC h (fun _ h => ⟨(Int.natCast_nonneg 1), ⟨g2, (oC h (fun _ h => ⟨(show Sm TValue _ from ⟨trivial, (show Sm (Ty.pair TInt (Ty.pair Ty.str Ty.unit)) _ from ⟨trivial, (show Sm (Ty.pair Ty.str Ty.unit) _ from ⟨(Nat.le_of_ble_eq_true rfl), trivial⟩)⟩)⟩), (oC h (fun _ h => h) fun _ h => h)⟩) fun _ h => h)⟩⟩) fun _ h => h)⟩⟩)⟩)⟩) fun _ h => (oC h (fun _ h => ⟨(Int.natCast_nonneg 0), (oG h fun _ h => ⟨(Int.natCast_nonneg 1), (oG h fun _ h => ⟨(sm_nth h_inp Z0), ⟨(sm_nth h_inp Z1), (oL h fun _ _ h => h)⟩⟩)⟩)⟩) fun _ h => (oC h (fun _ h => ⟨(Int.natCast_nonneg 0), (oG h fun _ h => ⟨(Int.natCast_nonneg 1), (oG h fun _ h => ⟨(sm_nth h_inp Z0), ⟨(sm_nth h_inp Z1), (oL h fun _ _ h => h)⟩⟩)⟩)⟩) fun _ h => (oC h (fun _ h => ⟨(Int.natCast_nonneg 0), (oG h fun _ h => ⟨(Int.natCast_nonneg 1), (oG h fun _ h => ⟨(sm_nth h_inp Z0), ⟨(sm_nth h_inp Z1), (oL h fun _ _ h => h)⟩⟩)⟩)⟩) fun _ h => (oC h (fun _ h => ⟨(Int.natCast_nonneg 0), (oG h fun _ h => ⟨(sm_nth h_inp Z0), (oL h fun _ _ h => h)⟩)⟩) fun _ h => ⟨(Int.natCast_nonneg 0), (oG h fun _ h => (oL h fun _ _ h => h))⟩)))))))
def c144 : Con := ⟨[.dat TVS, .dat TPS], fun args hp K => g2 (pD TVS) (pD TPS) (fun row e => (Sm TVS row) ∧ (Sm TPS e) ∧ (M.exprSafe row.length e) ∧ (∀ r : TValue.D, r = (M.exprValue row e) → K (.data TValue r) [])) args hp, .plain⟩
@[reducible] def C144 : Ctx := cx [(168, c168), (173, c173)] 37 [] 0 false
def ann144 := an [[kp 19], [kp 51], [kp 7217], [kp 15409], [.fixRow 7 TPart, kp 7345], [kp 7601], [.fixRow 9 TValue, kp 7985], [kp 7217], [kp 7217], [kp 16]] [[kp 48]]
@[reducible] def s144_0 (row : LV) (e : LPt) (i0 : Int) (v0 : LV) : St := ⟨[(0, .data TVS row), (4, .ptr 4 0), (5, .own 5 none), (10, .data TPS e), (11, dI (e.length : Int)), (12, dI i0)], [(4, .box [dI Z0, dI Z0, .data Ty.str (⟨#[]⟩ : ByteArray)]), (5, .arr false TValue v0)]⟩
@[reducible] def LP144_0 (row : LV) (e : LPt) (m : Nat) (st_ : St) (K : KX) : Prop := True ∧ LoopE (t := TPart) (s144_0 row e) e (F.impl_exprValue_l0 row e) (fun v0 : LV => True) (outD (fun v0 : LV => True → K (.exit 0) (⟨[(4, .ptr 4 0), (5, .own 5 none)], [(4, .box [dI Z0, dI Z0, .data Ty.str (⟨#[]⟩ : ByteArray)]), (5, .arr false TValue v0)]⟩ : St)) (fun _ => False)) m st_
def L144 (row : LV) (e : LPt) : Loops := lp1 0 (LP144_0 row e)
theorem vc144 (row : LV) (e : LPt) (K : KA) : vcT C144 (L144 row e) ann144 f144 [.data TVS row, .data TPS e] [] (.dat TValue) K =
 (∃ m_, True ∧ LoopE (t := TPart) (s144_0 row e) e (F.impl_exprValue_l0 row e) (fun v0 : LV => True) (outD (fun v0 : LV => True → (0 ≤ Z0) ∧ (Z0 < (v0.length : Int)) ∧ K (.data TValue (nV v0 Z0)) []) (fun _ => False)) m_ (s144_0 row e Z0 [])) := by kernel_rfl
@[reducible] def S144l0_0 (row : LV) (e : LPt)  (i0 : Int) (v0 : LV) (m : Nat) (K : KX) : Prop := (Sm TPart (nP e i0)) ∧ (Sm TVS row) ∧ (Sm TVS (cutList v0 (some (wrap64 ((v0.length : Int) - (M.takes (nP e i0))), (v0.length : Int))))) ∧ (((cutList v0 (some (wrap64 ((v0.length : Int) - (M.takes (nP e i0))), (v0.length : Int)))).length : Int) = M.takes (nP e i0)) ∧ (M.colIn (nP e i0) row.length) ∧ (1 ≤ (nP e i0).1 ∧ (nP e i0).1 ≤ 8) ∧ (∀ r1 : TValue.D, r1 = (M.partValue (nP e i0) row (cutList v0 (some (wrap64 ((v0.length : Int) - (M.takes (nP e i0))), (v0.length : Int))))) → (0 ≤ Z0) ∧ (Z0 ≤ wrap64 ((v0.length : Int) - (M.takes (nP e i0)))) ∧ (wrap64 ((v0.length : Int) - (M.takes (nP e i0))) ≤ (v0.length : Int)) ∧ (wrap64 ((v0.length : Int) - (M.takes (nP e i0))) = wrap64 ((v0.length : Int) - (M.takes (nP e i0)))) ∧ (Z0 = 0) ∧ (((wrap64 ((v0.length : Int) - (M.takes (nP e i0)))).toNat + [r1].length) * 32 ≤ lim) ∧ (nxT (LP144_0 row e) m K (s144_0 row e (wrap64 (i0 + Z1)) (v0.take (wrap64 ((v0.length : Int) - (M.takes (nP e i0)))).toNat ++ [r1]))))
theorem lvc144_0 (row : LV) (e : LPt)  (i0 : Int) (v0 : LV) (m : Nat) (K : KX) : lvT C144 (L144 row e) ann144 f144 0 0 (s144_0 row e i0 v0) m K =
 (cond (decide (i0 < (e.length : Int))) ((0 ≤ i0) ∧ (i0 < (e.length : Int)) ∧ (Sm TPart (nP e i0)) ∧ (0 ≤ wrap64 ((v0.length : Int) - (M.takes (nP e i0)))) ∧ (wrap64 ((v0.length : Int) - (M.takes (nP e i0))) ≤ (v0.length : Int)) ∧ ((v0.length : Int) ≤ (v0.length : Int)) ∧ ((v0.length : Int) = (v0.length : Int)) ∧ (S144l0_0  row e i0 v0 m K) ∧ (S144l0_0  row e i0 v0 m K)) (K (.exit 0) (⟨[(4, .ptr 4 0), (5, .own 5 none)], [(4, .box [dI Z0, dI Z0, .data Ty.str (⟨#[]⟩ : ByteArray)]), (5, .arr false TValue v0)]⟩ : St))) := by kernel_rfl
theorem con144_ok : Con1 P 144 c144 := conR C144 func144 (kC con168_ok (kC con173_ok kN)) fun args hp K h0 => by
 obtain ⟨row, e, rfl, rfl, h_row, h_e, p0, hK⟩ := g2e h0
 have h : ok (F.impl_exprValue row e) (fun r => K (.data TValue r) []) := ok_of_eq (F.impl_exprValue_eq row e h_row h_e p0) (hK _ rfl)
 refine ⟨rfl, ann144, (L144 row e), (.dat TValue), (loopsN1 (i0 := 0) (by kernel_rfl) ?_), ?_⟩
 ·rintro _ _ K ⟨hc0, i0, v0, rfl, hl0, rfl, hv0, h⟩
  exact cast (lvc144_0 _ _ _ _ _ _).symm (loopE_step (t := TPart) hl0 h (fun ht0 h => ⟨hl0, ⟨ht0, ⟨(sm_nth h_e i0), (oG h fun _ h => (oG h fun g1 h => ⟨(Int.le_refl _), ⟨rfl, ((fun (g12_0 : Sm TVS (cutList v0 (some (wrap64 ((v0.length : Int) - (M.takes (nP e i0))), (v0.length : Int))))) => (fun (g12_1 : ((cutList v0 (some (wrap64 ((v0.length : Int) - (M.takes (nP e i0))), (v0.length : Int)))).length : Int) = M.takes (nP e i0)) => (fun (g12_2 : M.colIn (nP e i0) row.length) => (fun (g12_3 : 1 ≤ (nP e i0).1 ∧ (nP e i0).1 ≤ 8) => ⟨⟨(sm_nth h_e i0), ⟨h_row, ⟨g12_0, have g2 := g12_0; ⟨g12_1, have g3 := g12_1; ⟨g12_2, have g4 := g12_2; ⟨g12_3, have g5 := g12_3; (fun r1 er1 => (have h := (ok_let (ok_guard (ok_guard (ok_guard (ok_guard h).2).2).2).2 r1 er1); ⟨(Int.natCast_nonneg 0), (oG h fun _ h => ⟨g1, ⟨rfl, ⟨rfl, (oG h fun _ h => (loopE_next (t := TPart) (fun _ hm => ⟨hc0, hm⟩) _ rfl hl0 ht0 (sm_len h_e) trivial h))⟩⟩⟩)⟩))⟩⟩⟩⟩⟩⟩, ⟨(sm_nth h_e i0), ⟨h_row, ⟨g12_0, have g6 := g12_0; ⟨g12_1, have g7 := g12_1; ⟨g12_2, have g8 := g12_2; ⟨g12_3, have g9 := g12_3; (fun r1 er1 => (have h := (ok_let (ok_guard (ok_guard (ok_guard (ok_guard h).2).2).2).2 r1 er1); ⟨(Int.natCast_nonneg 0), (oG h fun _ h => ⟨g1, ⟨rfl, ⟨rfl, (oG h fun _ h => (loopE_next (t := TPart) (fun _ hm => ⟨hc0, hm⟩) _ rfl hl0 ht0 (sm_len h_e) trivial h))⟩⟩⟩)⟩))⟩⟩⟩⟩⟩⟩⟩) (ok_guard (ok_guard (ok_guard (ok_guard h).2).2).2).1) (ok_guard (ok_guard (ok_guard h).2).2).1) (ok_guard (ok_guard h).2).1) (ok_guard h).1)⟩⟩))⟩⟩⟩) fun h => (h trivial))
 ·rw [vc144]
  exact (loopE_start (t := TPart) (fun m hm => ⟨trivial, hm⟩) _ rfl trivial (ok_then h (fun v0 h hv0 => ⟨(Int.natCast_nonneg 0), (oG h fun _ h => h)⟩) (fun _ h => h.elim)))
def c103 : Con := ⟨[.dat TVS, .dat TPS], fun args hp K => g2 (pD TVS) (pD TPS) (fun row e => (Sm TVS row) ∧ (Sm TPS e) ∧ (M.exprSafe row.length e) ∧ K (dB (M.holds row e)) []) args hp, .plain⟩
@[reducible] def C103 : Ctx := cx [(144, c144), (145, c145)] 10 [] 0 false
def ann103 := an [[kp 3], [kp 16]] []
theorem vc103 (row : LV) (e : LPt) (K : KA) : vcT C103 noLoops ann103 f103 [.data TVS row, .data TPS e] [] (.dat Ty.bool) K =
 ((Sm TVS row) ∧ (Sm TPS e) ∧ (M.exprSafe row.length e) ∧ (∀ r1 : TValue.D, r1 = (M.exprValue row e) → (∀ r2 : TValue.D, r2 = (M.valueOf Z1) → K (dB (Ty.beq TValue r1 r2)) []))) := by kernel_rfl
theorem con103_ok : Con1 P 103 c103 := conR C103 func103 (kC con144_ok (kC con145_ok kN)) fun args hp K h0 => by
 obtain ⟨row, e, rfl, rfl, h_row, h_e, p0, hK⟩ := g2e h0
 have h : ok (F.impl_exprHolds row e) (fun r => K (dB r) []) := ok_of_eq (F.impl_exprHolds_eq row e h_row h_e p0) hK
 refine ⟨rfl, ann103, noLoops, (.dat Ty.bool), (no_loops (by kernel_rfl)), ?_⟩
 ·rw [vc103]
  exact ⟨h_row, ⟨h_e, ⟨p0, (oL h fun _ _ h => (oL h fun _ _ h => h))⟩⟩⟩
@[reducible] def C149 : Ctx := cx [] 9 [] 400000 true
def T149 : Inl := inlT C149 (fun _ => []) (bodyOf f149) f149.results.toList
theorem inlOk149 : Inl1 P 149 T149 := inlR C149 func149 kN
def c108 : Con := ⟨[.dat TVS], fun args hp K => g1 (pD TVS) (fun xs => (Sm TVS xs) ∧ (∀ r : LV, r = xs → K (.clp 0 (r.length : Int)) [(0, .arr false TValue r)])) args hp, .bor⟩
@[reducible] def C108 : Ctx := cx [] 9 [(149, T149)] 0 true
def ann108 := an [[kp 1], [kp 33], [.clip 2, kp 4], [kp 4]] []
theorem vc108 (xs : LV) (K : KA) : vcT C108 noLoops ann108 f108 [.data TVS xs] [] .raw K =
 (cond (decide ((xs.length : Int) = Z0)) (K (.clp 0 (([] : List TValue.D).length : Int)) [(0, .arr false TValue ([] : List TValue.D))]) ((xs.length * 32 ≤ lim) ∧ (0 ≤ Z0) ∧ (Z0 ≤ (xs.length : Int)) ∧ ((xs.length : Int) ≤ (xs.length : Int)) ∧ ((xs.length : Int) = (xs.length : Int)) ∧ (Z0 = 0) ∧ K (.clp 0 ((xs.take (xs.length : Int).toNat).length : Int)) [(0, .arr false TValue (xs.take (xs.length : Int).toNat))])) := by kernel_rfl
theorem con108_ok : Con1 P 108 c108 := conR C108 func108 (kI inlOk149 kN) fun args hp K h0 => by
 obtain ⟨xs, rfl, rfl, h_xs, hK⟩ := g1e h0
 have h : ok (F.clone_TValue xs) (fun r => K (.clp 0 (r.length : Int)) [(0, .arr false TValue r)]) := ok_of_eq (F.clone_TValue_eq xs h_xs) (hK _ rfl)
 refine ⟨rfl, ann108, noLoops, .raw, (no_loops (by kernel_rfl)), ?_⟩
 ·rw [vc108]
  exact (oC h (fun _ h => h) fun _ h => ⟨(sm_lim h_xs rfl), ⟨(Int.natCast_nonneg 0), ⟨(Int.natCast_nonneg _), ⟨(Int.le_refl _), ⟨rfl, ⟨rfl, h⟩⟩⟩⟩⟩⟩)
def c104 : Con := ⟨[.dat TVS, .dat (Ty.sl TInt)], fun args hp K => g2 (pD TVS) (pD (Ty.sl TInt)) (fun row list => (Sm TVS row) ∧ (Sm (Ty.sl TInt) list) ∧ (M.inRow row list) ∧ (∀ r : LV, r = (M.taken row list) → K (.data TVS r) [])) args hp, .plain⟩
@[reducible] def C104 : Ctx := cx [(108, c108)] 24 [] 0 false
def ann104 := an [[kp 3], [kp 35], [kp 1825], [kp 3873], [kp 1953], [kp 1825], [kp 1825], [.freeze 23, kp 16]] [[kp 32]]
@[reducible] def s104_0 (row : LV) (list : (List Int)) (i0 : Int) (v0 : LV) : St := ⟨[(0, .data TVS row), (5, .own 5 none), (8, .data (Ty.sl TInt) list), (9, dI (list.length : Int)), (10, dI i0)], [(5, .arr false TValue v0)]⟩
@[reducible] def LP104_0 (row : LV) (list : (List Int)) (m : Nat) (st_ : St) (K : KX) : Prop := True ∧ LoopE (t := TInt) (s104_0 row list) list (F.impl_taken_l0 row list) (fun v0 : LV => True) (outD (fun v0 : LV => True → K (.exit 0) (⟨[(5, .own 5 none)], [(5, .arr false TValue v0)]⟩ : St)) (fun _ => False)) m st_
def L104 (row : LV) (list : (List Int)) : Loops := lp1 0 (LP104_0 row list)
theorem vc104 (row : LV) (list : (List Int)) (K : KA) : vcT C104 (L104 row list) ann104 f104 [.data TVS row, .data (Ty.sl TInt) list] [] (.dat TVS) K =
 (∃ m_, True ∧ LoopE (t := TInt) (s104_0 row list) list (F.impl_taken_l0 row list) (fun v0 : LV => True) (outD (fun v0 : LV => True → (Sm TVS v0) ∧ (∀ r1 : LV, r1 = v0 → K (.data TVS (cutList r1 (some (Z0, (r1.length : Int))))) [])) (fun _ => False)) m_ (s104_0 row list Z0 [])) := by kernel_rfl
theorem lvc104_0 (row : LV) (list : (List Int))  (i0 : Int) (v0 : LV) (m : Nat) (K : KX) : lvT C104 (L104 row list) ann104 f104 0 0 (s104_0 row list i0 v0) m K =
 (cond (decide (i0 < (list.length : Int))) ((0 ≤ i0) ∧ (i0 < (list.length : Int)) ∧ (0 ≤ (nI list i0)) ∧ ((nI list i0) < (row.length : Int)) ∧ ((v0.length + [(nV row (nI list i0))].length) * 32 ≤ lim) ∧ (nxT (LP104_0 row list) m K (s104_0 row list (wrap64 (i0 + Z1)) (v0 ++ [(nV row (nI list i0))])))) (K (.exit 0) (⟨[(5, .own 5 none)], [(5, .arr false TValue v0)]⟩ : St))) := by kernel_rfl
theorem con104_ok : Con1 P 104 c104 := conR C104 func104 (kC con108_ok kN) fun args hp K h0 => by
 obtain ⟨row, list, rfl, rfl, h_row, h_list, p0, hK⟩ := g2e h0
 have h : ok (F.impl_taken row list) (fun r => K (.data TVS r) []) := ok_of_eq (F.impl_taken_eq row list h_row h_list p0) (hK _ rfl)
 refine ⟨rfl, ann104, (L104 row list), (.dat TVS), (loopsN1 (i0 := 0) (by kernel_rfl) ?_), ?_⟩
 ·rintro _ _ K ⟨hc0, i0, v0, rfl, hl0, rfl, hv0, h⟩
  exact cast (lvc104_0 _ _ _ _ _ _).symm (loopE_step (t := TInt) hl0 h (fun ht0 h => ⟨hl0, ⟨ht0, (oG h fun _ h => (oG h fun _ h => (oG h fun _ h => (loopE_next (t := TInt) (fun _ hm => ⟨hc0, hm⟩) _ rfl hl0 ht0 (sm_len h_list) trivial h))))⟩⟩) fun h => (h trivial))
 ·rw [vc104]
  exact (loopE_start (t := TInt) (fun m hm => ⟨trivial, hm⟩) _ rfl trivial (ok_then h (fun v0 h hv0 => (oG h fun _ h => (oL h fun _ _ h => h))) (fun _ h => h.elim)))
def c174 : Con := ⟨[.any, .dat TInt], fun args hp K => args2 (fun a0 a1 => withN a0 (withD TInt a1 fun n => (0 ≤ n) ∧ (n ≤ 1099511627776) ∧ (∀ r : LV, r = ([] : List TValue.D) → K (.own 0 none) [(0, .arr false TValue r)]))) args hp, .plain⟩
@[reducible] def C174 : Ctx := cx [] 27 [] 0 false
def ann174 := an [[kp 3], [kp 67], [kp 3], [kp 3], [kp 65539], [kp 1], [kp 16]] []
theorem vc174 (n : Int) (K : KA) : vcT C174 noLoops ann174 f174 [.cst (.slice none 0 0), dI n] [] .raw K =
 (cond (decide (n < Z0)) False (cond (decide (Z0 < wrap64 (n - (wrap64 (Z0 - Z0))))) ((0 ≤ Z0) ∧ (Z0 ≤ Z0) ∧ (Z0 ≤ Z0) ∧ (Z0 = Z0) ∧ (0 ≤ wrap64 (n - (wrap64 (Z0 - Z0)))) ∧ ((wrap64 (n - (wrap64 (Z0 - Z0)))) * 32 ≤ (lim : Int)) ∧ (0 ≤ Z0) ∧ (Z0 ≤ Z0) ∧ (Z0 ≤ ((List.replicate (wrap64 (n - (wrap64 (Z0 - Z0)))).toNat (Z0, (Z0, ((⟨#[]⟩ : ByteArray), ())))).length : Int)) ∧ (Z0 = Z0) ∧ (Z0 = 0) ∧ K (.own 0 none) [(0, .arr false TValue ((List.replicate (wrap64 (n - (wrap64 (Z0 - Z0)))).toNat (Z0, (Z0, ((⟨#[]⟩ : ByteArray), ())))).take Z0.toNat))]) (K (.own 0 none) [(0, .arr false TValue [])]))) := by kernel_rfl
theorem con174_ok : Con1 P 174 c174 := conR C174 func174 kN fun args hp K h0 => by
 obtain ⟨a0, a1, rfl, rfl, h1⟩ := args2_elim h0
 obtain ⟨rfl, h2⟩ := withN_elim h1
 obtain ⟨n, rfl, h3⟩ := withD_elim h2
 obtain ⟨p0, p1, hK⟩ := h3
 have h : ok (F.Grow_TValue n) (fun r => K (.own 0 none) [(0, .arr false TValue r)]) := ok_of_eq (F.Grow_TValue_eq n p0 p1) (hK _ rfl)
 refine ⟨rfl, ann174, noLoops, .raw, (no_loops (by kernel_rfl)), ?_⟩
 ·rw [vc174]
  exact (oC h (fun _ h => h) fun _ h => (oC h (fun _ h => ⟨(Int.natCast_nonneg 0), ⟨(Int.le_refl _), ⟨(Int.le_refl _), ⟨rfl, (oG h fun _ h => (oG h fun _ h => ⟨(Int.natCast_nonneg 0), ⟨(Int.le_refl _), ⟨(Int.natCast_nonneg _), ⟨rfl, ⟨rfl, h⟩⟩⟩⟩⟩))⟩⟩⟩⟩) fun _ h => h))
def c146 : Con := ⟨[.dat (Ty.sl TVS)], fun args hp K => g1 (pD (Ty.sl TVS)) (fun xss => (Sm (Ty.sl TVS) xss) ∧ (∀ r : LV, r = (List.flatten xss) → K (.own 0 none) [(0, .arr false TValue r)])) args hp, .plain⟩
@[reducible] def C146 : Ctx := cx [(174, c174)] 36 [] 0 false
def ann146 := an [[kp 1], [kp 9], [kp 3593], [kp 7689], [kp 3625], [kp 3593], [kp 1052169], [kp 3593], [kp 3593], [kp 65], [kp 234881088], [kp 503316544], [kp 234881344], [kp 234881088], [kp 234881088], [kp 4]] [[kp 9], [], [kp 64]]
@[reducible] def s146_0 (xss : (List LV)) (i0 : Int) (v0 : Int) : St := ⟨[(0, .data (Ty.sl TVS) xss), (3, dI v0), (9, .data (Ty.sl TVS) xss), (10, dI (xss.length : Int)), (11, dI i0)], []⟩
@[reducible] def LP146_0 (xss : (List LV)) (m : Nat) (st_ : St) (K : KX) : Prop := True ∧ LoopE (t := TVS) (s146_0 xss) xss (F.Concat_TValue_l0 xss) (fun v0 : Int => True) (outD (fun v0 : Int => True → K (.exit 0) (⟨[(0, .data (Ty.sl TVS) xss), (3, dI v0)], []⟩ : St)) (fun _ => False)) m st_
@[reducible] def s146_2 (xss : (List LV)) (i2 : Int) (v2 : LV) : St := ⟨[(6, .own 24 none), (25, .data (Ty.sl TVS) xss), (26, dI (xss.length : Int)), (27, dI i2)], [(24, .arr false TValue v2)]⟩
@[reducible] def LP146_2 (xss : (List LV)) (m : Nat) (st_ : St) (K : KX) : Prop := True ∧ LoopE (t := TVS) (s146_2 xss) xss (F.Concat_TValue_l2 xss) (fun v2 : LV => True) (outD (fun v2 : LV => True → K (.exit 2) (⟨[(6, .own 24 none)], [(24, .arr false TValue v2)]⟩ : St)) (fun _ => False)) m st_
def L146 (xss : (List LV)) : Loops := lp2 0 (LP146_0 xss) 2 (LP146_2 xss)
theorem vc146 (xss : (List LV)) (K : KA) : vcT C146 (L146 xss) ann146 f146 [.data (Ty.sl TVS) xss] [] .raw K =
 (∃ m_, True ∧ LoopE (t := TVS) (s146_0 xss) xss (F.Concat_TValue_l0 xss) (fun v0 : Int => True) (outD (fun v0 : Int => True → (0 ≤ v0) ∧ (v0 ≤ 1099511627776) ∧ (∀ r1 : LV, r1 = ([] : List TValue.D) → (∃ m_, True ∧ LoopE (t := TVS) (s146_2 xss) xss (F.Concat_TValue_l2 xss) (fun v2 : LV => True) (outD (fun v2 : LV => True → K (.own 0 none) [(0, .arr false TValue v2)]) (fun _ => False)) m_ (s146_2 xss Z0 r1)))) (fun _ => False)) m_ (s146_0 xss Z0 Z0)) := by kernel_rfl
theorem lvc146_0 (xss : (List LV))  (i0 : Int) (v0 : Int) (m : Nat) (K : KX) : lvT C146 (L146 xss) ann146 f146 0 0 (s146_0 xss i0 v0) m K =
 (cond (decide (i0 < (xss.length : Int))) ((0 ≤ i0) ∧ (i0 < (xss.length : Int)) ∧ cond (decide (wrap64 (v0 + ((nth (t := TVS) xss i0).length : Int)) < Z0)) False (nxT (LP146_0 xss) m K (s146_0 xss (wrap64 (i0 + Z1)) (wrap64 (v0 + ((nth (t := TVS) xss i0).length : Int)))))) (K (.exit 0) (⟨[(0, .data (Ty.sl TVS) xss), (3, dI v0)], []⟩ : St))) := by kernel_rfl
theorem lvc146_1 (xss : (List LV))  (i2 : Int) (v2 : LV) (m : Nat) (K : KX) : lvT C146 (L146 xss) ann146 f146 1 2 (s146_2 xss i2 v2) m K =
 (cond (decide (i2 < (xss.length : Int))) ((0 ≤ i2) ∧ (i2 < (xss.length : Int)) ∧ ((v2.length + (nth (t := TVS) xss i2).length) * 32 ≤ lim) ∧ (nxT (LP146_2 xss) m K (s146_2 xss (wrap64 (i2 + Z1)) (v2 ++ (nth (t := TVS) xss i2))))) (K (.exit 2) (⟨[(6, .own 24 none)], [(24, .arr false TValue v2)]⟩ : St))) := by kernel_rfl
theorem con146_ok : Con1 P 146 c146 := conR C146 func146 (kC con174_ok kN) fun args hp K h0 => by
 obtain ⟨xss, rfl, rfl, h_xss, hK⟩ := g1e h0
 have h : ok (F.Concat_TValue xss) (fun r => K (.own 0 none) [(0, .arr false TValue r)]) := ok_of_eq (F.Concat_TValue_eq xss h_xss) (hK _ rfl)
 refine ⟨rfl, ann146, (L146 xss), .raw, (loopsN2 (i0 := 0) (i1 := 2) (by kernel_rfl) ?_ ?_), ?_⟩
 ·rintro _ _ K ⟨hc0, i0, v0, rfl, hl0, rfl, hv0, h⟩
  exact cast (lvc146_0 _ _ _ _ _).symm (loopE_step (t := TVS) hl0 h (fun ht0 h => ⟨hl0, ⟨ht0, (oC h (fun _ h => h) fun _ h => (loopE_next (t := TVS) (fun _ hm => ⟨hc0, hm⟩) _ rfl hl0 ht0 (sm_len h_xss) trivial h))⟩⟩) fun h => (h trivial))
 ·rintro _ _ K ⟨hc2, i2, v2, rfl, hl2, rfl, hv2, h⟩
  exact cast (lvc146_1 _ _ _ _ _).symm (loopE_step (t := TVS) hl2 h (fun ht2 h => ⟨hl2, ⟨ht2, (oG h fun _ h => (loopE_next (t := TVS) (fun _ hm => ⟨hc2, hm⟩) _ rfl hl2 ht2 (sm_len h_xss) trivial h))⟩⟩) fun h => (h trivial))
 ·rw [vc146]
  exact (loopE_start (t := TVS) (fun m hm => ⟨trivial, hm⟩) _ rfl trivial (ok_then h (fun v0 h hv0 => (oG h fun _ h => (oG h fun _ h => (oL h fun _ _ h => (loopE_start (t := TVS) (fun m hm => ⟨trivial, hm⟩) _ rfl trivial (ok_then h (fun v2 h hv2 => h) (fun _ h => h.elim))))))) (fun _ h => h.elim)))
def c105 : Con := ⟨[.dat TVS, .dat TVS], fun args hp K => g2 (pD TVS) (pD TVS) (fun a b => (Sm TVS a) ∧ (Sm TVS b) ∧ (a.length + b.length ≤ 1048576) ∧ (∀ r : LV, r = (a ++ b) → K (.clp 0 (r.length : Int)) [(0, .arr false TValue r)])) args hp, .bor⟩
@[reducible] def C105 : Ctx := cx [(108, c108), (146, c146)] 10 [] 0 false
def ann105 := an [[kp 3], [kp 16]] []
theorem vc105 (a : LV) (b : LV) (K : KA) : vcT C105 noLoops ann105 f105 [.data TVS a, .data TVS b] [] .raw K =
 ((Sm (Ty.sl TVS) [a, b]) ∧ (∀ r1 : LV, r1 = (List.flatten [a, b]) → (Sm TVS r1) ∧ (∀ r2 : LV, r2 = r1 → K (.clp 0 ((r2.take (r2.length : Int).toNat).length : Int)) [(0, .arr false TValue (r2.take (r2.length : Int).toNat))]))) := by kernel_rfl
theorem con105_ok : Con1 P 105 c105 := conR C105 func105 (kC con108_ok (kC con146_ok kN)) fun args hp K h0 => by
 obtain ⟨a, b, rfl, rfl, h_a, h_b, p0, hK⟩ := g2e h0
 have h : ok (F.impl_beside a b) (fun r => K (.clp 0 (r.length : Int)) [(0, .arr false TValue r)]) := ok_of_eq (F.impl_beside_eq a b h_a h_b p0) (hK _ rfl)
 refine ⟨rfl, ann105, noLoops, .raw, (no_loops (by kernel_rfl)), ?_⟩
 ·rw [vc105]
  exact (oG h fun _ h => (oL h fun _ _ h => (oG h fun _ h => (oL h fun _ _ h => h))))
def c147 : Con := ⟨[.any, .dat TInt], fun args hp K => args2 (fun a0 a1 => withN a0 (withD TInt a1 fun n => (0 ≤ n) ∧ (n ≤ 1099511627776) ∧ (∀ r : (List LV), r = ([] : List TVS.D) → K (.own 0 none) [(0, .arr false TVS r)]))) args hp, .plain⟩
@[reducible] def C147 : Ctx := cx [] 27 [] 0 false
def ann147 := an [[kp 3], [kp 67], [kp 3], [kp 3], [kp 65539], [kp 1], [kp 16]] []
theorem vc147 (n : Int) (K : KA) : vcT C147 noLoops ann147 f147 [.cst (.slice none 0 0), dI n] [] .raw K =
 (cond (decide (n < Z0)) False (cond (decide (Z0 < wrap64 (n - (wrap64 (Z0 - Z0))))) ((0 ≤ Z0) ∧ (Z0 ≤ Z0) ∧ (Z0 ≤ Z0) ∧ (Z0 = Z0) ∧ (0 ≤ wrap64 (n - (wrap64 (Z0 - Z0)))) ∧ ((wrap64 (n - (wrap64 (Z0 - Z0)))) * 24 ≤ (lim : Int)) ∧ (0 ≤ Z0) ∧ (Z0 ≤ Z0) ∧ (Z0 ≤ ((List.replicate (wrap64 (n - (wrap64 (Z0 - Z0)))).toNat ([] : List TValue.D)).length : Int)) ∧ (Z0 = Z0) ∧ (Z0 = 0) ∧ K (.own 0 none) [(0, .arr false TVS ((List.replicate (wrap64 (n - (wrap64 (Z0 - Z0)))).toNat ([] : List TValue.D)).take Z0.toNat))]) (K (.own 0 none) [(0, .arr false TVS [])]))) := by kernel_rfl
theorem con147_ok : Con1 P 147 c147 := conR C147 func147 kN fun args hp K h0 => by
 obtain ⟨a0, a1, rfl, rfl, h1⟩ := args2_elim h0
 obtain ⟨rfl, h2⟩ := withN_elim h1
 obtain ⟨n, rfl, h3⟩ := withD_elim h2
 obtain ⟨p0, p1, hK⟩ := h3
 have h : ok (F.Grow_STValue n) (fun r => K (.own 0 none) [(0, .arr false TVS r)]) := ok_of_eq (F.Grow_STValue_eq n p0 p1) (hK _ rfl)
 refine ⟨rfl, ann147, noLoops, .raw, (no_loops (by kernel_rfl)), ?_⟩
 ·rw [vc147]
  exact (oC h (fun _ h => h) fun _ h => (oC h (fun _ h => ⟨(Int.natCast_nonneg 0), ⟨(Int.le_refl _), ⟨(Int.le_refl _), ⟨rfl, (oG h fun _ h => (oG h fun _ h => ⟨(Int.natCast_nonneg 0), ⟨(Int.le_refl _), ⟨(Int.natCast_nonneg _), ⟨rfl, ⟨rfl, h⟩⟩⟩⟩⟩))⟩⟩⟩⟩) fun _ h => h))
def c106 : Con := ⟨[.dat (Ty.sl (Ty.sl TVS))], fun args hp K => g1 (pD (Ty.sl (Ty.sl TVS))) (fun xss => (Sm (Ty.sl (Ty.sl TVS)) xss) ∧ (∀ r : (List LV), r = (List.flatten xss) → K (.own 0 none) [(0, .arr false TVS r)])) args hp, .plain⟩
@[reducible] def C106 : Ctx := cx [(147, c147)] 36 [] 0 false
def ann106 := an [[kp 1], [kp 9], [kp 3593], [kp 7689], [kp 3625], [kp 3593], [kp 1052169], [kp 3593], [kp 3593], [kp 65], [kp 234881088], [kp 503316544], [kp 234881344], [kp 234881088], [kp 234881088], [kp 4]] [[kp 9], [], [kp 64]]
@[reducible] def s106_0 (xss : (List (List LV))) (i0 : Int) (v0 : Int) : St := ⟨[(0, .data (Ty.sl (Ty.sl TVS)) xss), (3, dI v0), (9, .data (Ty.sl (Ty.sl TVS)) xss), (10, dI (xss.length : Int)), (11, dI i0)], []⟩
@[reducible] def LP106_0 (xss : (List (List LV))) (m : Nat) (st_ : St) (K : KX) : Prop := True ∧ LoopE (t := (Ty.sl TVS)) (s106_0 xss) xss (F.Concat_STValue_l0 xss) (fun v0 : Int => True) (outD (fun v0 : Int => True → K (.exit 0) (⟨[(0, .data (Ty.sl (Ty.sl TVS)) xss), (3, dI v0)], []⟩ : St)) (fun _ => False)) m st_
@[reducible] def s106_2 (xss : (List (List LV))) (i2 : Int) (v2 : (List LV)) : St := ⟨[(6, .own 24 none), (25, .data (Ty.sl (Ty.sl TVS)) xss), (26, dI (xss.length : Int)), (27, dI i2)], [(24, .arr false TVS v2)]⟩
@[reducible] def LP106_2 (xss : (List (List LV))) (m : Nat) (st_ : St) (K : KX) : Prop := True ∧ LoopE (t := (Ty.sl TVS)) (s106_2 xss) xss (F.Concat_STValue_l2 xss) (fun v2 : (List LV) => True) (outD (fun v2 : (List LV) => True → K (.exit 2) (⟨[(6, .own 24 none)], [(24, .arr false TVS v2)]⟩ : St)) (fun _ => False)) m st_
def L106 (xss : (List (List LV))) : Loops := lp2 0 (LP106_0 xss) 2 (LP106_2 xss)
theorem vc106 (xss : (List (List LV))) (K : KA) : vcT C106 (L106 xss) ann106 f106 [.data (Ty.sl (Ty.sl TVS)) xss] [] .raw K =
 (∃ m_, True ∧ LoopE (t := (Ty.sl TVS)) (s106_0 xss) xss (F.Concat_STValue_l0 xss) (fun v0 : Int => True) (outD (fun v0 : Int => True → (0 ≤ v0) ∧ (v0 ≤ 1099511627776) ∧ (∀ r1 : (List LV), r1 = ([] : List TVS.D) → (∃ m_, True ∧ LoopE (t := (Ty.sl TVS)) (s106_2 xss) xss (F.Concat_STValue_l2 xss) (fun v2 : (List LV) => True) (outD (fun v2 : (List LV) => True → K (.own 0 none) [(0, .arr false TVS v2)]) (fun _ => False)) m_ (s106_2 xss Z0 r1)))) (fun _ => False)) m_ (s106_0 xss Z0 Z0)) := by kernel_rfl
theorem lvc106_0 (xss : (List (List LV)))  (i0 : Int) (v0 : Int) (m : Nat) (K : KX) : lvT C106 (L106 xss) ann106 f106 0 0 (s106_0 xss i0 v0) m K =
 (cond (decide (i0 < (xss.length : Int))) ((0 ≤ i0) ∧ (i0 < (xss.length : Int)) ∧ cond (decide (wrap64 (v0 + ((nth (t := (Ty.sl TVS)) xss i0).length : Int)) < Z0)) False (nxT (LP106_0 xss) m K (s106_0 xss (wrap64 (i0 + Z1)) (wrap64 (v0 + ((nth (t := (Ty.sl TVS)) xss i0).length : Int)))))) (K (.exit 0) (⟨[(0, .data (Ty.sl (Ty.sl TVS)) xss), (3, dI v0)], []⟩ : St))) := by kernel_rfl
theorem lvc106_1 (xss : (List (List LV)))  (i2 : Int) (v2 : (List LV)) (m : Nat) (K : KX) : lvT C106 (L106 xss) ann106 f106 1 2 (s106_2 xss i2 v2) m K =
 (cond (decide (i2 < (xss.length : Int))) ((0 ≤ i2) ∧ (i2 < (xss.length : Int)) ∧ ((v2.length + (nth (t := (Ty.sl TVS)) xss i2).length) * 24 ≤ lim) ∧ (nxT (LP106_2 xss) m K (s106_2 xss (wrap64 (i2 + Z1)) (v2 ++ (nth (t := (Ty.sl TVS)) xss i2))))) (K (.exit 2) (⟨[(6, .own 24 none)], [(24, .arr false TVS v2)]⟩ : St))) := by kernel_rfl
theorem con106_ok : Con1 P 106 c106 := conR C106 func106 (kC con147_ok kN) fun args hp K h0 => by
 obtain ⟨xss, rfl, rfl, h_xss, hK⟩ := g1e h0
 have h : ok (F.Concat_STValue xss) (fun r => K (.own 0 none) [(0, .arr false TVS r)]) := ok_of_eq (F.Concat_STValue_eq xss h_xss) (hK _ rfl)
 refine ⟨rfl, ann106, (L106 xss), .raw, (loopsN2 (i0 := 0) (i1 := 2) (by kernel_rfl) ?_ ?_), ?_⟩
 ·rintro _ _ K ⟨hc0, i0, v0, rfl, hl0, rfl, hv0, h⟩
  exact cast (lvc106_0 _ _ _ _ _).symm (loopE_step (t := (Ty.sl TVS)) hl0 h (fun ht0 h => ⟨hl0, ⟨ht0, (oC h (fun _ h => h) fun _ h => (loopE_next (t := (Ty.sl TVS)) (fun _ hm => ⟨hc0, hm⟩) _ rfl hl0 ht0 (sm_len h_xss) trivial h))⟩⟩) fun h => (h trivial))
 ·rintro _ _ K ⟨hc2, i2, v2, rfl, hl2, rfl, hv2, h⟩
  exact cast (lvc106_1 _ _ _ _ _).symm (loopE_step (t := (Ty.sl TVS)) hl2 h (fun ht2 h => ⟨hl2, ⟨ht2, (oG h fun _ h => (loopE_next (t := (Ty.sl TVS)) (fun _ hm => ⟨hc2, hm⟩) _ rfl hl2 ht2 (sm_len h_xss) trivial h))⟩⟩) fun h => (h trivial))
 ·rw [vc106]
  exact (loopE_start (t := (Ty.sl TVS)) (fun m hm => ⟨trivial, hm⟩) _ rfl trivial (ok_then h (fun v0 h hv0 => (oG h fun _ h => (oG h fun _ h => (oL h fun _ _ h => (loopE_start (t := (Ty.sl TVS)) (fun m hm => ⟨trivial, hm⟩) _ rfl trivial (ok_then h (fun v2 h hv2 => h) (fun _ h => h.elim))))))) (fun _ h => h.elim)))
@[reducible] def C109 : Ctx := cx [] 9 [] 400000 true
def T109 : Inl := inlT C109 (fun _ => []) (bodyOf f109) f109.results.toList
theorem inlOk109 : Inl1 P 109 T109 := inlR C109 func109 kN
def c72 : Con := ⟨[.dat (Ty.sl TVS)], fun args hp K => g1 (pD (Ty.sl TVS)) (fun rows => (Sm (Ty.sl TVS) rows) ∧ (∀ r : (List LV), r = rows → K (.clp 0 (r.length : Int)) [(0, .arr true TVS r)])) args hp, .bor⟩
@[reducible] def C72 : Ctx := cx [(108, c108)] 20 [(109, T109)] 0 true
def ann72 := an [[kp 1], [kp 9], [kp 456], [kp 968], [kp 488], [kp 456], [kp 456], [kp 4]] [[kp 8]]
@[reducible] def s72_0 (rows : (List LV)) (i0 : Int) (v0 : (List LV)) : St := ⟨[(3, .own 3 none), (6, .data (Ty.sl TVS) rows), (7, dI (rows.length : Int)), (8, dI i0)], [(3, .arr true TVS v0)]⟩
@[reducible] def LP72_0 (rows : (List LV)) (m : Nat) (st_ : St) (K : KX) : Prop := True ∧ LoopE (t := TVS) (s72_0 rows) rows (F.impl_rowsCopy_l0 rows) (fun v0 : (List LV) => True) (outD (fun v0 : (List LV) => True → K (.exit 0) (⟨[(3, .own 3 none)], [(3, .arr true TVS v0)]⟩ : St)) (fun _ => False)) m st_
def L72 (rows : (List LV)) : Loops := lp1 0 (LP72_0 rows)
theorem vc72 (rows : (List LV)) (K : KA) : vcT C72 (L72 rows) ann72 f72 [.data (Ty.sl TVS) rows] [] .raw K =
 (∃ m_, True ∧ LoopE (t := TVS) (s72_0 rows) rows (F.impl_rowsCopy_l0 rows) (fun v0 : (List LV) => True) (outD (fun v0 : (List LV) => True → (0 ≤ Z0) ∧ (Z0 ≤ (v0.length : Int)) ∧ ((v0.length : Int) ≤ (v0.length : Int)) ∧ ((v0.length : Int) = (v0.length : Int)) ∧ (Z0 = 0) ∧ K (.clp 0 ((v0.take (v0.length : Int).toNat).length : Int)) [(0, .arr true TVS (v0.take (v0.length : Int).toNat))]) (fun _ => False)) m_ (s72_0 rows Z0 [])) := by kernel_rfl
theorem lvc72_0 (rows : (List LV))  (i0 : Int) (v0 : (List LV)) (m : Nat) (K : KX) : lvT C72 (L72 rows) ann72 f72 0 0 (s72_0 rows i0 v0) m K =
 (cond (decide (i0 < (rows.length : Int))) ((0 ≤ i0) ∧ (i0 < (rows.length : Int)) ∧ (Sm TVS (nth (t := TVS) rows i0)) ∧ (∀ r1 : LV, r1 = (nth (t := TVS) rows i0) → ((v0.length + [(cutList r1 (some (Z0, (r1.length : Int))))].length) * 24 ≤ lim) ∧ (nxT (LP72_0 rows) m K (s72_0 rows (wrap64 (i0 + Z1)) (v0 ++ [(cutList r1 (some (Z0, (r1.length : Int))))]))))) (K (.exit 0) (⟨[(3, .own 3 none)], [(3, .arr true TVS v0)]⟩ : St))) := by kernel_rfl
theorem con72_ok : Con1 P 72 c72 := conR C72 func72 (kC con108_ok (kI inlOk109 kN)) fun args hp K h0 => by
 obtain ⟨rows, rfl, rfl, h_rows, hK⟩ := g1e h0
 have h : ok (F.impl_rowsCopy rows) (fun r => K (.clp 0 (r.length : Int)) [(0, .arr true TVS r)]) := ok_of_eq (F.impl_rowsCopy_eq rows h_rows) (hK _ rfl)
 refine ⟨rfl, ann72, (L72 rows), .raw, (loopsN1 (i0 := 0) (by kernel_rfl) ?_), ?_⟩
 ·rintro _ _ K ⟨hc0, i0, v0, rfl, hl0, rfl, hv0, h⟩
  exact cast (lvc72_0 _ _ _ _ _).symm (loopE_step (t := TVS) hl0 h (fun ht0 h => ⟨hl0, ⟨ht0, ⟨(sm_nth h_rows i0), (oL h fun _ _ h => (oG h fun _ h => (loopE_next (t := TVS) (fun _ hm => ⟨hc0, hm⟩) _ rfl hl0 ht0 (sm_len h_rows) trivial h)))⟩⟩⟩) fun h => (h trivial))
 ·rw [vc72]
  exact (loopE_start (t := TVS) (fun m hm => ⟨trivial, hm⟩) _ rfl trivial (ok_then h (fun v0 h hv0 => ⟨(Int.natCast_nonneg 0), ⟨(Int.natCast_nonneg _), ⟨(Int.le_refl _), ⟨rfl, ⟨rfl, h⟩⟩⟩⟩⟩) (fun _ h => h.elim)))
def c200 : Con := ⟨[.lent TValue, .lent TValue], fun args hp K => g2 (pB TValue) (pB TValue) (fun xs ys => (Sm TVS xs) ∧ (Sm TVS ys) ∧ K (dB (decide (xs = ys))) []) args hp, .plain⟩
@[reducible] def C200 : Ctx := cx [] 26 [] 0 false
def ann200 := an [[kp 3], [kp 1027], [kp 16], [kp 12291], [kp 28675], [kp 12323], [kp 16789507], [kp 16], [kp 12291], [kp 16]] [[kp 0]]
@[reducible] def s200_0 (xs : LV) (ys : LV) (i0 : Int) (v0 : Unit) : St := ⟨[(0, .brw TValue xs), (1, .brw TValue ys), (12, dI (xs.length : Int)), (13, dI i0)], []⟩
@[reducible] def LP200_0 (xs : LV) (ys : LV) (m : Nat) (st_ : St) (K : KX) : Prop := True ∧ LoopI (s200_0 xs ys) Z0 (xs.length : Int) (F.Equal_TValue_l0 xs ys) (fun v0 : Unit => True) (outD (fun v0 : Unit => True → K (.exit 0) (⟨[], []⟩ : St)) (fun q0 : Unit => K .ret (⟨[(4, dB false)], []⟩ : St))) m st_
def L200 (xs : LV) (ys : LV) : Loops := lp1 0 (LP200_0 xs ys)
theorem vc200 (xs : LV) (ys : LV) (K : KA) : vcT C200 (L200 xs ys) ann200 f200 [.brw TValue xs, .brw TValue ys] [] (.dat Ty.bool) K =
 (cond (!decide ((xs.length : Int) = (ys.length : Int))) (K (dB false) []) (∃ m_, True ∧ LoopI (s200_0 xs ys) Z0 (xs.length : Int) (F.Equal_TValue_l0 xs ys) (fun v0 : Unit => True) (outD (fun v0 : Unit => True → K (dB true) []) (fun q0 : Unit => K (dB false) [])) m_ (s200_0 xs ys Z0 ()))) := by kernel_rfl
theorem lvc200_0 (xs : LV) (ys : LV)  (i0 : Int) (v0 : Unit) (m : Nat) (K : KX) : lvT C200 (L200 xs ys) ann200 f200 0 0 (s200_0 xs ys i0 v0) m K =
 (cond (decide (i0 < (xs.length : Int))) ((0 ≤ i0) ∧ (i0 < (xs.length : Int)) ∧ (0 ≤ i0) ∧ (i0 < (ys.length : Int)) ∧ cond (!(Ty.beq TValue (nV xs i0) (nV ys i0))) (K .ret (⟨[(4, dB false)], []⟩ : St)) (nxT (LP200_0 xs ys) m K (s200_0 xs ys (wrap64 (i0 + Z1)) ()))) (K (.exit 0) (⟨[], []⟩ : St))) := by kernel_rfl
theorem con200_ok : Con1 P 200 c200 := conR C200 func200 kN fun args hp K h0 => by
 obtain ⟨xs, ys, rfl, rfl, h_xs, h_ys, hK⟩ := g2e h0
 have h : ok (F.Equal_TValue xs ys) (fun r => K (dB r) []) := ok_of_eq (F.Equal_TValue_eq xs ys h_xs h_ys) hK
 refine ⟨rfl, ann200, (L200 xs ys), (.dat Ty.bool), (loopsN1 (i0 := 0) (by kernel_rfl) ?_), ?_⟩
 ·rintro _ _ K ⟨hc0, i0, v0, rfl, hl0, rfl, hv0, h⟩
  exact cast (lvc200_0 _ _ _ _ _ _).symm (loopI_step h (fun ht0 h => ⟨hl0, ⟨ht0, ⟨hl0, (oG h fun _ h => (oC h (fun _ h => h) fun _ h => (loopI_next (fun _ hm => ⟨hc0, hm⟩) _ rfl hl0 low0 ht0 (sm_len h_xs) trivial h)))⟩⟩⟩) fun h => (h trivial))
 ·rw [vc200]
  exact (oC h (fun _ h => h) fun _ h => (loopI_start (fun m hm => ⟨trivial, hm⟩) Z0 _ rfl (Int.natCast_nonneg 0) trivial (ok_then h (fun v0 h hv0 => h) (fun q0 h => h))))
def c175 : Con := ⟨[.lent TVS, .dat TVS], fun args hp K => g2 (pB TVS) (pD TVS) (fun rows row => (Sm (Ty.sl TVS) rows) ∧ (Sm TVS row) ∧ K (dI (M.rowMany rows row : Int)) []) args hp, .plain⟩
@[reducible] def C175 : Ctx := cx [(200, c200)] 21 [] 0 false
def ann175 := an [[kp 3], [kp 35], [kp 1826], [kp 3874], [kp 1954], [kp 67362], [kp 1826], [kp 1826], [kp 16]] [[kp 32]]
@[reducible] def s175_0 (rows : (List LV)) (row : LV) (i0 : Int) (v0 : Int) : St := ⟨[(1, .data TVS row), (5, dI v0), (8, .brw TVS rows), (9, dI (rows.length : Int)), (10, dI i0)], []⟩
@[reducible] def LP175_0 (rows : (List LV)) (row : LV) (m : Nat) (st_ : St) (K : KX) : Prop := True ∧ LoopE (t := TVS) (s175_0 rows row) rows (F.impl_RowMany_l0 rows row) (fun v0 : Int => True) (outD (fun v0 : Int => True → K (.exit 0) (⟨[(5, dI v0)], []⟩ : St)) (fun _ => False)) m st_
def L175 (rows : (List LV)) (row : LV) : Loops := lp1 0 (LP175_0 rows row)
theorem vc175 (rows : (List LV)) (row : LV) (K : KA) : vcT C175 (L175 rows row) ann175 f175 [.brw TVS rows, .data TVS row] [] (.dat TInt) K =
 (∃ m_, True ∧ LoopE (t := TVS) (s175_0 rows row) rows (F.impl_RowMany_l0 rows row) (fun v0 : Int => True) (outD (fun v0 : Int => True → K (dI v0) []) (fun _ => False)) m_ (s175_0 rows row Z0 Z0)) := by kernel_rfl
theorem lvc175_0 (rows : (List LV)) (row : LV)  (i0 : Int) (v0 : Int) (m : Nat) (K : KX) : lvT C175 (L175 rows row) ann175 f175 0 0 (s175_0 rows row i0 v0) m K =
 (cond (decide (i0 < (rows.length : Int))) ((0 ≤ i0) ∧ (i0 < (rows.length : Int)) ∧ (Sm TVS (nth (t := TVS) rows i0)) ∧ (Sm TVS row) ∧ cond (decide ((nth (t := TVS) rows i0) = row)) (nxT (LP175_0 rows row) m K (s175_0 rows row (wrap64 (i0 + Z1)) (wrap64 (v0 + Z1)))) (nxT (LP175_0 rows row) m K (s175_0 rows row (wrap64 (i0 + Z1)) v0))) (K (.exit 0) (⟨[(5, dI v0)], []⟩ : St))) := by kernel_rfl
theorem con175_ok : Con1 P 175 c175 := conR C175 func175 (kC con200_ok kN) fun args hp K h0 => by
 obtain ⟨rows, row, rfl, rfl, h_rows, h_row, hK⟩ := g2e h0
 have h : ok (F.impl_RowMany rows row) (fun r => K (dI r) []) := ok_of_eq (F.impl_RowMany_eq rows row h_rows h_row) hK
 refine ⟨rfl, ann175, (L175 rows row), (.dat TInt), (loopsN1 (i0 := 0) (by kernel_rfl) ?_), ?_⟩
 ·rintro _ _ K ⟨hc0, i0, v0, rfl, hl0, rfl, hv0, h⟩
  exact cast (lvc175_0 _ _ _ _ _ _).symm (loopE_step (t := TVS) hl0 h (fun ht0 h => ⟨hl0, ⟨ht0, ⟨(sm_nth h_rows i0), ⟨h_row, (oC h (fun _ h => (loopE_next (t := TVS) (fun _ hm => ⟨hc0, hm⟩) _ rfl hl0 ht0 (sm_len h_rows) trivial h)) fun _ h => (loopE_next (t := TVS) (fun _ hm => ⟨hc0, hm⟩) _ rfl hl0 ht0 (sm_len h_rows) trivial h))⟩⟩⟩⟩) fun h => (h trivial))
 ·rw [vc175]
  exact (loopE_start (t := TVS) (fun m hm => ⟨trivial, hm⟩) _ rfl trivial (ok_then h (fun v0 h hv0 => h) (fun _ h => h.elim)))
def c148 : Con := ⟨[.lent TVS, .dat TVS], fun args hp K => g2 (pB TVS) (pD TVS) (fun rows row => (Sm (Ty.sl TVS) rows) ∧ (Sm TVS row) ∧ K (dB (decide (0 < (M.rowMany rows row : Int)))) []) args hp, .plain⟩
@[reducible] def C148 : Ctx := cx [(175, c175)] 9 [] 0 false
def ann148 := an [[kp 3], [kp 16]] []
theorem vc148 (rows : (List LV)) (row : LV) (K : KA) : vcT C148 noLoops ann148 f148 [.brw TVS rows, .data TVS row] [] (.dat Ty.bool) K =
 ((Sm (Ty.sl TVS) rows) ∧ (Sm TVS row) ∧ K (dB (decide (Z0 < (M.rowMany rows row : Int)))) []) := by kernel_rfl
theorem con148_ok : Con1 P 148 c148 := conR C148 func148 (kC con175_ok kN) fun args hp K h0 => by
 obtain ⟨rows, row, rfl, rfl, h_rows, h_row, hK⟩ := g2e h0
 have h : ok (F.impl_rowsHas rows row) (fun r => K (dB r) []) := ok_of_eq (F.impl_rowsHas_eq rows row h_rows h_row) hK
 refine ⟨rfl, ann148, noLoops, (.dat Ty.bool), (no_loops (by kernel_rfl)), ?_⟩
 ·rw [vc148]
  exact ⟨h_rows, ⟨h_row, h⟩⟩
def c107 : Con := ⟨[.dat (Ty.sl TVS)], fun args hp K => g1 (pD (Ty.sl TVS)) (fun rows => (Sm (Ty.sl TVS) rows) ∧ (∀ r : (List LV), r = (M.rowsOnce rows) → K (.clp 0 (r.length : Int)) [(0, .arr true TVS r)])) args hp, .bor⟩
@[reducible] def C107 : Ctx := cx [(72, c72), (148, c148)] 23 [] 0 true
def ann107 := an [[kp 1], [.weak 3, kp 9], [kp 456], [kp 968], [kp 488], [kp 33256], [kp 456], [kp 456], [kp 4]] [[kp 8]]
@[reducible] def s107_0 (rows : (List LV)) (i0 : Int) (v0 : (List LV)) : St := ⟨[(3, .own 3 none), (6, .data (Ty.sl TVS) rows), (7, dI (rows.length : Int)), (8, dI i0)], [(3, .arr false TVS v0)]⟩
@[reducible] def LP107_0 (rows : (List LV)) (m : Nat) (st_ : St) (K : KX) : Prop := True ∧ LoopE (t := TVS) (s107_0 rows) rows (F.impl_RowsOnce_l0 rows) (fun v0 : (List LV) => True) (outD (fun v0 : (List LV) => True → K (.exit 0) (⟨[(3, .own 3 none)], [(3, .arr false TVS v0)]⟩ : St)) (fun _ => False)) m st_
def L107 (rows : (List LV)) : Loops := lp1 0 (LP107_0 rows)
theorem vc107 (rows : (List LV)) (K : KA) : vcT C107 (L107 rows) ann107 f107 [.data (Ty.sl TVS) rows] [] .raw K =
 (∃ m_, True ∧ LoopE (t := TVS) (s107_0 rows) rows (F.impl_RowsOnce_l0 rows) (fun v0 : (List LV) => True) (outD (fun v0 : (List LV) => True → (Sm (Ty.sl TVS) v0) ∧ (∀ r1 : (List LV), r1 = v0 → K (.clp 0 ((r1.take (r1.length : Int).toNat).length : Int)) [(0, .arr true TVS (r1.take (r1.length : Int).toNat))])) (fun _ => False)) m_ (s107_0 rows Z0 [])) := by kernel_rfl
theorem lvc107_0 (rows : (List LV))  (i0 : Int) (v0 : (List LV)) (m : Nat) (K : KX) : lvT C107 (L107 rows) ann107 f107 0 0 (s107_0 rows i0 v0) m K =
 (cond (decide (i0 < (rows.length : Int))) ((0 ≤ i0) ∧ (i0 < (rows.length : Int)) ∧ (Sm (Ty.sl TVS) v0) ∧ (Sm TVS (nth (t := TVS) rows i0)) ∧ cond (!(decide (0 < (M.rowMany v0 (nth (t := TVS) rows i0) : Int)))) (((v0.length + [(nth (t := TVS) rows i0)].length) * 24 ≤ lim) ∧ (nxT (LP107_0 rows) m K (s107_0 rows (wrap64 (i0 + Z1)) (v0 ++ [(nth (t := TVS) rows i0)])))) (nxT (LP107_0 rows) m K (s107_0 rows (wrap64 (i0 + Z1)) v0))) (K (.exit 0) (⟨[(3, .own 3 none)], [(3, .arr false TVS v0)]⟩ : St))) := by kernel_rfl
theorem con107_ok : Con1 P 107 c107 := conR C107 func107 (kC con72_ok (kC con148_ok kN)) fun args hp K h0 => by
 obtain ⟨rows, rfl, rfl, h_rows, hK⟩ := g1e h0
 have h : ok (F.impl_RowsOnce rows) (fun r => K (.clp 0 (r.length : Int)) [(0, .arr true TVS r)]) := ok_of_eq (F.impl_RowsOnce_eq rows h_rows) (hK _ rfl)
 refine ⟨rfl, ann107, (L107 rows), .raw, (loopsN1 (i0 := 0) (by kernel_rfl) ?_), ?_⟩
 ·rintro _ _ K ⟨hc0, i0, v0, rfl, hl0, rfl, hv0, h⟩
  exact cast (lvc107_0 _ _ _ _ _).symm (loopE_step (t := TVS) hl0 h (fun ht0 h => ⟨hl0, ⟨ht0, (oG h fun _ h => ⟨(sm_nth h_rows i0), (oC h (fun _ h => (oG h fun _ h => (loopE_next (t := TVS) (fun _ hm => ⟨hc0, hm⟩) _ rfl hl0 ht0 (sm_len h_rows) trivial h))) fun _ h => (loopE_next (t := TVS) (fun _ hm => ⟨hc0, hm⟩) _ rfl hl0 ht0 (sm_len h_rows) trivial h))⟩)⟩⟩) fun h => (h trivial))
 ·rw [vc107]
  exact (loopE_start (t := TVS) (fun m hm => ⟨trivial, hm⟩) _ rfl trivial (ok_then h (fun v0 h hv0 => (oG h fun _ h => (oL h fun _ _ h => h))) (fun _ h => h.elim)))
def c71 : Con := ⟨[.dat TStep, .dat TTb, .lent (Ty.sl TVS)], fun args hp K => g3 (pD TStep) (pD TTb) (pB (Ty.sl TVS)) (fun s tables ahead => (Sm TStep s) ∧ (Sm TTb tables) ∧ (Sm (Ty.sl (Ty.sl TVS)) ahead) ∧ (M.rowSafe tables ahead s) ∧ (∀ r : (List LV), r = (M.rowStep tables ahead s) → K (.data (Ty.sl TVS) r) [])) args hp, .plain⟩
@[reducible] def C71 : Ctx := cx [(103, c103), (104, c104), (105, c105), (106, c106), (107, c107)] 126 [] 0 false
def ann71 := an [[.fixRow 3 TStep, kp 14], [kp 142], [kp 262286], [kp 786574], [kp 64], [kp 134480012], [kp 60129542280], [kp 128849019016], [kp 60129542792], [kp 4458176053896], [kp 60129542280], [kp 60129542280], [kp 281474976972940], [kp 126100789566374024], [kp 270215977642229896], [kp 126100789566376072], [kp 126100789566374024], [kp 126100789566374024], [.keep [2, 3, 7, 18, 68]], [kp 132226261520350065983628], [kp 283341988972178712821900], [kp 132226261520350065991820], [kp 135531918058358817633083532], [kp 290274422969031351995474060], [kp 135531918058358817633116300], [kp 135531918058358817633149068], [kp 79363694432322696411177099404], [kp 135531918058358817633083532], [kp 135531918058358817633083532], [kp 132226261520350065983628], [.keep [2, 3, 7, 18, 103]], [kp 64], [.keep [2, 3, 7, 117]], [.weak 124, .freeze 124, kp 64], [kp 64]] [[], [kp 128], [], [kp 128], [], [kp 128], [], [kp 132226261520350065983628]]
@[reducible] def s71_1 (s : TStep.D) (tables : LTb) (ahead : (List (List LV))) (i1 : Int) (v1 : (List LV)) : St := ⟨[(3, .adr TStep s), (7, .own 7 none), (33, .data (Ty.sl TVS) (nth (t := (Ty.sl TVS)) ahead s.2.1)), (34, dI ((nth (t := (Ty.sl TVS)) ahead s.2.1).length : Int)), (35, dI i1)], [(7, .arr false TVS v1)]⟩
@[reducible] def LP71_1 (s : TStep.D) (tables : LTb) (ahead : (List (List LV))) (m : Nat) (st_ : St) (K : KX) : Prop := True ∧ LoopE (t := TVS) (s71_1 s tables ahead) (nth (t := (Ty.sl TVS)) ahead s.2.1) (F.impl_Step_rows_l1 s tables ahead) (fun v1 : (List LV) => True) (outD (fun v1 : (List LV) => True → K (.exit 1) (⟨[(7, .own 7 none)], [(7, .arr false TVS v1)]⟩ : St)) (fun _ => False)) m st_
@[reducible] def s71_3 (s : TStep.D) (tables : LTb) (ahead : (List (List LV))) (i3 : Int) (v3 : (List LV)) : St := ⟨[(3, .adr TStep s), (7, .own 7 none), (54, .data (Ty.sl TVS) (nth (t := (Ty.sl TVS)) ahead s.2.1)), (55, dI ((nth (t := (Ty.sl TVS)) ahead s.2.1).length : Int)), (56, dI i3)], [(7, .arr false TVS v3)]⟩
@[reducible] def LP71_3 (s : TStep.D) (tables : LTb) (ahead : (List (List LV))) (m : Nat) (st_ : St) (K : KX) : Prop := True ∧ LoopE (t := TVS) (s71_3 s tables ahead) (nth (t := (Ty.sl TVS)) ahead s.2.1) (F.impl_Step_rows_l3 s tables ahead) (fun v3 : (List LV) => True) (outD (fun v3 : (List LV) => True → K (.exit 3) (⟨[(7, .own 7 none)], [(7, .arr false TVS v3)]⟩ : St)) (fun _ => False)) m st_
@[reducible] def s71_5 (s : TStep.D) (tables : LTb) (ahead : (List (List LV))) (i5 : Int) (v5 : (List LV)) : St := ⟨[(2, .brw (Ty.sl TVS) ahead), (3, .adr TStep s), (7, .own 7 none), (74, .data (Ty.sl TVS) (nth (t := (Ty.sl TVS)) ahead s.2.1)), (75, dI ((nth (t := (Ty.sl TVS)) ahead s.2.1).length : Int)), (76, dI i5)], [(7, .arr false TVS v5)]⟩
@[reducible] def LP71_5 (s : TStep.D) (tables : LTb) (ahead : (List (List LV))) (m : Nat) (st_ : St) (K : KX) : Prop := True ∧ LoopI (s71_5 s tables ahead) Z0 ((nth (t := (Ty.sl TVS)) ahead s.2.1).length : Int) (F.impl_Step_rows_l5 s tables ahead) (fun v5 : (List LV) => True) (outD (fun v5 : (List LV) => True → K (.exit 5) (⟨[(7, .own 7 none)], [(7, .arr false TVS v5)]⟩ : St)) (fun _ => False)) m st_
@[reducible] def s71_7 (s : TStep.D) (tables : LTb) (ahead : (List (List LV))) (c7_0 : LV) (c7_1 : Int) (i7 : Int) (v7 : (List LV)) : St := ⟨[(2, .brw (Ty.sl TVS) ahead), (3, .adr TStep s), (7, .own 7 none), (13, .data TVS c7_0), (74, .data (Ty.sl TVS) (nth (t := (Ty.sl TVS)) ahead s.2.1)), (75, dI ((nth (t := (Ty.sl TVS)) ahead s.2.1).length : Int)), (76, dI c7_1), (84, .data (Ty.sl TVS) (nth (t := (Ty.sl TVS)) ahead s.2.2.1)), (85, dI ((nth (t := (Ty.sl TVS)) ahead s.2.2.1).length : Int)), (86, dI i7)], [(7, .arr false TVS v7)]⟩
@[reducible] def LP71_7 (s : TStep.D) (tables : LTb) (ahead : (List (List LV))) (m : Nat) (st_ : St) (K : KX) : Prop := ∃ c7_0 : LV, ∃ c7_1 : Int, (Sm TVS c7_0 ∧ True) ∧ LoopE (t := TVS) (s71_7 s tables ahead c7_0 c7_1) (nth (t := (Ty.sl TVS)) ahead s.2.2.1) (F.impl_Step_rows_l7 s tables ahead c7_0 c7_1) (fun v7 : (List LV) => True) (outD (fun v7 : (List LV) => True → K (.exit 7) (⟨[(2, .brw (Ty.sl TVS) ahead), (3, .adr TStep s), (7, .own 7 none), (74, .data (Ty.sl TVS) (nth (t := (Ty.sl TVS)) ahead s.2.1)), (75, dI ((nth (t := (Ty.sl TVS)) ahead s.2.1).length : Int)), (76, dI c7_1)], [(7, .arr false TVS v7)]⟩ : St)) (fun _ => False)) m st_
def L71 (s : TStep.D) (tables : LTb) (ahead : (List (List LV))) : Loops := fun id m st_ K => match id with
 | 1 => LP71_1 s tables ahead m st_ K
 | 3 => LP71_3 s tables ahead m st_ K
 | 5 => LP71_5 s tables ahead m st_ K
 | 7 => LP71_7 s tables ahead m st_ K
 | _ => False
theorem vc71 (s : TStep.D) (tables : LTb) (ahead : (List (List LV))) (K : KA) : vcT C71 (L71 s tables ahead) ann71 f71 [.data TStep s, .data TTb tables, .brw (Ty.sl TVS) ahead] [] (.dat (Ty.sl TVS)) K =
 (cond (decide (s.1 = Z1)) ((0 ≤ s.2.2.2.1) ∧ (s.2.2.2.1 < (tables.length : Int)) ∧ K (.data (Ty.sl TVS) (nT tables s.2.2.2.1).2.1) []) (cond (decide (s.1 = Z2)) ((0 ≤ s.2.1) ∧ (s.2.1 < (ahead.length : Int)) ∧ (∃ m_, True ∧ LoopE (t := TVS) (s71_1 s tables ahead) (nth (t := (Ty.sl TVS)) ahead s.2.1) (F.impl_Step_rows_l1 s tables ahead) (fun v1 : (List LV) => True) (outD (fun v1 : (List LV) => True → K (.data (Ty.sl TVS) v1) []) (fun _ => False)) m_ (s71_1 s tables ahead Z0 []))) (cond (decide (s.1 = Z3)) ((0 ≤ s.2.1) ∧ (s.2.1 < (ahead.length : Int)) ∧ (∃ m_, True ∧ LoopE (t := TVS) (s71_3 s tables ahead) (nth (t := (Ty.sl TVS)) ahead s.2.1) (F.impl_Step_rows_l3 s tables ahead) (fun v3 : (List LV) => True) (outD (fun v3 : (List LV) => True → K (.data (Ty.sl TVS) v3) []) (fun _ => False)) m_ (s71_3 s tables ahead Z0 []))) (cond (decide (s.1 = Z4)) ((0 ≤ s.2.1) ∧ (s.2.1 < (ahead.length : Int)) ∧ (∃ m_, True ∧ LoopI (s71_5 s tables ahead) Z0 ((nth (t := (Ty.sl TVS)) ahead s.2.1).length : Int) (F.impl_Step_rows_l5 s tables ahead) (fun v5 : (List LV) => True) (outD (fun v5 : (List LV) => True → K (.data (Ty.sl TVS) v5) []) (fun _ => False)) m_ (s71_5 s tables ahead Z0 []))) (cond (decide (s.1 = Z5)) ((0 ≤ s.2.1) ∧ (s.2.1 < (ahead.length : Int)) ∧ (0 ≤ s.2.2.1) ∧ (s.2.2.1 < (ahead.length : Int)) ∧ (Sm (Ty.sl (Ty.sl TVS)) [(nth (t := (Ty.sl TVS)) ahead s.2.1), (nth (t := (Ty.sl TVS)) ahead s.2.2.1)]) ∧ (∀ r1 : (List LV), r1 = (List.flatten [(nth (t := (Ty.sl TVS)) ahead s.2.1), (nth (t := (Ty.sl TVS)) ahead s.2.2.1)]) → K (.data (Ty.sl TVS) r1) [])) (cond (decide (s.1 = Z6)) ((0 ≤ s.2.1) ∧ (s.2.1 < (ahead.length : Int)) ∧ (Sm (Ty.sl TVS) (nth (t := (Ty.sl TVS)) ahead s.2.1)) ∧ (∀ r2 : (List LV), r2 = (M.rowsOnce (nth (t := (Ty.sl TVS)) ahead s.2.1)) → K (.data (Ty.sl TVS) (cutList r2 (some (Z0, (r2.length : Int))))) [])) (K (.data (Ty.sl TVS) []) []))))))) := by kernel_rfl
theorem lvc71_0 (s : TStep.D) (tables : LTb) (ahead : (List (List LV)))  (i1 : Int) (v1 : (List LV)) (m : Nat) (K : KX) : lvT C71 (L71 s tables ahead) ann71 f71 0 1 (s71_1 s tables ahead i1 v1) m K =
 (cond (decide (i1 < ((nth (t := (Ty.sl TVS)) ahead s.2.1).length : Int))) ((0 ≤ i1) ∧ (i1 < ((nth (t := (Ty.sl TVS)) ahead s.2.1).length : Int)) ∧ (Sm TVS (nth (t := TVS) (nth (t := (Ty.sl TVS)) ahead s.2.1) i1)) ∧ (Sm TPS s.2.2.2.2.1) ∧ (M.exprSafe (nth (t := TVS) (nth (t := (Ty.sl TVS)) ahead s.2.1) i1).length s.2.2.2.2.1) ∧ cond (M.holds (nth (t := TVS) (nth (t := (Ty.sl TVS)) ahead s.2.1) i1) s.2.2.2.2.1) (((v1.length + [(nth (t := TVS) (nth (t := (Ty.sl TVS)) ahead s.2.1) i1)].length) * 24 ≤ lim) ∧ (nxT (LP71_1 s tables ahead) m K (s71_1 s tables ahead (wrap64 (i1 + Z1)) (v1 ++ [(nth (t := TVS) (nth (t := (Ty.sl TVS)) ahead s.2.1) i1)])))) (nxT (LP71_1 s tables ahead) m K (s71_1 s tables ahead (wrap64 (i1 + Z1)) v1))) (K (.exit 1) (⟨[(7, .own 7 none)], [(7, .arr false TVS v1)]⟩ : St))) := by kernel_rfl
theorem lvc71_1 (s : TStep.D) (tables : LTb) (ahead : (List (List LV)))  (i3 : Int) (v3 : (List LV)) (m : Nat) (K : KX) : lvT C71 (L71 s tables ahead) ann71 f71 1 3 (s71_3 s tables ahead i3 v3) m K =
 (cond (decide (i3 < ((nth (t := (Ty.sl TVS)) ahead s.2.1).length : Int))) ((0 ≤ i3) ∧ (i3 < ((nth (t := (Ty.sl TVS)) ahead s.2.1).length : Int)) ∧ (Sm TVS (nth (t := TVS) (nth (t := (Ty.sl TVS)) ahead s.2.1) i3)) ∧ (Sm (Ty.sl TInt) s.2.2.2.2.2.1) ∧ (M.inRow (nth (t := TVS) (nth (t := (Ty.sl TVS)) ahead s.2.1) i3) s.2.2.2.2.2.1) ∧ (∀ r3 : LV, r3 = (M.taken (nth (t := TVS) (nth (t := (Ty.sl TVS)) ahead s.2.1) i3) s.2.2.2.2.2.1) → ((v3.length + [r3].length) * 24 ≤ lim) ∧ (nxT (LP71_3 s tables ahead) m K (s71_3 s tables ahead (wrap64 (i3 + Z1)) (v3 ++ [r3]))))) (K (.exit 3) (⟨[(7, .own 7 none)], [(7, .arr false TVS v3)]⟩ : St))) := by kernel_rfl
theorem lvc71_2 (s : TStep.D) (tables : LTb) (ahead : (List (List LV)))  (i5 : Int) (v5 : (List LV)) (m : Nat) (K : KX) : lvT C71 (L71 s tables ahead) ann71 f71 2 5 (s71_5 s tables ahead i5 v5) m K =
 (cond (decide (i5 < ((nth (t := (Ty.sl TVS)) ahead s.2.1).length : Int))) ((0 ≤ i5) ∧ (i5 < ((nth (t := (Ty.sl TVS)) ahead s.2.1).length : Int)) ∧ (0 ≤ s.2.2.1) ∧ (s.2.2.1 < (ahead.length : Int)) ∧ (∃ m_, ∃ c7_0 : LV, ∃ c7_1 : Int, (Sm TVS c7_0 ∧ True) ∧ LoopE (t := TVS) (s71_7 s tables ahead c7_0 c7_1) (nth (t := (Ty.sl TVS)) ahead s.2.2.1) (F.impl_Step_rows_l7 s tables ahead c7_0 c7_1) (fun v7 : (List LV) => True) (outD (fun v7 : (List LV) => True → (nxT (LP71_5 s tables ahead) m K (s71_5 s tables ahead (wrap64 (c7_1 + Z1)) v7))) (fun _ => False)) m_ (s71_7 s tables ahead (nth (t := TVS) (nth (t := (Ty.sl TVS)) ahead s.2.1) i5) i5 Z0 v5))) (K (.exit 5) (⟨[(7, .own 7 none)], [(7, .arr false TVS v5)]⟩ : St))) := by kernel_rfl
theorem lvc71_3 (s : TStep.D) (tables : LTb) (ahead : (List (List LV))) (c7_0 : LV) (c7_1 : Int) (i7 : Int) (v7 : (List LV)) (m : Nat) (K : KX) : lvT C71 (L71 s tables ahead) ann71 f71 3 7 (s71_7 s tables ahead c7_0 c7_1 i7 v7) m K =
 (cond (decide (i7 < ((nth (t := (Ty.sl TVS)) ahead s.2.2.1).length : Int))) ((0 ≤ i7) ∧ (i7 < ((nth (t := (Ty.sl TVS)) ahead s.2.2.1).length : Int)) ∧ (Sm TVS c7_0) ∧ (Sm TVS (nth (t := TVS) (nth (t := (Ty.sl TVS)) ahead s.2.2.1) i7)) ∧ (c7_0.length + (nth (t := TVS) (nth (t := (Ty.sl TVS)) ahead s.2.2.1) i7).length ≤ 1048576) ∧ (∀ r4 : LV, r4 = (c7_0 ++ (nth (t := TVS) (nth (t := (Ty.sl TVS)) ahead s.2.2.1) i7)) → (Sm TVS (cutList r4 (some (Z0, (r4.length : Int))))) ∧ (Sm TPS s.2.2.2.2.1) ∧ (M.exprSafe (cutList r4 (some (Z0, (r4.length : Int)))).length s.2.2.2.2.1) ∧ cond (M.holds (cutList r4 (some (Z0, (r4.length : Int)))) s.2.2.2.2.1) (((v7.length + [(cutList r4 (some (Z0, (r4.length : Int))))].length) * 24 ≤ lim) ∧ (nxT (LP71_7 s tables ahead) m K (s71_7 s tables ahead c7_0 c7_1 (wrap64 (i7 + Z1)) (v7 ++ [(cutList r4 (some (Z0, (r4.length : Int))))])))) (nxT (LP71_7 s tables ahead) m K (s71_7 s tables ahead c7_0 c7_1 (wrap64 (i7 + Z1)) v7)))) (K (.exit 7) (⟨[(2, .brw (Ty.sl TVS) ahead), (3, .adr TStep s), (7, .own 7 none), (74, .data (Ty.sl TVS) (nth (t := (Ty.sl TVS)) ahead s.2.1)), (75, dI ((nth (t := (Ty.sl TVS)) ahead s.2.1).length : Int)), (76, dI c7_1)], [(7, .arr false TVS v7)]⟩ : St))) := by kernel_rfl
theorem con71_ok : Con1 P 71 c71 := conR C71 func71 (kC con103_ok (kC con104_ok (kC con105_ok (kC con106_ok (kC con107_ok kN))))) fun args hp K h0 => by
 obtain ⟨s, tables, ahead, rfl, rfl, h_s, h_tables, h_ahead, p0, hK⟩ := g3e h0
 have h : ok (F.impl_Step_rows s tables ahead) (fun r => K (.data (Ty.sl TVS) r) []) := ok_of_eq (F.impl_Step_rows_eq s tables ahead h_s h_tables h_ahead p0) (hK _ rfl)
 refine ⟨rfl, ann71, (L71 s tables ahead), (.dat (Ty.sl TVS)), (loopsN4 (i0 := 1) (i1 := 3) (i2 := 5) (i3 := 7) (by kernel_rfl) ?_ ?_ ?_ ?_), ?_⟩
 ·rintro _ _ K ⟨hc1, i1, v1, rfl, hl1, rfl, hv1, h⟩
  exact cast (lvc71_0 _ _ _ _ _ _ _).symm (loopE_step (t := TVS) hl1 h (fun ht1 h => ⟨hl1, ⟨ht1, ⟨(sm_nth (sm_nth h_ahead s.2.1) i1), ⟨h_s.2.2.2.2.1, (oG h fun _ h => (oC h (fun _ h => (oG h fun _ h => (loopE_next (t := TVS) (fun _ hm => ⟨hc1, hm⟩) _ rfl hl1 ht1 (sm_len (sm_nth h_ahead s.2.1)) trivial h))) fun _ h => (loopE_next (t := TVS) (fun _ hm => ⟨hc1, hm⟩) _ rfl hl1 ht1 (sm_len (sm_nth h_ahead s.2.1)) trivial h)))⟩⟩⟩⟩) fun h => (h trivial))
 ·rintro _ _ K ⟨hc3, i3, v3, rfl, hl3, rfl, hv3, h⟩
  exact cast (lvc71_1 _ _ _ _ _ _ _).symm (loopE_step (t := TVS) hl3 h (fun ht3 h => ⟨hl3, ⟨ht3, ⟨(sm_nth (sm_nth h_ahead s.2.1) i3), ⟨h_s.2.2.2.2.2.1, (oG h fun _ h => (oL h fun _ _ h => (oG h fun _ h => (loopE_next (t := TVS) (fun _ hm => ⟨hc3, hm⟩) _ rfl hl3 ht3 (sm_len (sm_nth h_ahead s.2.1)) trivial h))))⟩⟩⟩⟩) fun h => (h trivial))
 ·rintro _ _ K ⟨hc5, i5, v5, rfl, hl5, rfl, hv5, h⟩
  exact cast (lvc71_2 _ _ _ _ _ _ _).symm (loopI_step h (fun ht5 h => ⟨hl5, ⟨ht5, (oG h fun _ h => (oG h fun _ h => (loopE_start (t := TVS) (fun m hm => ⟨(nth (t := TVS) (nth (t := (Ty.sl TVS)) ahead s.2.1) i5), i5, ⟨(sm_nth (sm_nth h_ahead s.2.1) i5), trivial⟩, hm⟩) _ rfl trivial (ok_then h (fun v7 h hv7 => (loopI_next (fun _ hm => ⟨hc5, hm⟩) _ rfl hl5 low0 ht5 (sm_len (sm_nth h_ahead s.2.1)) trivial h)) (fun _ h => h.elim)))))⟩⟩) fun h => (h trivial))
 ·rintro _ _ K ⟨c7_0, c7_1, hc7, i7, v7, rfl, hl7, rfl, hv7, h⟩
  exact cast (lvc71_3 _ _ _ _ _ _ _ _ _).symm (loopE_step (t := TVS) hl7 h (fun ht7 h => ⟨hl7, ⟨ht7, ⟨hc7.1, ⟨(sm_nth (sm_nth h_ahead s.2.2.1) i7), (oG h fun _ h => (oL h fun _ _ h => (oG h fun _ h => ⟨h_s.2.2.2.2.1, (oG h fun _ h => (oC h (fun _ h => (oG h fun _ h => (loopE_next (t := TVS) (fun _ hm => ⟨c7_0, c7_1, hc7, hm⟩) _ rfl hl7 ht7 (sm_len (sm_nth h_ahead s.2.2.1)) trivial h))) fun _ h => (loopE_next (t := TVS) (fun _ hm => ⟨c7_0, c7_1, hc7, hm⟩) _ rfl hl7 ht7 (sm_len (sm_nth h_ahead s.2.2.1)) trivial h)))⟩)))⟩⟩⟩⟩) fun h => (h trivial))
 ·rw [vc71]
  exact (oC h (fun _ h => (oG h fun _ h => (oG h fun _ h => h))) fun _ h => (oC h (fun _ h => (oG h fun _ h => (oG h fun _ h => (loopE_start (t := TVS) (fun m hm => ⟨trivial, hm⟩) _ rfl trivial (ok_then h (fun v1 h hv1 => h) (fun _ h => h.elim)))))) fun _ h => (oC h (fun _ h => (oG h fun _ h => (oG h fun _ h => (loopE_start (t := TVS) (fun m hm => ⟨trivial, hm⟩) _ rfl trivial (ok_then h (fun v3 h hv3 => h) (fun _ h => h.elim)))))) fun _ h => (oC h (fun _ h => (oG h fun _ h => (oG h fun _ h => (loopI_start (fun m hm => ⟨trivial, hm⟩) Z0 _ rfl (Int.natCast_nonneg 0) trivial (ok_then h (fun v5 h hv5 => h) (fun _ h => h.elim)))))) fun _ h => (oC h (fun _ h => (oG h fun _ h => (oG h fun _ h => (oG h fun _ h => (oG h fun _ h => (oG h fun _ h => (oL h fun _ _ h => h))))))) fun _ h => (oC h (fun _ h => (oG h fun _ h => (oG h fun _ h => ⟨(sm_nth h_ahead s.2.1), (oL h fun _ _ h => h)⟩))) fun _ h => h))))))
def c37 : Con := ⟨[.dat TTb, .dat TSS], fun args hp K => g2 (pD TTb) (pD TSS) (fun tables plan => (Sm TTb tables) ∧ (Sm TSS plan) ∧ (M.planOk tables plan = true) ∧ (∀ r : (List LV), r = (M.planRows tables plan) → K (.clp 0 (r.length : Int)) [(0, .arr true TVS r)])) args hp, .bor⟩
@[reducible] def C37 : Ctx := cx [(71, c71), (72, c72)] 29 [] 0 true
def ann37 := an [[kp 3], [.weak 5, kp 35], [kp 1825], [kp 3873], [.fixRow 7 TStep, kp 1953], [kp 1825], [kp 1825], [kp 16]] [[kp 32]]
@[reducible] def s37_0 (tables : LTb) (plan : LS) (i0 : Int) (v0 : (List (List LV))) : St := ⟨[(0, .data TTb tables), (5, .own 5 none), (8, .data TSS plan), (9, dI (plan.length : Int)), (10, dI i0)], [(5, .arr false (Ty.sl TVS) v0)]⟩
@[reducible] def LP37_0 (tables : LTb) (plan : LS) (m : Nat) (st_ : St) (K : KX) : Prop := True ∧ LoopE (t := TStep) (s37_0 tables plan) plan (F.impl_planRows_l0 tables plan) (fun v0 : (List (List LV)) => True) (outD (fun v0 : (List (List LV)) => True → K (.exit 0) (⟨[(5, .own 5 none)], [(5, .arr false (Ty.sl TVS) v0)]⟩ : St)) (fun _ => False)) m st_
def L37 (tables : LTb) (plan : LS) : Loops := lp1 0 (LP37_0 tables plan)
theorem vc37 (tables : LTb) (plan : LS) (K : KA) : vcT C37 (L37 tables plan) ann37 f37 [.data TTb tables, .data TSS plan] [] .raw K =
 (∃ m_, True ∧ LoopE (t := TStep) (s37_0 tables plan) plan (F.impl_planRows_l0 tables plan) (fun v0 : (List (List LV)) => True) (outD (fun v0 : (List (List LV)) => True → (0 ≤ wrap64 ((v0.length : Int) - Z1)) ∧ (wrap64 ((v0.length : Int) - Z1) < (v0.length : Int)) ∧ (Sm (Ty.sl TVS) (nth (t := (Ty.sl TVS)) v0 (wrap64 ((v0.length : Int) - Z1)))) ∧ (∀ r1 : (List LV), r1 = (nth (t := (Ty.sl TVS)) v0 (wrap64 ((v0.length : Int) - Z1))) → K (.clp 0 ((r1.take (r1.length : Int).toNat).length : Int)) [(0, .arr true TVS (r1.take (r1.length : Int).toNat))])) (fun _ => False)) m_ (s37_0 tables plan Z0 [])) := by kernel_rfl
theorem lvc37_0 (tables : LTb) (plan : LS)  (i0 : Int) (v0 : (List (List LV))) (m : Nat) (K : KX) : lvT C37 (L37 tables plan) ann37 f37 0 0 (s37_0 tables plan i0 v0) m K =
 (cond (decide (i0 < (plan.length : Int))) ((0 ≤ i0) ∧ (i0 < (plan.length : Int)) ∧ (Sm TStep (nS plan i0)) ∧ (Sm TTb tables) ∧ (Sm (Ty.sl (Ty.sl TVS)) v0) ∧ (M.rowSafe tables v0 (nS plan i0)) ∧ (∀ r2 : (List LV), r2 = (M.rowStep tables v0 (nS plan i0)) → ((v0.length + [r2].length) * 24 ≤ lim) ∧ (nxT (LP37_0 tables plan) m K (s37_0 tables plan (wrap64 (i0 + Z1)) (v0 ++ [r2]))))) (K (.exit 0) (⟨[(5, .own 5 none)], [(5, .arr false (Ty.sl TVS) v0)]⟩ : St))) := by kernel_rfl
theorem con37_ok : Con1 P 37 c37 := conR C37 func37 (kC con71_ok (kC con72_ok kN)) fun args hp K h0 => by
 obtain ⟨tables, plan, rfl, rfl, h_tables, h_plan, p0, hK⟩ := g2e h0
 have h : ok (F.impl_planRows tables plan) (fun r => K (.clp 0 (r.length : Int)) [(0, .arr true TVS r)]) := ok_of_eq (F.impl_planRows_eq tables plan h_tables h_plan p0) (hK _ rfl)
 refine ⟨rfl, ann37, (L37 tables plan), .raw, (loopsN1 (i0 := 0) (by kernel_rfl) ?_), ?_⟩
 ·rintro _ _ K ⟨hc0, i0, v0, rfl, hl0, rfl, hv0, h⟩
  exact cast (lvc37_0 _ _ _ _ _ _).symm (loopE_step (t := TStep) hl0 h (fun ht0 h => ⟨hl0, ⟨ht0, ⟨(sm_nth h_plan i0), ⟨h_tables, (oG h fun _ h => (oG h fun _ h => (oL h fun _ _ h => (oG h fun _ h => (loopE_next (t := TStep) (fun _ hm => ⟨hc0, hm⟩) _ rfl hl0 ht0 (sm_len h_plan) trivial h)))))⟩⟩⟩⟩) fun h => (h trivial))
 ·rw [vc37]
  exact (loopE_start (t := TStep) (fun m hm => ⟨trivial, hm⟩) _ rfl trivial (ok_then h (fun v0 h hv0 => (oG h fun _ h => (oG h fun _ h => (oG h fun _ h => (oL h fun _ _ h => h))))) (fun _ h => h.elim)))
def c12 : Con := ⟨[.dat TTb, .dat TSS], fun args hp K => g2 (pD TTb) (pD TSS) (fun tables plan => (Sm TTb tables) ∧ (Sm TSS plan) ∧ (∀ r : (List LV), r = (M.planRows tables plan) → K (.clp 0 (r.length : Int)) [(0, .arr true TVS r)])) args hp, .bor⟩
@[reducible] def C12 : Ctx := cx [(36, c36), (37, c37)] 12 [] 0 true
def ann12 := an [[kp 3], [kp 259], [.clip 4, kp 16], [kp 16]] []
theorem vc12 (tables : LTb) (plan : LS) (K : KA) : vcT C12 noLoops ann12 f12 [.data TTb tables, .data TSS plan] [] .raw K =
 ((Sm TTb tables) ∧ (Sm TSS plan) ∧ cond (!(M.planOk tables plan)) (K (.clp 0 (([] : List TVS.D).length : Int)) [(0, .arr true TVS ([] : List TVS.D))]) ((Sm TTb tables) ∧ (Sm TSS plan) ∧ (M.planOk tables plan = true) ∧ (∀ r1 : (List LV), r1 = (M.planRows tables plan) → K (.clp 0 ((r1.take (r1.length : Int).toNat).length : Int)) [(0, .arr true TVS (r1.take (r1.length : Int).toNat))]))) := by kernel_rfl
theorem con12_ok : Con1 P 12 c12 := conR C12 func12 (kC con36_ok (kC con37_ok kN)) fun args hp K h0 => by
 obtain ⟨tables, plan, rfl, rfl, h_tables, h_plan, hK⟩ := g2e h0
 have h : ok (F.impl_PlanRows tables plan) (fun r => K (.clp 0 (r.length : Int)) [(0, .arr true TVS r)]) := ok_of_eq (F.impl_PlanRows_eq tables plan h_tables h_plan) (hK _ rfl)
 refine ⟨rfl, ann12, noLoops, .raw, (no_loops (by kernel_rfl)), ?_⟩
 ·rw [vc12]
  exact ⟨h_tables, ⟨h_plan, (oC h (fun _ h => h) fun b_1 h => ⟨h_tables, ⟨h_plan, ⟨(bnf b_1), (oL h fun _ _ h => h)⟩⟩⟩)⟩⟩
def c73 : Con := ⟨[.dat TValue, .dat TValue], fun args hp K => g2 (pD TValue) (pD TValue) (fun x y => (Sm TValue x) ∧ (Sm TValue y) ∧ (x = y) ∧ K (dB true) []) args hp, .plain⟩
@[reducible] def C73 : Ctx := cx [] 20 [] 0 false
def ann73 := an [[.fixRow 2 TValue, .fixRow 3 TValue, kp 12], [kp 524], [kp 16], [kp 16396], [kp 16], [kp 524288], [kp 16], [kp 16]] []
theorem vc73 (x : TValue.D) (y : TValue.D) (K : KA) : vcT C73 noLoops ann73 f73 [.data TValue x, .data TValue y] [] (.dat Ty.bool) K =
 (cond (!decide (x.1 = y.1)) (K (dB false) []) (cond (!decide (x.2.1 = y.2.1)) (K (dB false) []) (cond (!decide (x.2.2.1 = y.2.2.1)) (K (dB false) []) (K (dB true) [])))) := by kernel_rfl
theorem con73_ok : Con1 P 73 c73 := conR C73 func73 kN fun args hp K h0 => by
 obtain ⟨x, y, rfl, rfl, h_x, h_y, p0, hK⟩ := g2e h0
 have h : ok (F.laws_eqValue x y) (fun r => K (dB r) []) := ok_of_eq (F.laws_eqValue_eq x y h_x h_y p0) hK
 refine ⟨rfl, ann73, noLoops, (.dat Ty.bool), (no_loops (by kernel_rfl)), ?_⟩
 ·rw [vc73]
  exact (oC h (fun _ h => h) fun _ h => (oC h (fun _ h => h) fun _ h => (oC h (fun _ h => h) fun _ h => h)))
def c38 : Con := ⟨[.dat TVS, .dat TVS], fun args hp K => g2 (pD TVS) (pD TVS) (fun x y => (Sm TVS x) ∧ (Sm TVS y) ∧ (x = y) ∧ K (dB true) []) args hp, .bor⟩
@[reducible] def C38 : Ctx := cx [(73, c73)] 27 [] 0 false
def ann38 := an [[kp 3], [kp 1027], [kp 16], [kp 35], [kp 16419], [kp 35], [kp 67108899], [kp 16], [kp 16]] [[kp 0]]
@[reducible] def s38_0 (x : LV) (y : LV) (i0 : Int) (v0 : Unit) : St := ⟨[(0, .data TVS x), (1, .data TVS y), (5, dI i0)], []⟩
@[reducible] def LP38_0 (x : LV) (y : LV) (m : Nat) (st_ : St) (K : KX) : Prop := True ∧ LoopI (s38_0 x y) Z0 (x.length : Int) (F.laws_eqValueS_l0 x y) (fun v0 : Unit => True) (outD (fun v0 : Unit => True → K (.exit 0) (⟨[], []⟩ : St)) (fun q0 : Unit => K .ret (⟨[(4, dB false)], []⟩ : St))) m st_
def L38 (x : LV) (y : LV) : Loops := lp1 0 (LP38_0 x y)
theorem vc38 (x : LV) (y : LV) (K : KA) : vcT C38 (L38 x y) ann38 f38 [.data TVS x, .data TVS y] [] (.dat Ty.bool) K =
 (cond (!decide ((x.length : Int) = (y.length : Int))) (K (dB false) []) (∃ m_, True ∧ LoopI (s38_0 x y) Z0 (x.length : Int) (F.laws_eqValueS_l0 x y) (fun v0 : Unit => True) (outD (fun v0 : Unit => True → K (dB true) []) (fun q0 : Unit => K (dB false) [])) m_ (s38_0 x y Z0 ()))) := by kernel_rfl
theorem lvc38_0 (x : LV) (y : LV)  (i0 : Int) (v0 : Unit) (m : Nat) (K : KX) : lvT C38 (L38 x y) ann38 f38 0 0 (s38_0 x y i0 v0) m K =
 (cond (decide (i0 < (x.length : Int))) ((0 ≤ i0) ∧ (i0 < (x.length : Int)) ∧ (0 ≤ i0) ∧ (i0 < (y.length : Int)) ∧ (Sm TValue (nV x i0)) ∧ (Sm TValue (nV y i0)) ∧ ((nV x i0) = (nV y i0)) ∧ cond (!true) (K .ret (⟨[(4, dB false)], []⟩ : St)) (nxT (LP38_0 x y) m K (s38_0 x y (wrap64 (i0 + Z1)) ()))) (K (.exit 0) (⟨[], []⟩ : St))) := by kernel_rfl
theorem con38_ok : Con1 P 38 c38 := conR C38 func38 (kC con73_ok kN) fun args hp K h0 => by
 obtain ⟨x, y, rfl, rfl, h_x, h_y, p0, hK⟩ := g2e h0
 have h : ok (F.laws_eqValueS x y) (fun r => K (dB r) []) := ok_of_eq (F.laws_eqValueS_eq x y h_x h_y p0) hK
 refine ⟨rfl, ann38, (L38 x y), (.dat Ty.bool), (loopsN1 (i0 := 0) (by kernel_rfl) ?_), ?_⟩
 ·rintro _ _ K ⟨hc0, i0, v0, rfl, hl0, rfl, hv0, h⟩
  exact cast (lvc38_0 _ _ _ _ _ _).symm (loopI_step h (fun ht0 h => ⟨hl0, ⟨ht0, ⟨hl0, (oG h fun _ h => ⟨(sm_nth h_x i0), ⟨(sm_nth h_y i0), (oG h fun _ h => (oC h (fun _ h => h) fun _ h => (loopI_next (fun _ hm => ⟨hc0, hm⟩) _ rfl hl0 low0 ht0 (sm_len h_x) trivial h)))⟩⟩)⟩⟩⟩) fun h => (h trivial))
 ·rw [vc38]
  exact (oC h (fun _ h => h) fun _ h => (loopI_start (fun m hm => ⟨trivial, hm⟩) Z0 _ rfl (Int.natCast_nonneg 0) trivial (ok_then h (fun v0 h hv0 => h) (fun q0 h => h))))
def c13 : Con := ⟨[.dat (Ty.sl TVS), .dat (Ty.sl TVS)], fun args hp K => g2 (pD (Ty.sl TVS)) (pD (Ty.sl TVS)) (fun x y => (Sm (Ty.sl TVS) x) ∧ (Sm (Ty.sl TVS) y) ∧ (x = y) ∧ K (dB true) []) args hp, .bor⟩
@[reducible] def C13 : Ctx := cx [(38, c38)] 27 [] 0 false
def ann13 := an [[kp 3], [kp 1027], [kp 16], [kp 35], [kp 16419], [kp 35], [kp 67108899], [kp 16], [kp 16]] [[kp 0]]
@[reducible] def s13_0 (x : (List LV)) (y : (List LV)) (i0 : Int) (v0 : Unit) : St := ⟨[(0, .data (Ty.sl TVS) x), (1, .data (Ty.sl TVS) y), (5, dI i0)], []⟩
@[reducible] def LP13_0 (x : (List LV)) (y : (List LV)) (m : Nat) (st_ : St) (K : KX) : Prop := True ∧ LoopI (s13_0 x y) Z0 (x.length : Int) (F.laws_eqValueSS_l0 x y) (fun v0 : Unit => True) (outD (fun v0 : Unit => True → K (.exit 0) (⟨[], []⟩ : St)) (fun q0 : Unit => K .ret (⟨[(4, dB false)], []⟩ : St))) m st_
def L13 (x : (List LV)) (y : (List LV)) : Loops := lp1 0 (LP13_0 x y)
theorem vc13 (x : (List LV)) (y : (List LV)) (K : KA) : vcT C13 (L13 x y) ann13 f13 [.data (Ty.sl TVS) x, .data (Ty.sl TVS) y] [] (.dat Ty.bool) K =
 (cond (!decide ((x.length : Int) = (y.length : Int))) (K (dB false) []) (∃ m_, True ∧ LoopI (s13_0 x y) Z0 (x.length : Int) (F.laws_eqValueSS_l0 x y) (fun v0 : Unit => True) (outD (fun v0 : Unit => True → K (dB true) []) (fun q0 : Unit => K (dB false) [])) m_ (s13_0 x y Z0 ()))) := by kernel_rfl
theorem lvc13_0 (x : (List LV)) (y : (List LV))  (i0 : Int) (v0 : Unit) (m : Nat) (K : KX) : lvT C13 (L13 x y) ann13 f13 0 0 (s13_0 x y i0 v0) m K =
 (cond (decide (i0 < (x.length : Int))) ((0 ≤ i0) ∧ (i0 < (x.length : Int)) ∧ (0 ≤ i0) ∧ (i0 < (y.length : Int)) ∧ (Sm TVS (nth (t := TVS) x i0)) ∧ (Sm TVS (nth (t := TVS) y i0)) ∧ ((nth (t := TVS) x i0) = (nth (t := TVS) y i0)) ∧ cond (!true) (K .ret (⟨[(4, dB false)], []⟩ : St)) (nxT (LP13_0 x y) m K (s13_0 x y (wrap64 (i0 + Z1)) ()))) (K (.exit 0) (⟨[], []⟩ : St))) := by kernel_rfl
theorem con13_ok : Con1 P 13 c13 := conR C13 func13 (kC con38_ok kN) fun args hp K h0 => by
 obtain ⟨x, y, rfl, rfl, h_x, h_y, p0, hK⟩ := g2e h0
 have h : ok (F.laws_eqValueSS x y) (fun r => K (dB r) []) := ok_of_eq (F.laws_eqValueSS_eq x y h_x h_y p0) hK
 refine ⟨rfl, ann13, (L13 x y), (.dat Ty.bool), (loopsN1 (i0 := 0) (by kernel_rfl) ?_), ?_⟩
 ·rintro _ _ K ⟨hc0, i0, v0, rfl, hl0, rfl, hv0, h⟩
  exact cast (lvc13_0 _ _ _ _ _ _).symm (loopI_step h (fun ht0 h => ⟨hl0, ⟨ht0, ⟨hl0, (oG h fun _ h => ⟨(sm_nth h_x i0), ⟨(sm_nth h_y i0), (oG h fun _ h => (oC h (fun _ h => h) fun _ h => (loopI_next (fun _ hm => ⟨hc0, hm⟩) _ rfl hl0 low0 ht0 (sm_len h_x) trivial h)))⟩⟩)⟩⟩⟩) fun h => (h trivial))
 ·rw [vc13]
  exact (oC h (fun _ h => h) fun _ h => (loopI_start (fun m hm => ⟨trivial, hm⟩) Z0 _ rfl (Int.natCast_nonneg 0) trivial (ok_then h (fun v0 h hv0 => h) (fun q0 h => h))))
def c110 : Con := ⟨[.dat TColumn, .dat TColumn], fun args hp K => g2 (pD TColumn) (pD TColumn) (fun x y => (x = y) ∧ K (dB true) []) args hp, .plain⟩
@[reducible] def C110 : Ctx := cx [] 15 [] 0 false
def ann110 := an [[.fixRow 2 TColumn, .fixRow 3 TColumn, kp 12], [kp 524], [kp 16], [kp 16384], [kp 16], [kp 16]] []
theorem vc110 (x : TColumn.D) (y : TColumn.D) (K : KA) : vcT C110 noLoops ann110 f110 [.data TColumn x, .data TColumn y] [] (.dat Ty.bool) K =
 (cond (!decide (x.1 = y.1)) (K (dB false) []) (cond (!(Ty.beq Ty.bool x.2.1 y.2.1)) (K (dB false) []) (K (dB true) []))) := by kernel_rfl
theorem con110_ok : Con1 P 110 c110 := conR C110 func110 kN fun args hp K h0 => by
 obtain ⟨x, y, rfl, rfl, p0, hK⟩ := g2e h0
 have h : ok (F.laws_eqColumn x y) (fun r => K (dB r) []) := ok_of_eq (F.laws_eqColumn_eq x y p0) hK
 refine ⟨rfl, ann110, noLoops, (.dat Ty.bool), (no_loops (by kernel_rfl)), ?_⟩
 ·rw [vc110]
  exact (oC h (fun _ h => h) fun _ h => (oC h (fun _ h => h) fun _ h => h))
def c74 : Con := ⟨[.dat TCS, .dat TCS], fun args hp K => g2 (pD TCS) (pD TCS) (fun x y => (Sm TCS x) ∧ (Sm TCS y) ∧ (x = y) ∧ K (dB true) []) args hp, .bor⟩
@[reducible] def C74 : Ctx := cx [(110, c110)] 27 [] 0 false
def ann74 := an [[kp 3], [kp 1027], [kp 16], [kp 35], [kp 16419], [kp 35], [kp 67108899], [kp 16], [kp 16]] [[kp 0]]
@[reducible] def s74_0 (x : LC) (y : LC) (i0 : Int) (v0 : Unit) : St := ⟨[(0, .data TCS x), (1, .data TCS y), (5, dI i0)], []⟩
@[reducible] def LP74_0 (x : LC) (y : LC) (m : Nat) (st_ : St) (K : KX) : Prop := True ∧ LoopI (s74_0 x y) Z0 (x.length : Int) (F.laws_eqColumnS_l0 x y) (fun v0 : Unit => True) (outD (fun v0 : Unit => True → K (.exit 0) (⟨[], []⟩ : St)) (fun q0 : Unit => K .ret (⟨[(4, dB false)], []⟩ : St))) m st_
def L74 (x : LC) (y : LC) : Loops := lp1 0 (LP74_0 x y)
theorem vc74 (x : LC) (y : LC) (K : KA) : vcT C74 (L74 x y) ann74 f74 [.data TCS x, .data TCS y] [] (.dat Ty.bool) K =
 (cond (!decide ((x.length : Int) = (y.length : Int))) (K (dB false) []) (∃ m_, True ∧ LoopI (s74_0 x y) Z0 (x.length : Int) (F.laws_eqColumnS_l0 x y) (fun v0 : Unit => True) (outD (fun v0 : Unit => True → K (dB true) []) (fun q0 : Unit => K (dB false) [])) m_ (s74_0 x y Z0 ()))) := by kernel_rfl
theorem lvc74_0 (x : LC) (y : LC)  (i0 : Int) (v0 : Unit) (m : Nat) (K : KX) : lvT C74 (L74 x y) ann74 f74 0 0 (s74_0 x y i0 v0) m K =
 (cond (decide (i0 < (x.length : Int))) ((0 ≤ i0) ∧ (i0 < (x.length : Int)) ∧ (0 ≤ i0) ∧ (i0 < (y.length : Int)) ∧ ((nC x i0) = (nC y i0)) ∧ cond (!true) (K .ret (⟨[(4, dB false)], []⟩ : St)) (nxT (LP74_0 x y) m K (s74_0 x y (wrap64 (i0 + Z1)) ()))) (K (.exit 0) (⟨[], []⟩ : St))) := by kernel_rfl
theorem con74_ok : Con1 P 74 c74 := conR C74 func74 (kC con110_ok kN) fun args hp K h0 => by
 obtain ⟨x, y, rfl, rfl, h_x, h_y, p0, hK⟩ := g2e h0
 have h : ok (F.laws_eqColumnS x y) (fun r => K (dB r) []) := ok_of_eq (F.laws_eqColumnS_eq x y h_x h_y p0) hK
 refine ⟨rfl, ann74, (L74 x y), (.dat Ty.bool), (loopsN1 (i0 := 0) (by kernel_rfl) ?_), ?_⟩
 ·rintro _ _ K ⟨hc0, i0, v0, rfl, hl0, rfl, hv0, h⟩
  exact cast (lvc74_0 _ _ _ _ _ _).symm (loopI_step h (fun ht0 h => ⟨hl0, ⟨ht0, ⟨hl0, (oG h fun _ h => (oG h fun _ h => (oC h (fun _ h => h) fun _ h => (loopI_next (fun _ hm => ⟨hc0, hm⟩) _ rfl hl0 low0 ht0 (sm_len h_x) trivial h))))⟩⟩⟩) fun h => (h trivial))
 ·rw [vc74]
  exact (oC h (fun _ h => h) fun _ h => (loopI_start (fun m hm => ⟨trivial, hm⟩) Z0 _ rfl (Int.natCast_nonneg 0) trivial (ok_then h (fun v0 h hv0 => h) (fun q0 h => h))))
def c39 : Con := ⟨[.dat TTable, .dat TTable], fun args hp K => g2 (pD TTable) (pD TTable) (fun x y => (Sm TTable x) ∧ (Sm TTable y) ∧ (x = y) ∧ K (dB true) []) args hp, .plain⟩
@[reducible] def C39 : Ctx := cx [(13, c13), (74, c74)] 17 [] 0 false
def ann39 := an [[.fixRow 2 TTable, .fixRow 3 TTable, kp 12], [kp 1036], [kp 16], [kp 65536], [kp 16], [kp 16]] []
theorem vc39 (x : TTable.D) (y : TTable.D) (K : KA) : vcT C39 noLoops ann39 f39 [.data TTable x, .data TTable y] [] (.dat Ty.bool) K =
 ((Sm TCS x.1) ∧ (Sm TCS y.1) ∧ (x.1 = y.1) ∧ cond (!true) (K (dB false) []) ((Sm (Ty.sl TVS) x.2.1) ∧ (Sm (Ty.sl TVS) y.2.1) ∧ (x.2.1 = y.2.1) ∧ cond (!true) (K (dB false) []) (K (dB true) []))) := by kernel_rfl
theorem con39_ok : Con1 P 39 c39 := conR C39 func39 (kC con13_ok (kC con74_ok kN)) fun args hp K h0 => by
 obtain ⟨x, y, rfl, rfl, h_x, h_y, p0, hK⟩ := g2e h0
 have h : ok (F.laws_eqTable x y) (fun r => K (dB r) []) := ok_of_eq (F.laws_eqTable_eq x y h_x h_y p0) hK
 refine ⟨rfl, ann39, noLoops, (.dat Ty.bool), (no_loops (by kernel_rfl)), ?_⟩
 ·rw [vc39]
  exact ⟨h_x.1, ⟨h_y.1, (oG h fun _ h => (oC h (fun _ h => h) fun b_2 h => ⟨h_x.2.1, ⟨h_y.2.1, (oG h fun _ h => (cond_f (unf (bnf b_2)) h))⟩⟩))⟩⟩
def c14 : Con := ⟨[.dat TTb, .dat TTb], fun args hp K => g2 (pD TTb) (pD TTb) (fun x y => (Sm TTb x) ∧ (Sm TTb y) ∧ (x = y) ∧ K (dB true) []) args hp, .bor⟩
@[reducible] def C14 : Ctx := cx [(39, c39)] 27 [] 0 false
def ann14 := an [[kp 3], [kp 1027], [kp 16], [kp 35], [kp 16419], [kp 35], [kp 67108899], [kp 16], [kp 16]] [[kp 0]]
@[reducible] def s14_0 (x : LTb) (y : LTb) (i0 : Int) (v0 : Unit) : St := ⟨[(0, .data TTb x), (1, .data TTb y), (5, dI i0)], []⟩
@[reducible] def LP14_0 (x : LTb) (y : LTb) (m : Nat) (st_ : St) (K : KX) : Prop := True ∧ LoopI (s14_0 x y) Z0 (x.length : Int) (F.laws_eqTableS_l0 x y) (fun v0 : Unit => True) (outD (fun v0 : Unit => True → K (.exit 0) (⟨[], []⟩ : St)) (fun q0 : Unit => K .ret (⟨[(4, dB false)], []⟩ : St))) m st_
def L14 (x : LTb) (y : LTb) : Loops := lp1 0 (LP14_0 x y)
theorem vc14 (x : LTb) (y : LTb) (K : KA) : vcT C14 (L14 x y) ann14 f14 [.data TTb x, .data TTb y] [] (.dat Ty.bool) K =
 (cond (!decide ((x.length : Int) = (y.length : Int))) (K (dB false) []) (∃ m_, True ∧ LoopI (s14_0 x y) Z0 (x.length : Int) (F.laws_eqTableS_l0 x y) (fun v0 : Unit => True) (outD (fun v0 : Unit => True → K (dB true) []) (fun q0 : Unit => K (dB false) [])) m_ (s14_0 x y Z0 ()))) := by kernel_rfl
theorem lvc14_0 (x : LTb) (y : LTb)  (i0 : Int) (v0 : Unit) (m : Nat) (K : KX) : lvT C14 (L14 x y) ann14 f14 0 0 (s14_0 x y i0 v0) m K =
 (cond (decide (i0 < (x.length : Int))) ((0 ≤ i0) ∧ (i0 < (x.length : Int)) ∧ (0 ≤ i0) ∧ (i0 < (y.length : Int)) ∧ (Sm TTable (nT x i0)) ∧ (Sm TTable (nT y i0)) ∧ ((nT x i0) = (nT y i0)) ∧ cond (!true) (K .ret (⟨[(4, dB false)], []⟩ : St)) (nxT (LP14_0 x y) m K (s14_0 x y (wrap64 (i0 + Z1)) ()))) (K (.exit 0) (⟨[], []⟩ : St))) := by kernel_rfl
theorem con14_ok : Con1 P 14 c14 := conR C14 func14 (kC con39_ok kN) fun args hp K h0 => by
 obtain ⟨x, y, rfl, rfl, h_x, h_y, p0, hK⟩ := g2e h0
 have h : ok (F.laws_eqTableS x y) (fun r => K (dB r) []) := ok_of_eq (F.laws_eqTableS_eq x y h_x h_y p0) hK
 refine ⟨rfl, ann14, (L14 x y), (.dat Ty.bool), (loopsN1 (i0 := 0) (by kernel_rfl) ?_), ?_⟩
 ·rintro _ _ K ⟨hc0, i0, v0, rfl, hl0, rfl, hv0, h⟩
  exact cast (lvc14_0 _ _ _ _ _ _).symm (loopI_step h (fun ht0 h => ⟨hl0, ⟨ht0, ⟨hl0, (oG h fun _ h => ⟨(sm_nth h_x i0), ⟨(sm_nth h_y i0), (oG h fun _ h => (oC h (fun _ h => h) fun _ h => (loopI_next (fun _ hm => ⟨hc0, hm⟩) _ rfl hl0 low0 ht0 (sm_len h_x) trivial h)))⟩⟩)⟩⟩⟩) fun h => (h trivial))
 ·rw [vc14]
  exact (oC h (fun _ h => h) fun _ h => (loopI_start (fun m hm => ⟨trivial, hm⟩) Z0 _ rfl (Int.natCast_nonneg 0) trivial (ok_then h (fun v0 h hv0 => h) (fun q0 h => h))))
def c22 : Con := ⟨[.dat (Ty.sl TInt), .dat (Ty.sl TInt)], fun args hp K => g2 (pD (Ty.sl TInt)) (pD (Ty.sl TInt)) (fun x y => (Sm (Ty.sl TInt) x) ∧ (Sm (Ty.sl TInt) y) ∧ (x = y) ∧ K (dB true) []) args hp, .bor⟩
@[reducible] def C22 : Ctx := cx [] 26 [] 0 false
def ann22 := an [[kp 3], [kp 1027], [kp 16], [kp 35], [kp 16419], [kp 35], [kp 33554467], [kp 16], [kp 16]] [[kp 0]]
@[reducible] def s22_0 (x : (List Int)) (y : (List Int)) (i0 : Int) (v0 : Unit) : St := ⟨[(0, .data (Ty.sl TInt) x), (1, .data (Ty.sl TInt) y), (5, dI i0)], []⟩
@[reducible] def LP22_0 (x : (List Int)) (y : (List Int)) (m : Nat) (st_ : St) (K : KX) : Prop := True ∧ LoopI (s22_0 x y) Z0 (x.length : Int) (F.laws_eqIntS_l0 x y) (fun v0 : Unit => True) (outD (fun v0 : Unit => True → K (.exit 0) (⟨[], []⟩ : St)) (fun q0 : Unit => K .ret (⟨[(4, dB false)], []⟩ : St))) m st_
def L22 (x : (List Int)) (y : (List Int)) : Loops := lp1 0 (LP22_0 x y)
theorem vc22 (x : (List Int)) (y : (List Int)) (K : KA) : vcT C22 (L22 x y) ann22 f22 [.data (Ty.sl TInt) x, .data (Ty.sl TInt) y] [] (.dat Ty.bool) K =
 (cond (!decide ((x.length : Int) = (y.length : Int))) (K (dB false) []) (∃ m_, True ∧ LoopI (s22_0 x y) Z0 (x.length : Int) (F.laws_eqIntS_l0 x y) (fun v0 : Unit => True) (outD (fun v0 : Unit => True → K (dB true) []) (fun q0 : Unit => K (dB false) [])) m_ (s22_0 x y Z0 ()))) := by kernel_rfl
theorem lvc22_0 (x : (List Int)) (y : (List Int))  (i0 : Int) (v0 : Unit) (m : Nat) (K : KX) : lvT C22 (L22 x y) ann22 f22 0 0 (s22_0 x y i0 v0) m K =
 (cond (decide (i0 < (x.length : Int))) ((0 ≤ i0) ∧ (i0 < (x.length : Int)) ∧ (0 ≤ i0) ∧ (i0 < (y.length : Int)) ∧ cond (!decide ((nI x i0) = (nI y i0))) (K .ret (⟨[(4, dB false)], []⟩ : St)) (nxT (LP22_0 x y) m K (s22_0 x y (wrap64 (i0 + Z1)) ()))) (K (.exit 0) (⟨[], []⟩ : St))) := by kernel_rfl
theorem con22_ok : Con1 P 22 c22 := conR C22 func22 kN fun args hp K h0 => by
 obtain ⟨x, y, rfl, rfl, h_x, h_y, p0, hK⟩ := g2e h0
 have h : ok (F.laws_eqIntS x y) (fun r => K (dB r) []) := ok_of_eq (F.laws_eqIntS_eq x y h_x h_y p0) hK
 refine ⟨rfl, ann22, (L22 x y), (.dat Ty.bool), (loopsN1 (i0 := 0) (by kernel_rfl) ?_), ?_⟩
 ·rintro _ _ K ⟨hc0, i0, v0, rfl, hl0, rfl, hv0, h⟩
  exact cast (lvc22_0 _ _ _ _ _ _).symm (loopI_step h (fun ht0 h => ⟨hl0, ⟨ht0, ⟨hl0, (oG h fun _ h => (oC h (fun _ h => h) fun _ h => (loopI_next (fun _ hm => ⟨hc0, hm⟩) _ rfl hl0 low0 ht0 (sm_len h_x) trivial h)))⟩⟩⟩) fun h => (h trivial))
 ·rw [vc22]
  exact (oC h (fun _ h => h) fun _ h => (loopI_start (fun m hm => ⟨trivial, hm⟩) Z0 _ rfl (Int.natCast_nonneg 0) trivial (ok_then h (fun v0 h hv0 => h) (fun q0 h => h))))
def c111 : Con := ⟨[.dat TPart, .dat TPart], fun args hp K => g2 (pD TPart) (pD TPart) (fun x y => (Sm TPart x) ∧ (Sm TPart y) ∧ (x = y) ∧ K (dB true) []) args hp, .plain⟩
@[reducible] def C111 : Ctx := cx [(73, c73)] 21 [] 0 false
def ann111 := an [[.fixRow 2 TPart, .fixRow 3 TPart, kp 12], [kp 524], [kp 16], [kp 16396], [kp 16], [kp 1048576], [kp 16], [kp 16]] []
theorem vc111 (x : TPart.D) (y : TPart.D) (K : KA) : vcT C111 noLoops ann111 f111 [.data TPart x, .data TPart y] [] (.dat Ty.bool) K =
 (cond (!decide (x.1 = y.1)) (K (dB false) []) (cond (!decide (x.2.1 = y.2.1)) (K (dB false) []) ((Sm TValue x.2.2.1) ∧ (Sm TValue y.2.2.1) ∧ (x.2.2.1 = y.2.2.1) ∧ cond (!true) (K (dB false) []) (K (dB true) [])))) := by kernel_rfl
theorem con111_ok : Con1 P 111 c111 := conR C111 func111 (kC con73_ok kN) fun args hp K h0 => by
 obtain ⟨x, y, rfl, rfl, h_x, h_y, p0, hK⟩ := g2e h0
 have h : ok (F.laws_eqPart x y) (fun r => K (dB r) []) := ok_of_eq (F.laws_eqPart_eq x y h_x h_y p0) hK
 refine ⟨rfl, ann111, noLoops, (.dat Ty.bool), (no_loops (by kernel_rfl)), ?_⟩
 ·rw [vc111]
  exact (oC h (fun _ h => h) fun _ h => (oC h (fun _ h => h) fun _ h => ⟨h_x.2.2.1, ⟨h_y.2.2.1, (oG h fun _ h => (oC h (fun _ h => h) fun _ h => h))⟩⟩))
def c75 : Con := ⟨[.dat TPS, .dat TPS], fun args hp K => g2 (pD TPS) (pD TPS) (fun x y => (Sm TPS x) ∧ (Sm TPS y) ∧ (x = y) ∧ K (dB true) []) args hp, .bor⟩
@[reducible] def C75 : Ctx := cx [(111, c111)] 27 [] 0 false
def ann75 := an [[kp 3], [kp 1027], [kp 16], [kp 35], [kp 16419], [kp 35], [kp 67108899], [kp 16], [kp 16]] [[kp 0]]
@[reducible] def s75_0 (x : LPt) (y : LPt) (i0 : Int) (v0 : Unit) : St := ⟨[(0, .data TPS x), (1, .data TPS y), (5, dI i0)], []⟩
@[reducible] def LP75_0 (x : LPt) (y : LPt) (m : Nat) (st_ : St) (K : KX) : Prop := True ∧ LoopI (s75_0 x y) Z0 (x.length : Int) (F.laws_eqPartS_l0 x y) (fun v0 : Unit => True) (outD (fun v0 : Unit => True → K (.exit 0) (⟨[], []⟩ : St)) (fun q0 : Unit => K .ret (⟨[(4, dB false)], []⟩ : St))) m st_
def L75 (x : LPt) (y : LPt) : Loops := lp1 0 (LP75_0 x y)
theorem vc75 (x : LPt) (y : LPt) (K : KA) : vcT C75 (L75 x y) ann75 f75 [.data TPS x, .data TPS y] [] (.dat Ty.bool) K =
 (cond (!decide ((x.length : Int) = (y.length : Int))) (K (dB false) []) (∃ m_, True ∧ LoopI (s75_0 x y) Z0 (x.length : Int) (F.laws_eqPartS_l0 x y) (fun v0 : Unit => True) (outD (fun v0 : Unit => True → K (dB true) []) (fun q0 : Unit => K (dB false) [])) m_ (s75_0 x y Z0 ()))) := by kernel_rfl
theorem lvc75_0 (x : LPt) (y : LPt)  (i0 : Int) (v0 : Unit) (m : Nat) (K : KX) : lvT C75 (L75 x y) ann75 f75 0 0 (s75_0 x y i0 v0) m K =
 (cond (decide (i0 < (x.length : Int))) ((0 ≤ i0) ∧ (i0 < (x.length : Int)) ∧ (0 ≤ i0) ∧ (i0 < (y.length : Int)) ∧ (Sm TPart (nP x i0)) ∧ (Sm TPart (nP y i0)) ∧ ((nP x i0) = (nP y i0)) ∧ cond (!true) (K .ret (⟨[(4, dB false)], []⟩ : St)) (nxT (LP75_0 x y) m K (s75_0 x y (wrap64 (i0 + Z1)) ()))) (K (.exit 0) (⟨[], []⟩ : St))) := by kernel_rfl
theorem con75_ok : Con1 P 75 c75 := conR C75 func75 (kC con111_ok kN) fun args hp K h0 => by
 obtain ⟨x, y, rfl, rfl, h_x, h_y, p0, hK⟩ := g2e h0
 have h : ok (F.laws_eqPartS x y) (fun r => K (dB r) []) := ok_of_eq (F.laws_eqPartS_eq x y h_x h_y p0) hK
 refine ⟨rfl, ann75, (L75 x y), (.dat Ty.bool), (loopsN1 (i0 := 0) (by kernel_rfl) ?_), ?_⟩
 ·rintro _ _ K ⟨hc0, i0, v0, rfl, hl0, rfl, hv0, h⟩
  exact cast (lvc75_0 _ _ _ _ _ _).symm (loopI_step h (fun ht0 h => ⟨hl0, ⟨ht0, ⟨hl0, (oG h fun _ h => ⟨(sm_nth h_x i0), ⟨(sm_nth h_y i0), (oG h fun _ h => (oC h (fun _ h => h) fun _ h => (loopI_next (fun _ hm => ⟨hc0, hm⟩) _ rfl hl0 low0 ht0 (sm_len h_x) trivial h)))⟩⟩)⟩⟩⟩) fun h => (h trivial))
 ·rw [vc75]
  exact (oC h (fun _ h => h) fun _ h => (loopI_start (fun m hm => ⟨trivial, hm⟩) Z0 _ rfl (Int.natCast_nonneg 0) trivial (ok_then h (fun v0 h hv0 => h) (fun q0 h => h))))
def c40 : Con := ⟨[.dat TStep, .dat TStep], fun args hp K => g2 (pD TStep) (pD TStep) (fun x y => (Sm TStep x) ∧ (Sm TStep y) ∧ (x = y) ∧ K (dB true) []) args hp, .plain⟩
@[reducible] def C40 : Ctx := cx [(22, c22), (75, c75)] 37 [] 0 false
def ann40 := an [[.fixRow 2 TStep, .fixRow 3 TStep, kp 12], [kp 524], [kp 16], [kp 16396], [kp 16], [kp 524300], [kp 16], [kp 16777228], [kp 16], [kp 1073741836], [kp 16], [.keep [36]], [kp 16], [kp 16]] []
theorem vc40 (x : TStep.D) (y : TStep.D) (K : KA) : vcT C40 noLoops ann40 f40 [.data TStep x, .data TStep y] [] (.dat Ty.bool) K =
 (cond (!decide (x.1 = y.1)) (K (dB false) []) (cond (!decide (x.2.1 = y.2.1)) (K (dB false) []) (cond (!decide (x.2.2.1 = y.2.2.1)) (K (dB false) []) (cond (!decide (x.2.2.2.1 = y.2.2.2.1)) (K (dB false) []) ((Sm TPS x.2.2.2.2.1) ∧ (Sm TPS y.2.2.2.2.1) ∧ (x.2.2.2.2.1 = y.2.2.2.2.1) ∧ cond (!true) (K (dB false) []) ((Sm (Ty.sl TInt) x.2.2.2.2.2.1) ∧ (Sm (Ty.sl TInt) y.2.2.2.2.2.1) ∧ (x.2.2.2.2.2.1 = y.2.2.2.2.2.1) ∧ cond (!true) (K (dB false) []) (K (dB true) []))))))) := by kernel_rfl
theorem con40_ok : Con1 P 40 c40 := conR C40 func40 (kC con22_ok (kC con75_ok kN)) fun args hp K h0 => by
 obtain ⟨x, y, rfl, rfl, h_x, h_y, p0, hK⟩ := g2e h0
 have h : ok (F.laws_eqStep x y) (fun r => K (dB r) []) := ok_of_eq (F.laws_eqStep_eq x y h_x h_y p0) hK
 refine ⟨rfl, ann40, noLoops, (.dat Ty.bool), (no_loops (by kernel_rfl)), ?_⟩
 ·rw [vc40]
  exact (oC h (fun _ h => h) fun _ h => (oC h (fun _ h => h) fun _ h => (oC h (fun _ h => h) fun _ h => (oC h (fun _ h => h) fun _ h => ⟨h_x.2.2.2.2.1, ⟨h_y.2.2.2.2.1, (oG h fun _ h => (oC h (fun _ h => h) fun b_6 h => ⟨h_x.2.2.2.2.2.1, ⟨h_y.2.2.2.2.2.1, (oG h fun _ h => (cond_f (unf (bnf b_6)) h))⟩⟩))⟩⟩))))
def c15 : Con := ⟨[.dat TSS, .dat TSS], fun args hp K => g2 (pD TSS) (pD TSS) (fun x y => (Sm TSS x) ∧ (Sm TSS y) ∧ (x = y) ∧ K (dB true) []) args hp, .bor⟩
@[reducible] def C15 : Ctx := cx [(40, c40)] 27 [] 0 false
def ann15 := an [[kp 3], [kp 1027], [kp 16], [kp 35], [kp 16419], [kp 35], [kp 67108899], [kp 16], [kp 16]] [[kp 0]]
@[reducible] def s15_0 (x : LS) (y : LS) (i0 : Int) (v0 : Unit) : St := ⟨[(0, .data TSS x), (1, .data TSS y), (5, dI i0)], []⟩
@[reducible] def LP15_0 (x : LS) (y : LS) (m : Nat) (st_ : St) (K : KX) : Prop := True ∧ LoopI (s15_0 x y) Z0 (x.length : Int) (F.laws_eqStepS_l0 x y) (fun v0 : Unit => True) (outD (fun v0 : Unit => True → K (.exit 0) (⟨[], []⟩ : St)) (fun q0 : Unit => K .ret (⟨[(4, dB false)], []⟩ : St))) m st_
def L15 (x : LS) (y : LS) : Loops := lp1 0 (LP15_0 x y)
theorem vc15 (x : LS) (y : LS) (K : KA) : vcT C15 (L15 x y) ann15 f15 [.data TSS x, .data TSS y] [] (.dat Ty.bool) K =
 (cond (!decide ((x.length : Int) = (y.length : Int))) (K (dB false) []) (∃ m_, True ∧ LoopI (s15_0 x y) Z0 (x.length : Int) (F.laws_eqStepS_l0 x y) (fun v0 : Unit => True) (outD (fun v0 : Unit => True → K (dB true) []) (fun q0 : Unit => K (dB false) [])) m_ (s15_0 x y Z0 ()))) := by kernel_rfl
theorem lvc15_0 (x : LS) (y : LS)  (i0 : Int) (v0 : Unit) (m : Nat) (K : KX) : lvT C15 (L15 x y) ann15 f15 0 0 (s15_0 x y i0 v0) m K =
 (cond (decide (i0 < (x.length : Int))) ((0 ≤ i0) ∧ (i0 < (x.length : Int)) ∧ (0 ≤ i0) ∧ (i0 < (y.length : Int)) ∧ (Sm TStep (nS x i0)) ∧ (Sm TStep (nS y i0)) ∧ ((nS x i0) = (nS y i0)) ∧ cond (!true) (K .ret (⟨[(4, dB false)], []⟩ : St)) (nxT (LP15_0 x y) m K (s15_0 x y (wrap64 (i0 + Z1)) ()))) (K (.exit 0) (⟨[], []⟩ : St))) := by kernel_rfl
theorem con15_ok : Con1 P 15 c15 := conR C15 func15 (kC con40_ok kN) fun args hp K h0 => by
 obtain ⟨x, y, rfl, rfl, h_x, h_y, p0, hK⟩ := g2e h0
 have h : ok (F.laws_eqStepS x y) (fun r => K (dB r) []) := ok_of_eq (F.laws_eqStepS_eq x y h_x h_y p0) hK
 refine ⟨rfl, ann15, (L15 x y), (.dat Ty.bool), (loopsN1 (i0 := 0) (by kernel_rfl) ?_), ?_⟩
 ·rintro _ _ K ⟨hc0, i0, v0, rfl, hl0, rfl, hv0, h⟩
  exact cast (lvc15_0 _ _ _ _ _ _).symm (loopI_step h (fun ht0 h => ⟨hl0, ⟨ht0, ⟨hl0, (oG h fun _ h => ⟨(sm_nth h_x i0), ⟨(sm_nth h_y i0), (oG h fun _ h => (oC h (fun _ h => h) fun _ h => (loopI_next (fun _ hm => ⟨hc0, hm⟩) _ rfl hl0 low0 ht0 (sm_len h_x) trivial h)))⟩⟩)⟩⟩⟩) fun h => (h trivial))
 ·rw [vc15]
  exact (oC h (fun _ h => h) fun _ h => (loopI_start (fun m hm => ⟨trivial, hm⟩) Z0 _ rfl (Int.natCast_nonneg 0) trivial (ok_then h (fun v0 h hv0 => h) (fun q0 h => h))))
def c76 : Con := ⟨[.dat TInt], fun args hp K => g1 (pD TInt) (fun k => (k ≤ M.big) ∧ (∀ r : ByteArray, r = (M.markText k) → K (.data Ty.str r) [])) args hp, .plain⟩
@[reducible] def C76 : Ctx := cx [] 20 [] 0 false
def ann76 := an [[kp 1], [kp 33], [kp 4], [kp 9], [kp 137], [kp 9], [kp 9], [kp 4]] [[kp 8]]
@[reducible] def s76_0 (k : Int) (v0 : Int × ByteArray) : St := ⟨[(0, dI v0.1), (3, .data Ty.str v0.2)], []⟩
@[reducible] def LP76_0 (k : Int) (m : Nat) (st_ : St) (K : KX) : Prop := True ∧ LoopW (s76_0 k) (F.laws_markText_l0 k) (fun v0 : Int × ByteArray => True) (fun e0 : ByteArray => True → K (.exit 0) (⟨[(3, .data Ty.str e0)], []⟩ : St)) m st_
def L76 (k : Int) : Loops := lp1 0 (LP76_0 k)
theorem vc76 (k : Int) (K : KA) : vcT C76 (L76 k) ann76 f76 [dI k] [] (.dat Ty.str) K =
 (cond (decide (k ≤ Z0)) (K (.data Ty.str (⟨#[109, 48]⟩ : ByteArray)) []) (∃ m_, True ∧ LoopW (s76_0 k) (F.laws_markText_l0 k) (fun v0 : Int × ByteArray => True) (fun e0 : ByteArray => True → ((⟨#[109]⟩ : ByteArray).size + e0.size ≤ 9223372036854775807) ∧ K (.data Ty.str ((⟨#[109]⟩ : ByteArray) ++ e0)) []) m_ (s76_0 k (k, (⟨#[]⟩ : ByteArray))))) := by kernel_rfl
theorem lvc76_0 (k : Int)  (v0 : Int × ByteArray) (m : Nat) (K : KX) : lvT C76 (L76 k) ann76 f76 0 0 (s76_0 k v0) m K =
 (cond (decide (Z0 < v0.1)) (((10 : Int) ≠ 0) ∧ ((strOf [((wrap64 ((48 : Int) + (v0.1.tmod (10 : Int)))) % 256)]).size + v0.2.size ≤ 9223372036854775807) ∧ ((10 : Int) ≠ 0) ∧ (nxT (LP76_0 k) m K (s76_0 k (wrap64 (v0.1.tdiv (10 : Int)), ((strOf [((wrap64 ((48 : Int) + (v0.1.tmod (10 : Int)))) % 256)]) ++ v0.2))))) (K (.exit 0) (⟨[(3, .data Ty.str v0.2)], []⟩ : St))) := by kernel_rfl
theorem con76_ok : Con1 P 76 c76 := conR C76 func76 kN fun args hp K h0 => by
 obtain ⟨k, rfl, rfl, p0, hK⟩ := g1e h0
 have h : ok (F.laws_markText k) (fun r => K (.data Ty.str r) []) := ok_of_eq (F.laws_markText_eq k p0) (hK _ rfl)
 refine ⟨rfl, ann76, (L76 k), (.dat Ty.str), (loopsN1 (i0 := 0) (by kernel_rfl) ?_), ?_⟩
 ·rintro _ _ K ⟨hc0, v0, rfl, hv0, h⟩
  exact cast (lvc76_0 _ _ _ _).symm (loopW_step h (fun m1 hm0 h => (oC h (fun _ h => ⟨(by decide), (oG h fun _ h => ⟨(by decide), (loopW_next (fun _ hm => ⟨hc0, hm⟩) hm0 _ rfl trivial h)⟩)⟩) fun _ h => ((ok_ret h :) trivial))))
 ·rw [vc76]
  exact (oC h (fun _ h => h) fun _ h => (loopW_start (fun m hm => ⟨trivial, hm⟩) _ rfl trivial (ok_bind h (fun e0 h hv0 => (oG h fun _ h => h)))))
def c43 : Con := ⟨[.dat TInt], fun args hp K => hpN 1000000 false TValue (fun x => args2 (fun a0 a1 => withC 1000000 (x.length : Int) a0 (withD TInt a1 fun k => (Ln TVS x) ∧ (0 ≤ k) ∧ (k + (M.count TVS x : Int) ≤ M.big) ∧ (∀ r : LV × Int, r = (M.mark TVS x k, k + (M.count TVS x : Int)) → K (dI r.2) [(1000000, .arr false TValue r.1)]))) args []) hp, .io⟩
@[reducible] def C43 : Ctx := cx [(76, c76)] 35 [] 0 false
def ann43 := an [[kp 3], [kp 35], [kp 547], [kp 35], [kp 35], [kp 35], [kp 35], [kp 35], [kp 35], [kp 35], [kp 16]] [[kp 2]]
@[reducible] def s43_0 (x : LV) (k : Int) (i0 : Int) (v0 : Int × LV) : St := ⟨[(0, .clp 1000000 (x.length : Int)), (1, dI v0.1), (5, dI i0)], [(1000000, .arr false TValue v0.2)]⟩
@[reducible] def LP43_0 (x : LV) (k : Int) (m : Nat) (st_ : St) (K : KX) : Prop := True ∧ LoopI (s43_0 x k) Z0 (x.length : Int) (F.laws_markValueS_l0 x k) (fun v0 : Int × LV => True) (outD (fun v0 : Int × LV => True → K (.exit 0) (⟨[(1, dI v0.1)], [(1000000, .arr false TValue v0.2)]⟩ : St)) (fun _ => False)) m st_
def L43 (x : LV) (k : Int) : Loops := lp1 0 (LP43_0 x k)
theorem vc43 (x : LV) (k : Int) (K : KA) : vcT C43 (L43 x k) ann43 f43 [.clp 1000000 (x.length : Int), dI k] [(1000000, .arr false TValue x)] .raw K =
 (∃ m_, True ∧ LoopI (s43_0 x k) Z0 (x.length : Int) (F.laws_markValueS_l0 x k) (fun v0 : Int × LV => True) (outD (fun v0 : Int × LV => True → K (dI v0.1) [(1000000, .arr false TValue v0.2)]) (fun _ => False)) m_ (s43_0 x k Z0 (k, x))) := by kernel_rfl
theorem lvc43_0 (x : LV) (k : Int)  (i0 : Int) (v0 : Int × LV) (m : Nat) (K : KX) : lvT C43 (L43 x k) ann43 f43 0 0 (s43_0 x k i0 v0) m K =
 (cond (decide (i0 < (x.length : Int))) ((0 ≤ i0) ∧ (i0 < (x.length : Int)) ∧ (0 ≤ i0) ∧ (i0 < (x.length : Int)) ∧ (let y1 : LV := ((v0.2.set i0.toNat (v0.1, (nV v0.2 i0).2)).set i0.toNat ((nV (v0.2.set i0.toNat (v0.1, (nV v0.2 i0).2)) i0).1, (wrap64 (v0.1 + Z1), (nV (v0.2.set i0.toNat (v0.1, (nV v0.2 i0).2)) i0).2.2))); ((wrap64 (wrap64 (v0.1 + Z1) + Z1)) ≤ M.big) ∧ (∀ r1 : ByteArray, r1 = (M.markText (wrap64 (wrap64 (v0.1 + Z1) + Z1))) → (0 ≤ i0) ∧ (i0 < (x.length : Int)) ∧ (let y2 : LV := (y1.set i0.toNat ((nV y1 i0).1, ((nV y1 i0).2.1, (r1, ())))); (nxT (LP43_0 x k) m K (s43_0 x k (wrap64 (i0 + Z1)) (wrap64 (wrap64 (wrap64 (v0.1 + Z1) + Z1) + Z1), y2))))))) (K (.exit 0) (⟨[(1, dI v0.1)], [(1000000, .arr false TValue v0.2)]⟩ : St))) := by kernel_rfl
theorem con43_ok : Con1 P 43 c43 := conR C43 func43 (kC con76_ok kN) fun args hp K h0 => by
 unfold c43 at h0
 dsimp only at h0
 obtain ⟨x, rfl, h00⟩ := hpN_elim (n := 1000000) (d := false) (t := TValue) h0
 obtain ⟨a0, a1, rfl, _, h1⟩ := args2_elim h00
 obtain ⟨rfl, h2⟩ := withC_elim h1
 obtain ⟨k, rfl, h3⟩ := withD_elim h2
 obtain ⟨h_x, p0, p1, hK⟩ := h3
 have h : ok (F.laws_markValueS x k) (fun r => K (dI r.2) [(1000000, .arr false TValue r.1)]) := ok_of_eq (F.laws_markValueS_eq x k h_x p0 p1) (hK _ rfl)
 refine ⟨rfl, ann43, (L43 x k), .raw, (loopsN1 (i0 := 0) (by kernel_rfl) ?_), ?_⟩
 ·rintro _ _ K ⟨hc0, i0, v0, rfl, hl0, rfl, hv0, h⟩
  exact cast (lvc43_0 _ _ _ _ _ _).symm (loopI_step h (fun ht0 h => ⟨hl0, ⟨ht0, ⟨hl0, ⟨ht0, (have h := ok_let h _ rfl; (oG h fun _ h => (oL h fun _ _ h => ⟨hl0, ⟨ht0, (have h := ok_let h _ rfl; (loopI_next (fun _ hm => ⟨hc0, hm⟩) _ rfl hl0 low0 ht0 (sm_len h_x) trivial h))⟩⟩)))⟩⟩⟩⟩) fun h => (h trivial))
 ·rw [vc43]
  exact (loopI_start (fun m hm => ⟨trivial, hm⟩) Z0 _ rfl (Int.natCast_nonneg 0) trivial (ok_then h (fun v0 h hv0 => h) (fun _ h => h.elim)))
def c18 : Con := ⟨[.dat TInt], fun args hp K => hpN 1000000 true TVS (fun x => args2 (fun a0 a1 => withC 1000000 (x.length : Int) a0 (withD TInt a1 fun k => (Ln (Ty.sl TVS) x) ∧ (0 ≤ k) ∧ (k + (M.count (Ty.sl TVS) x : Int) ≤ M.big) ∧ (∀ r : (List LV) × Int, r = (M.mark (Ty.sl TVS) x k, k + (M.count (Ty.sl TVS) x : Int)) → K (dI r.2) [(1000000, .arr true TVS r.1)]))) args []) hp, .io⟩
@[reducible] def C18 : Ctx := cx [(43, c43)] 19 [] 0 false
def ann18 := an [[kp 3], [kp 35], [kp 547], [kp 35], [kp 35], [kp 16]] [[kp 2]]
@[reducible] def s18_0 (x : (List LV)) (k : Int) (i0 : Int) (v0 : Int × (List LV)) : St := ⟨[(0, .clp 1000000 (x.length : Int)), (1, dI v0.1), (5, dI i0)], [(1000000, .arr true TVS v0.2)]⟩
@[reducible] def LP18_0 (x : (List LV)) (k : Int) (m : Nat) (st_ : St) (K : KX) : Prop := True ∧ LoopI (s18_0 x k) Z0 (x.length : Int) (F.laws_markValueSS_l0 x k) (fun v0 : Int × (List LV) => True) (outD (fun v0 : Int × (List LV) => True → K (.exit 0) (⟨[(1, dI v0.1)], [(1000000, .arr true TVS v0.2)]⟩ : St)) (fun _ => False)) m st_
def L18 (x : (List LV)) (k : Int) : Loops := lp1 0 (LP18_0 x k)
theorem vc18 (x : (List LV)) (k : Int) (K : KA) : vcT C18 (L18 x k) ann18 f18 [.clp 1000000 (x.length : Int), dI k] [(1000000, .arr true TVS x)] .raw K =
 (∃ m_, True ∧ LoopI (s18_0 x k) Z0 (x.length : Int) (F.laws_markValueSS_l0 x k) (fun v0 : Int × (List LV) => True) (outD (fun v0 : Int × (List LV) => True → K (dI v0.1) [(1000000, .arr true TVS v0.2)]) (fun _ => False)) m_ (s18_0 x k Z0 (k, x))) := by kernel_rfl
theorem lvc18_0 (x : (List LV)) (k : Int)  (i0 : Int) (v0 : Int × (List LV)) (m : Nat) (K : KX) : lvT C18 (L18 x k) ann18 f18 0 0 (s18_0 x k i0 v0) m K =
 (cond (decide (i0 < (x.length : Int))) ((0 ≤ i0) ∧ (i0 < (x.length : Int)) ∧ (((nth (t := TVS) v0.2 i0).length : Int) = ((nth (t := TVS) v0.2 i0).length : Int)) ∧ (Ln TVS (nth (t := TVS) v0.2 i0)) ∧ (0 ≤ v0.1) ∧ (v0.1 + (M.count TVS (nth (t := TVS) v0.2 i0) : Int) ≤ M.big) ∧ (∀ r1 : LV × Int, r1 = (M.mark TVS (nth (t := TVS) v0.2 i0) v0.1, v0.1 + (M.count TVS (nth (t := TVS) v0.2 i0) : Int)) → (r1.1.length = (nth (t := TVS) v0.2 i0).length) ∧ (nxT (LP18_0 x k) m K (s18_0 x k (wrap64 (i0 + Z1)) (r1.2, (v0.2.set i0.toNat r1.1)))))) (K (.exit 0) (⟨[(1, dI v0.1)], [(1000000, .arr true TVS v0.2)]⟩ : St))) := by kernel_rfl
theorem con18_ok : Con1 P 18 c18 := conR C18 func18 (kC con43_ok kN) fun args hp K h0 => by
 unfold c18 at h0
 dsimp only at h0
 obtain ⟨x, rfl, h00⟩ := hpN_elim (n := 1000000) (d := true) (t := TVS) h0
 obtain ⟨a0, a1, rfl, _, h1⟩ := args2_elim h00
 obtain ⟨rfl, h2⟩ := withC_elim h1
 obtain ⟨k, rfl, h3⟩ := withD_elim h2
 obtain ⟨h_x, p0, p1, hK⟩ := h3
 have h : ok (F.laws_markValueSS x k) (fun r => K (dI r.2) [(1000000, .arr true TVS r.1)]) := ok_of_eq (F.laws_markValueSS_eq x k h_x p0 p1) (hK _ rfl)
 refine ⟨rfl, ann18, (L18 x k), .raw, (loopsN1 (i0 := 0) (by kernel_rfl) ?_), ?_⟩
 ·rintro _ _ K ⟨hc0, i0, v0, rfl, hl0, rfl, hv0, h⟩
  exact cast (lvc18_0 _ _ _ _ _ _).symm (loopI_step h (fun ht0 h => ⟨hl0, ⟨ht0, ⟨rfl, (oG h fun _ h => (oG h fun _ h => (oG h fun _ h => (oL h fun _ er1 h => ⟨(by rw [er1]; exact (M.mark_len TValue _ _)), (loopI_next (fun _ hm => ⟨hc0, hm⟩) _ rfl hl0 low0 ht0 (sm_len h_x) trivial h)⟩))))⟩⟩⟩) fun h => (h trivial))
 ·rw [vc18]
  exact (loopI_start (fun m hm => ⟨trivial, hm⟩) Z0 _ rfl (Int.natCast_nonneg 0) trivial (ok_then h (fun v0 h hv0 => h) (fun _ h => h.elim)))
def c41 : Con := ⟨[.dat TInt], fun args hp K => hpN 1000000 false TColumn (fun x => args2 (fun a0 a1 => withC 1000000 (x.length : Int) a0 (withD TInt a1 fun k => (Ln TCS x) ∧ (0 ≤ k) ∧ (k + (M.count TCS x : Int) ≤ M.big) ∧ (∀ r : LC × Int, r = (M.mark TCS x k, k + (M.count TCS x : Int)) → K (dI r.2) [(1000000, .arr false TColumn r.1)]))) args []) hp, .io⟩
@[reducible] def C41 : Ctx := cx [] 29 [] 0 false
def ann41 := an [[kp 3], [kp 35], [kp 547], [kp 35], [kp 35], [kp 35], [kp 35], [kp 35], [kp 16]] [[kp 2]]
@[reducible] def s41_0 (x : LC) (k : Int) (i0 : Int) (v0 : Int × LC) : St := ⟨[(0, .clp 1000000 (x.length : Int)), (1, dI v0.1), (5, dI i0)], [(1000000, .arr false TColumn v0.2)]⟩
@[reducible] def LP41_0 (x : LC) (k : Int) (m : Nat) (st_ : St) (K : KX) : Prop := True ∧ LoopI (s41_0 x k) Z0 (x.length : Int) (F.laws_markColumnS_l0 x k) (fun v0 : Int × LC => True) (outD (fun v0 : Int × LC => True → K (.exit 0) (⟨[(1, dI v0.1)], [(1000000, .arr false TColumn v0.2)]⟩ : St)) (fun _ => False)) m st_
def L41 (x : LC) (k : Int) : Loops := lp1 0 (LP41_0 x k)
theorem vc41 (x : LC) (k : Int) (K : KA) : vcT C41 (L41 x k) ann41 f41 [.clp 1000000 (x.length : Int), dI k] [(1000000, .arr false TColumn x)] .raw K =
 (∃ m_, True ∧ LoopI (s41_0 x k) Z0 (x.length : Int) (F.laws_markColumnS_l0 x k) (fun v0 : Int × LC => True) (outD (fun v0 : Int × LC => True → K (dI v0.1) [(1000000, .arr false TColumn v0.2)]) (fun _ => False)) m_ (s41_0 x k Z0 (k, x))) := by kernel_rfl
theorem lvc41_0 (x : LC) (k : Int)  (i0 : Int) (v0 : Int × LC) (m : Nat) (K : KX) : lvT C41 (L41 x k) ann41 f41 0 0 (s41_0 x k i0 v0) m K =
 (cond (decide (i0 < (x.length : Int))) ((0 ≤ i0) ∧ (i0 < (x.length : Int)) ∧ (Z3 ≠ 0) ∧ (0 ≤ i0) ∧ (i0 < (x.length : Int)) ∧ (let y1 : LC := ((v0.2.set i0.toNat (v0.1, (nC v0.2 i0).2)).set i0.toNat ((nC (v0.2.set i0.toNat (v0.1, (nC v0.2 i0).2)) i0).1, ((decide (((wrap64 (v0.1 + Z1)).tmod Z3) = Z0)), ()))); (nxT (LP41_0 x k) m K (s41_0 x k (wrap64 (i0 + Z1)) (wrap64 (wrap64 (v0.1 + Z1) + Z1), y1))))) (K (.exit 0) (⟨[(1, dI v0.1)], [(1000000, .arr false TColumn v0.2)]⟩ : St))) := by kernel_rfl
theorem con41_ok : Con1 P 41 c41 := conR C41 func41 kN fun args hp K h0 => by
 unfold c41 at h0
 dsimp only at h0
 obtain ⟨x, rfl, h00⟩ := hpN_elim (n := 1000000) (d := false) (t := TColumn) h0
 obtain ⟨a0, a1, rfl, _, h1⟩ := args2_elim h00
 obtain ⟨rfl, h2⟩ := withC_elim h1
 obtain ⟨k, rfl, h3⟩ := withD_elim h2
 obtain ⟨h_x, p0, p1, hK⟩ := h3
 have h : ok (F.laws_markColumnS x k) (fun r => K (dI r.2) [(1000000, .arr false TColumn r.1)]) := ok_of_eq (F.laws_markColumnS_eq x k h_x p0 p1) (hK _ rfl)
 refine ⟨rfl, ann41, (L41 x k), .raw, (loopsN1 (i0 := 0) (by kernel_rfl) ?_), ?_⟩
 ·rintro _ _ K ⟨hc0, i0, v0, rfl, hl0, rfl, hv0, h⟩
  exact cast (lvc41_0 _ _ _ _ _ _).symm (loopI_step h (fun ht0 h => ⟨hl0, ⟨ht0, ⟨(by decide), ⟨hl0, ⟨ht0, (have h := ok_let h _ rfl; (loopI_next (fun _ hm => ⟨hc0, hm⟩) _ rfl hl0 low0 ht0 (sm_len h_x) trivial h))⟩⟩⟩⟩⟩) fun h => (h trivial))
 ·rw [vc41]
  exact (loopI_start (fun m hm => ⟨trivial, hm⟩) Z0 _ rfl (Int.natCast_nonneg 0) trivial (ok_then h (fun v0 h hv0 => h) (fun _ h => h.elim)))
def c16 : Con := ⟨[.dat TInt], fun args hp K => hpN 1000000 true TTable (fun x => args2 (fun a0 a1 => withC 1000000 (x.length : Int) a0 (withD TInt a1 fun k => (Ln TTb x) ∧ (0 ≤ k) ∧ (k + (M.count TTb x : Int) ≤ M.big) ∧ (∀ r : LTb × Int, r = (M.mark TTb x k, k + (M.count TTb x : Int)) → K (dI r.2) [(1000000, .arr true TTable r.1)]))) args []) hp, .io⟩
@[reducible] def C16 : Ctx := cx [(18, c18), (41, c41)] 27 [] 0 false
def ann16 := an [[kp 3], [kp 35], [kp 547], [kp 35], [kp 35], [kp 35], [kp 16]] [[kp 2]]
@[reducible] def s16_0 (x : LTb) (k : Int) (i0 : Int) (v0 : Int × LTb) : St := ⟨[(0, .clp 1000000 (x.length : Int)), (1, dI v0.1), (5, dI i0)], [(1000000, .arr true TTable v0.2)]⟩
@[reducible] def LP16_0 (x : LTb) (k : Int) (m : Nat) (st_ : St) (K : KX) : Prop := True ∧ LoopI (s16_0 x k) Z0 (x.length : Int) (F.laws_markTableS_l0 x k) (fun v0 : Int × LTb => True) (outD (fun v0 : Int × LTb => True → K (.exit 0) (⟨[(1, dI v0.1)], [(1000000, .arr true TTable v0.2)]⟩ : St)) (fun _ => False)) m st_
def L16 (x : LTb) (k : Int) : Loops := lp1 0 (LP16_0 x k)
theorem vc16 (x : LTb) (k : Int) (K : KA) : vcT C16 (L16 x k) ann16 f16 [.clp 1000000 (x.length : Int), dI k] [(1000000, .arr true TTable x)] .raw K =
 (∃ m_, True ∧ LoopI (s16_0 x k) Z0 (x.length : Int) (F.laws_markTableS_l0 x k) (fun v0 : Int × LTb => True) (outD (fun v0 : Int × LTb => True → K (dI v0.1) [(1000000, .arr true TTable v0.2)]) (fun _ => False)) m_ (s16_0 x k Z0 (k, x))) := by kernel_rfl
theorem lvc16_0 (x : LTb) (k : Int)  (i0 : Int) (v0 : Int × LTb) (m : Nat) (K : KX) : lvT C16 (L16 x k) ann16 f16 0 0 (s16_0 x k i0 v0) m K =
 (cond (decide (i0 < (x.length : Int))) ((0 ≤ i0) ∧ (i0 < (x.length : Int)) ∧ (((nT v0.2 i0).1.length : Int) = ((nT v0.2 i0).1.length : Int)) ∧ (Ln TCS (nT v0.2 i0).1) ∧ (0 ≤ v0.1) ∧ (v0.1 + (M.count TCS (nT v0.2 i0).1 : Int) ≤ M.big) ∧ (∀ r1 : LC × Int, r1 = (M.mark TCS (nT v0.2 i0).1 v0.1, v0.1 + (M.count TCS (nT v0.2 i0).1 : Int)) → (r1.1.length = (nT v0.2 i0).1.length) ∧ (0 ≤ i0) ∧ (i0 < (x.length : Int)) ∧ (((nT (v0.2.set i0.toNat (r1.1, (nT v0.2 i0).2)) i0).2.1.length : Int) = ((nT (v0.2.set i0.toNat (r1.1, (nT v0.2 i0).2)) i0).2.1.length : Int)) ∧ (Ln (Ty.sl TVS) (nT (v0.2.set i0.toNat (r1.1, (nT v0.2 i0).2)) i0).2.1) ∧ (0 ≤ r1.2) ∧ (r1.2 + (M.count (Ty.sl TVS) (nT (v0.2.set i0.toNat (r1.1, (nT v0.2 i0).2)) i0).2.1 : Int) ≤ M.big) ∧ (∀ r2 : (List LV) × Int, r2 = (M.mark (Ty.sl TVS) (nT (v0.2.set i0.toNat (r1.1, (nT v0.2 i0).2)) i0).2.1 r1.2, r1.2 + (M.count (Ty.sl TVS) (nT (v0.2.set i0.toNat (r1.1, (nT v0.2 i0).2)) i0).2.1 : Int)) → (r2.1.length = (nT (v0.2.set i0.toNat (r1.1, (nT v0.2 i0).2)) i0).2.1.length) ∧ (nxT (LP16_0 x k) m K (s16_0 x k (wrap64 (i0 + Z1)) (r2.2, ((v0.2.set i0.toNat (r1.1, (nT v0.2 i0).2)).set i0.toNat ((nT (v0.2.set i0.toNat (r1.1, (nT v0.2 i0).2)) i0).1, (r2.1, ()))))))))) (K (.exit 0) (⟨[(1, dI v0.1)], [(1000000, .arr true TTable v0.2)]⟩ : St))) := by kernel_rfl
theorem con16_ok : Con1 P 16 c16 := conR C16 func16 (kC con18_ok (kC con41_ok kN)) fun args hp K h0 => by
 unfold c16 at h0
 dsimp only at h0
 obtain ⟨x, rfl, h00⟩ := hpN_elim (n := 1000000) (d := true) (t := TTable) h0
 obtain ⟨a0, a1, rfl, _, h1⟩ := args2_elim h00
 obtain ⟨rfl, h2⟩ := withC_elim h1
 obtain ⟨k, rfl, h3⟩ := withD_elim h2
 obtain ⟨h_x, p0, p1, hK⟩ := h3
 have h : ok (F.laws_markTableS x k) (fun r => K (dI r.2) [(1000000, .arr true TTable r.1)]) := ok_of_eq (F.laws_markTableS_eq x k h_x p0 p1) (hK _ rfl)
 refine ⟨rfl, ann16, (L16 x k), .raw, (loopsN1 (i0 := 0) (by kernel_rfl) ?_), ?_⟩
 ·rintro _ _ K ⟨hc0, i0, v0, rfl, hl0, rfl, hv0, h⟩
  exact cast (lvc16_0 _ _ _ _ _ _).symm (loopI_step h (fun ht0 h => ⟨hl0, ⟨ht0, ⟨rfl, (oG h fun _ h => (oG h fun _ h => (oG h fun _ h => (oL h fun _ er1 h => ⟨(by rw [er1]; exact (M.mark_len TColumn _ _)), ⟨hl0, ⟨ht0, ⟨rfl, (oG h fun _ h => (oG h fun _ h => (oG h fun _ h => (oL h fun _ er2 h => ⟨(by rw [er2]; exact (M.mark_len TVS _ _)), (loopI_next (fun _ hm => ⟨hc0, hm⟩) _ rfl hl0 low0 ht0 (sm_len h_x) trivial h)⟩))))⟩⟩⟩⟩))))⟩⟩⟩) fun h => (h trivial))
 ·rw [vc16]
  exact (loopI_start (fun m hm => ⟨trivial, hm⟩) Z0 _ rfl (Int.natCast_nonneg 0) trivial (ok_then h (fun v0 h hv0 => h) (fun _ h => h.elim)))
def c23 : Con := ⟨[.dat TInt], fun args hp K => hpN 1000000 false TInt (fun x => args2 (fun a0 a1 => withC 1000000 (x.length : Int) a0 (withD TInt a1 fun k => (Ln (Ty.sl TInt) x) ∧ (0 ≤ k) ∧ (k + (M.count (Ty.sl TInt) x : Int) ≤ M.big) ∧ (∀ r : (List Int) × Int, r = (M.mark (Ty.sl TInt) x k, k + (M.count (Ty.sl TInt) x : Int)) → K (dI r.2) [(1000000, .arr false TInt r.1)]))) args []) hp, .io⟩
@[reducible] def C23 : Ctx := cx [] 19 [] 0 false
def ann23 := an [[kp 3], [kp 35], [kp 547], [kp 35], [kp 35], [kp 35], [kp 16]] [[kp 2]]
@[reducible] def s23_0 (x : (List Int)) (k : Int) (i0 : Int) (v0 : Int × (List Int)) : St := ⟨[(0, .clp 1000000 (x.length : Int)), (1, dI v0.1), (5, dI i0)], [(1000000, .arr false TInt v0.2)]⟩
@[reducible] def LP23_0 (x : (List Int)) (k : Int) (m : Nat) (st_ : St) (K : KX) : Prop := True ∧ LoopI (s23_0 x k) Z0 (x.length : Int) (F.laws_markIntS_l0 x k) (fun v0 : Int × (List Int) => True) (outD (fun v0 : Int × (List Int) => True → K (.exit 0) (⟨[(1, dI v0.1)], [(1000000, .arr false TInt v0.2)]⟩ : St)) (fun _ => False)) m st_
def L23 (x : (List Int)) (k : Int) : Loops := lp1 0 (LP23_0 x k)
theorem vc23 (x : (List Int)) (k : Int) (K : KA) : vcT C23 (L23 x k) ann23 f23 [.clp 1000000 (x.length : Int), dI k] [(1000000, .arr false TInt x)] .raw K =
 (∃ m_, True ∧ LoopI (s23_0 x k) Z0 (x.length : Int) (F.laws_markIntS_l0 x k) (fun v0 : Int × (List Int) => True) (outD (fun v0 : Int × (List Int) => True → K (dI v0.1) [(1000000, .arr false TInt v0.2)]) (fun _ => False)) m_ (s23_0 x k Z0 (k, x))) := by kernel_rfl
theorem lvc23_0 (x : (List Int)) (k : Int)  (i0 : Int) (v0 : Int × (List Int)) (m : Nat) (K : KX) : lvT C23 (L23 x k) ann23 f23 0 0 (s23_0 x k i0 v0) m K =
 (cond (decide (i0 < (x.length : Int))) ((0 ≤ i0) ∧ (i0 < (x.length : Int)) ∧ (nxT (LP23_0 x k) m K (s23_0 x k (wrap64 (i0 + Z1)) (wrap64 (v0.1 + Z1), (v0.2.set i0.toNat v0.1))))) (K (.exit 0) (⟨[(1, dI v0.1)], [(1000000, .arr false TInt v0.2)]⟩ : St))) := by kernel_rfl
theorem con23_ok : Con1 P 23 c23 := conR C23 func23 kN fun args hp K h0 => by
 unfold c23 at h0
 dsimp only at h0
 obtain ⟨x, rfl, h00⟩ := hpN_elim (n := 1000000) (d := false) (t := TInt) h0
 obtain ⟨a0, a1, rfl, _, h1⟩ := args2_elim h00
 obtain ⟨rfl, h2⟩ := withC_elim h1
 obtain ⟨k, rfl, h3⟩ := withD_elim h2
 obtain ⟨h_x, p0, p1, hK⟩ := h3
 have h : ok (F.laws_markIntS x k) (fun r => K (dI r.2) [(1000000, .arr false TInt r.1)]) := ok_of_eq (F.laws_markIntS_eq x k h_x p0 p1) (hK _ rfl)
 refine ⟨rfl, ann23, (L23 x k), .raw, (loopsN1 (i0 := 0) (by kernel_rfl) ?_), ?_⟩
 ·rintro _ _ K ⟨hc0, i0, v0, rfl, hl0, rfl, hv0, h⟩
  exact cast (lvc23_0 _ _ _ _ _ _).symm (loopI_step h (fun ht0 h => ⟨hl0, ⟨ht0, (loopI_next (fun _ hm => ⟨hc0, hm⟩) _ rfl hl0 low0 ht0 (sm_len h_x) trivial h)⟩⟩) fun h => (h trivial))
 ·rw [vc23]
  exact (loopI_start (fun m hm => ⟨trivial, hm⟩) Z0 _ rfl (Int.natCast_nonneg 0) trivial (ok_then h (fun v0 h hv0 => h) (fun _ h => h.elim)))
def c42 : Con := ⟨[.dat TInt], fun args hp K => hpN 1000000 false TPart (fun x => args2 (fun a0 a1 => withC 1000000 (x.length : Int) a0 (withD TInt a1 fun k => (Ln TPS x) ∧ (0 ≤ k) ∧ (k + (M.count TPS x : Int) ≤ M.big) ∧ (∀ r : LPt × Int, r = (M.mark TPS x k, k + (M.count TPS x : Int)) → K (dI r.2) [(1000000, .arr false TPart r.1)]))) args []) hp, .io⟩
@[reducible] def C42 : Ctx := cx [(76, c76)] 52 [] 0 false
def ann42 := an [[kp 3], [kp 35], [kp 547], [kp 35], [kp 35], [kp 35], [kp 35], [kp 35], [kp 35], [kp 35], [kp 35], [kp 35], [kp 35], [kp 35], [kp 16]] [[kp 2]]
@[reducible] def s42_0 (x : LPt) (k : Int) (i0 : Int) (v0 : Int × LPt) : St := ⟨[(0, .clp 1000000 (x.length : Int)), (1, dI v0.1), (5, dI i0)], [(1000000, .arr false TPart v0.2)]⟩
@[reducible] def LP42_0 (x : LPt) (k : Int) (m : Nat) (st_ : St) (K : KX) : Prop := True ∧ LoopI (s42_0 x k) Z0 (x.length : Int) (F.laws_markPartS_l0 x k) (fun v0 : Int × LPt => True) (outD (fun v0 : Int × LPt => True → K (.exit 0) (⟨[(1, dI v0.1)], [(1000000, .arr false TPart v0.2)]⟩ : St)) (fun _ => False)) m st_
def L42 (x : LPt) (k : Int) : Loops := lp1 0 (LP42_0 x k)
theorem vc42 (x : LPt) (k : Int) (K : KA) : vcT C42 (L42 x k) ann42 f42 [.clp 1000000 (x.length : Int), dI k] [(1000000, .arr false TPart x)] .raw K =
 (∃ m_, True ∧ LoopI (s42_0 x k) Z0 (x.length : Int) (F.laws_markPartS_l0 x k) (fun v0 : Int × LPt => True) (outD (fun v0 : Int × LPt => True → K (dI v0.1) [(1000000, .arr false TPart v0.2)]) (fun _ => False)) m_ (s42_0 x k Z0 (k, x))) := by kernel_rfl
theorem lvc42_0 (x : LPt) (k : Int)  (i0 : Int) (v0 : Int × LPt) (m : Nat) (K : KX) : lvT C42 (L42 x k) ann42 f42 0 0 (s42_0 x k i0 v0) m K =
 (cond (decide (i0 < (x.length : Int))) ((0 ≤ i0) ∧ (i0 < (x.length : Int)) ∧ (0 ≤ i0) ∧ (i0 < (x.length : Int)) ∧ (let y1 : LPt := ((v0.2.set i0.toNat (v0.1, (nP v0.2 i0).2)).set i0.toNat ((nP (v0.2.set i0.toNat (v0.1, (nP v0.2 i0).2)) i0).1, (wrap64 (v0.1 + Z1), (nP (v0.2.set i0.toNat (v0.1, (nP v0.2 i0).2)) i0).2.2))); (0 ≤ i0) ∧ (i0 < (x.length : Int)) ∧ (let y2 : LPt := (y1.set i0.toNat ((nP y1 i0).1, ((nP y1 i0).2.1, ((wrap64 (wrap64 (v0.1 + Z1) + Z1), (nP y1 i0).2.2.1.2), ())))); (0 ≤ i0) ∧ (i0 < (x.length : Int)) ∧ (let y3 : LPt := (y2.set i0.toNat ((nP y2 i0).1, ((nP y2 i0).2.1, (((nP y2 i0).2.2.1.1, (wrap64 (wrap64 (wrap64 (v0.1 + Z1) + Z1) + Z1), (nP y2 i0).2.2.1.2.2)), ())))); ((wrap64 (wrap64 (wrap64 (wrap64 (v0.1 + Z1) + Z1) + Z1) + Z1)) ≤ M.big) ∧ (∀ r1 : ByteArray, r1 = (M.markText (wrap64 (wrap64 (wrap64 (wrap64 (v0.1 + Z1) + Z1) + Z1) + Z1))) → (0 ≤ i0) ∧ (i0 < (x.length : Int)) ∧ (let y4 : LPt := (y3.set i0.toNat ((nP y3 i0).1, ((nP y3 i0).2.1, (((nP y3 i0).2.2.1.1, ((nP y3 i0).2.2.1.2.1, (r1, ()))), ())))); (nxT (LP42_0 x k) m K (s42_0 x k (wrap64 (i0 + Z1)) (wrap64 (wrap64 (wrap64 (wrap64 (wrap64 (v0.1 + Z1) + Z1) + Z1) + Z1) + Z1), y4))))))))) (K (.exit 0) (⟨[(1, dI v0.1)], [(1000000, .arr false TPart v0.2)]⟩ : St))) := by kernel_rfl
theorem con42_ok : Con1 P 42 c42 := conR C42 func42 (kC con76_ok kN) fun args hp K h0 => by
 unfold c42 at h0
 dsimp only at h0
 obtain ⟨x, rfl, h00⟩ := hpN_elim (n := 1000000) (d := false) (t := TPart) h0
 obtain ⟨a0, a1, rfl, _, h1⟩ := args2_elim h00
 obtain ⟨rfl, h2⟩ := withC_elim h1
 obtain ⟨k, rfl, h3⟩ := withD_elim h2
 obtain ⟨h_x, p0, p1, hK⟩ := h3
 have h : ok (F.laws_markPartS x k) (fun r => K (dI r.2) [(1000000, .arr false TPart r.1)]) := ok_of_eq (F.laws_markPartS_eq x k h_x p0 p1) (hK _ rfl)
 refine ⟨rfl, ann42, (L42 x k), .raw, (loopsN1 (i0 := 0) (by kernel_rfl) ?_), ?_⟩
 ·rintro _ _ K ⟨hc0, i0, v0, rfl, hl0, rfl, hv0, h⟩
  exact cast (lvc42_0 _ _ _ _ _ _).symm (loopI_step h (fun ht0 h => ⟨hl0, ⟨ht0, ⟨hl0, ⟨ht0, (have h := ok_let h _ rfl; ⟨hl0, ⟨ht0, (have h := ok_let h _ rfl; ⟨hl0, ⟨ht0, (have h := ok_let h _ rfl; (oG h fun _ h => (oL h fun _ _ h => ⟨hl0, ⟨ht0, (have h := ok_let h _ rfl; (loopI_next (fun _ hm => ⟨hc0, hm⟩) _ rfl hl0 low0 ht0 (sm_len h_x) trivial h))⟩⟩)))⟩⟩)⟩⟩)⟩⟩⟩⟩) fun h => (h trivial))
 ·rw [vc42]
  exact (loopI_start (fun m hm => ⟨trivial, hm⟩) Z0 _ rfl (Int.natCast_nonneg 0) trivial (ok_then h (fun v0 h hv0 => h) (fun _ h => h.elim)))
def c17 : Con := ⟨[.dat TInt], fun args hp K => hpN 1000000 true TStep (fun x => args2 (fun a0 a1 => withC 1000000 (x.length : Int) a0 (withD TInt a1 fun k => (Ln TSS x) ∧ (0 ≤ k) ∧ (k + (M.count TSS x : Int) ≤ M.big) ∧ (∀ r : LS × Int, r = (M.mark TSS x k, k + (M.count TSS x : Int)) → K (dI r.2) [(1000000, .arr true TStep r.1)]))) args []) hp, .io⟩
@[reducible] def C17 : Ctx := cx [(23, c23), (42, c42)] 55 [] 0 false
def ann17 := an [[kp 3], [kp 35], [kp 547], [kp 35], [kp 35], [kp 35], [kp 35], [kp 35], [kp 35], [kp 35], [kp 35], [kp 35], [kp 35], [kp 35], [kp 16]] [[kp 2]]
@[reducible] def s17_0 (x : LS) (k : Int) (i0 : Int) (v0 : Int × LS) : St := ⟨[(0, .clp 1000000 (x.length : Int)), (1, dI v0.1), (5, dI i0)], [(1000000, .arr true TStep v0.2)]⟩
@[reducible] def LP17_0 (x : LS) (k : Int) (m : Nat) (st_ : St) (K : KX) : Prop := True ∧ LoopI (s17_0 x k) Z0 (x.length : Int) (F.laws_markStepS_l0 x k) (fun v0 : Int × LS => True) (outD (fun v0 : Int × LS => True → K (.exit 0) (⟨[(1, dI v0.1)], [(1000000, .arr true TStep v0.2)]⟩ : St)) (fun _ => False)) m st_
def L17 (x : LS) (k : Int) : Loops := lp1 0 (LP17_0 x k)
theorem vc17 (x : LS) (k : Int) (K : KA) : vcT C17 (L17 x k) ann17 f17 [.clp 1000000 (x.length : Int), dI k] [(1000000, .arr true TStep x)] .raw K =
 (∃ m_, True ∧ LoopI (s17_0 x k) Z0 (x.length : Int) (F.laws_markStepS_l0 x k) (fun v0 : Int × LS => True) (outD (fun v0 : Int × LS => True → K (dI v0.1) [(1000000, .arr true TStep v0.2)]) (fun _ => False)) m_ (s17_0 x k Z0 (k, x))) := by kernel_rfl
theorem lvc17_0 (x : LS) (k : Int)  (i0 : Int) (v0 : Int × LS) (m : Nat) (K : KX) : lvT C17 (L17 x k) ann17 f17 0 0 (s17_0 x k i0 v0) m K =
 (cond (decide (i0 < (x.length : Int))) ((0 ≤ i0) ∧ (i0 < (x.length : Int)) ∧ (0 ≤ i0) ∧ (i0 < (x.length : Int)) ∧ (let y1 : LS := ((v0.2.set i0.toNat (v0.1, (nS v0.2 i0).2)).set i0.toNat ((nS (v0.2.set i0.toNat (v0.1, (nS v0.2 i0).2)) i0).1, (wrap64 (v0.1 + Z1), (nS (v0.2.set i0.toNat (v0.1, (nS v0.2 i0).2)) i0).2.2))); (0 ≤ i0) ∧ (i0 < (x.length : Int)) ∧ (let y2 : LS := (y1.set i0.toNat ((nS y1 i0).1, ((nS y1 i0).2.1, (wrap64 (wrap64 (v0.1 + Z1) + Z1), (nS y1 i0).2.2.2)))); (0 ≤ i0) ∧ (i0 < (x.length : Int)) ∧ (let y3 : LS := (y2.set i0.toNat ((nS y2 i0).1, ((nS y2 i0).2.1, ((nS y2 i0).2.2.1, (wrap64 (wrap64 (wrap64 (v0.1 + Z1) + Z1) + Z1), (nS y2 i0).2.2.2.2))))); (0 ≤ i0) ∧ (i0 < (x.length : Int)) ∧ (((nS y3 i0).2.2.2.2.1.length : Int) = ((nS y3 i0).2.2.2.2.1.length : Int)) ∧ (Ln TPS (nS y3 i0).2.2.2.2.1) ∧ (0 ≤ (wrap64 (wrap64 (wrap64 (wrap64 (v0.1 + Z1) + Z1) + Z1) + Z1))) ∧ ((wrap64 (wrap64 (wrap64 (wrap64 (v0.1 + Z1) + Z1) + Z1) + Z1)) + (M.count TPS (nS y3 i0).2.2.2.2.1 : Int) ≤ M.big) ∧ (∀ r1 : LPt × Int, r1 = (M.mark TPS (nS y3 i0).2.2.2.2.1 (wrap64 (wrap64 (wrap64 (wrap64 (v0.1 + Z1) + Z1) + Z1) + Z1)), (wrap64 (wrap64 (wrap64 (wrap64 (v0.1 + Z1) + Z1) + Z1) + Z1)) + (M.count TPS (nS y3 i0).2.2.2.2.1 : Int)) → (r1.1.length = (nS y3 i0).2.2.2.2.1.length) ∧ (0 ≤ i0) ∧ (i0 < (x.length : Int)) ∧ (((nS (y3.set i0.toNat ((nS y3 i0).1, ((nS y3 i0).2.1, ((nS y3 i0).2.2.1, ((nS y3 i0).2.2.2.1, (r1.1, (nS y3 i0).2.2.2.2.2)))))) i0).2.2.2.2.2.1.length : Int) = ((nS (y3.set i0.toNat ((nS y3 i0).1, ((nS y3 i0).2.1, ((nS y3 i0).2.2.1, ((nS y3 i0).2.2.2.1, (r1.1, (nS y3 i0).2.2.2.2.2)))))) i0).2.2.2.2.2.1.length : Int)) ∧ (Ln (Ty.sl TInt) (nS (y3.set i0.toNat ((nS y3 i0).1, ((nS y3 i0).2.1, ((nS y3 i0).2.2.1, ((nS y3 i0).2.2.2.1, (r1.1, (nS y3 i0).2.2.2.2.2)))))) i0).2.2.2.2.2.1) ∧ (0 ≤ r1.2) ∧ (r1.2 + (M.count (Ty.sl TInt) (nS (y3.set i0.toNat ((nS y3 i0).1, ((nS y3 i0).2.1, ((nS y3 i0).2.2.1, ((nS y3 i0).2.2.2.1, (r1.1, (nS y3 i0).2.2.2.2.2)))))) i0).2.2.2.2.2.1 : Int) ≤ M.big) ∧ (∀ r2 : (List Int) × Int, r2 = (M.mark (Ty.sl TInt) (nS (y3.set i0.toNat ((nS y3 i0).1, ((nS y3 i0).2.1, ((nS y3 i0).2.2.1, ((nS y3 i0).2.2.2.1, (r1.1, (nS y3 i0).2.2.2.2.2)))))) i0).2.2.2.2.2.1 r1.2, r1.2 + (M.count (Ty.sl TInt) (nS (y3.set i0.toNat ((nS y3 i0).1, ((nS y3 i0).2.1, ((nS y3 i0).2.2.1, ((nS y3 i0).2.2.2.1, (r1.1, (nS y3 i0).2.2.2.2.2)))))) i0).2.2.2.2.2.1 : Int)) → (r2.1.length = (nS (y3.set i0.toNat ((nS y3 i0).1, ((nS y3 i0).2.1, ((nS y3 i0).2.2.1, ((nS y3 i0).2.2.2.1, (r1.1, (nS y3 i0).2.2.2.2.2)))))) i0).2.2.2.2.2.1.length) ∧ (nxT (LP17_0 x k) m K (s17_0 x k (wrap64 (i0 + Z1)) (r2.2, ((y3.set i0.toNat ((nS y3 i0).1, ((nS y3 i0).2.1, ((nS y3 i0).2.2.1, ((nS y3 i0).2.2.2.1, (r1.1, (nS y3 i0).2.2.2.2.2)))))).set i0.toNat ((nS (y3.set i0.toNat ((nS y3 i0).1, ((nS y3 i0).2.1, ((nS y3 i0).2.2.1, ((nS y3 i0).2.2.2.1, (r1.1, (nS y3 i0).2.2.2.2.2)))))) i0).1, ((nS (y3.set i0.toNat ((nS y3 i0).1, ((nS y3 i0).2.1, ((nS y3 i0).2.2.1, ((nS y3 i0).2.2.2.1, (r1.1, (nS y3 i0).2.2.2.2.2)))))) i0).2.1, ((nS (y3.set i0.toNat ((nS y3 i0).1, ((nS y3 i0).2.1, ((nS y3 i0).2.2.1, ((nS y3 i0).2.2.2.1, (r1.1, (nS y3 i0).2.2.2.2.2)))))) i0).2.2.1, ((nS (y3.set i0.toNat ((nS y3 i0).1, ((nS y3 i0).2.1, ((nS y3 i0).2.2.1, ((nS y3 i0).2.2.2.1, (r1.1, (nS y3 i0).2.2.2.2.2)))))) i0).2.2.2.1, ((nS (y3.set i0.toNat ((nS y3 i0).1, ((nS y3 i0).2.1, ((nS y3 i0).2.2.1, ((nS y3 i0).2.2.2.1, (r1.1, (nS y3 i0).2.2.2.2.2)))))) i0).2.2.2.2.1, (r2.1, ())))))))))))))))) (K (.exit 0) (⟨[(1, dI v0.1)], [(1000000, .arr true TStep v0.2)]⟩ : St))) := by kernel_rfl
theorem con17_ok : Con1 P 17 c17 := conR C17 func17 (kC con23_ok (kC con42_ok kN)) fun args hp K h0 => by
 unfold c17 at h0
 dsimp only at h0
 obtain ⟨x, rfl, h00⟩ := hpN_elim (n := 1000000) (d := true) (t := TStep) h0
 obtain ⟨a0, a1, rfl, _, h1⟩ := args2_elim h00
 obtain ⟨rfl, h2⟩ := withC_elim h1
 obtain ⟨k, rfl, h3⟩ := withD_elim h2
 obtain ⟨h_x, p0, p1, hK⟩ := h3
 have h : ok (F.laws_markStepS x k) (fun r => K (dI r.2) [(1000000, .arr true TStep r.1)]) := ok_of_eq (F.laws_markStepS_eq x k h_x p0 p1) (hK _ rfl)
 refine ⟨rfl, ann17, (L17 x k), .raw, (loopsN1 (i0 := 0) (by kernel_rfl) ?_), ?_⟩
 ·rintro _ _ K ⟨hc0, i0, v0, rfl, hl0, rfl, hv0, h⟩
  exact cast (lvc17_0 _ _ _ _ _ _).symm (loopI_step h (fun ht0 h => ⟨hl0, ⟨ht0, ⟨hl0, ⟨ht0, (have h := ok_let h _ rfl; ⟨hl0, ⟨ht0, (have h := ok_let h _ rfl; ⟨hl0, ⟨ht0, (have h := ok_let h _ rfl; ⟨hl0, ⟨ht0, ⟨rfl, (oG h fun _ h => (oG h fun _ h => (oG h fun _ h => (oL h fun _ er1 h => ⟨(by rw [er1]; exact (M.mark_len TPart _ _)), ⟨hl0, ⟨ht0, ⟨rfl, (oG h fun _ h => (oG h fun _ h => (oG h fun _ h => (oL h fun _ er2 h => ⟨(by rw [er2]; exact (M.mark_len TInt _ _)), (loopI_next (fun _ hm => ⟨hc0, hm⟩) _ rfl hl0 low0 ht0 (sm_len h_x) trivial h)⟩))))⟩⟩⟩⟩))))⟩⟩⟩)⟩⟩)⟩⟩)⟩⟩⟩⟩) fun h => (h trivial))
 ·rw [vc17]
  exact (loopI_start (fun m hm => ⟨trivial, hm⟩) Z0 _ rfl (Int.natCast_nonneg 0) trivial (ok_then h (fun v0 h hv0 => h) (fun _ h => h.elim)))
def c44 : Con := ⟨[.dat TVS, .dat TInt], fun args hp K => g2 (pD TVS) (pD TInt) (fun x k => (Ln TVS x) ∧ (0 ≤ k) ∧ (k + (M.count TVS x : Int) ≤ M.big) ∧ (M.mark TVS x k = x) ∧ K (dI (k + (M.count TVS x : Int))) []) args hp, .bor⟩
@[reducible] def C44 : Ctx := cx [(76, c76)] 41 [] 0 false
def ann44 := an [[kp 3], [kp 35], [kp 547], [kp 35], [kp 262179], [kp 16], [kp 35], [kp 134217763], [kp 16], [kp 35], [kp 137438953507], [kp 16], [kp 35], [kp 16]] [[kp 2]]
@[reducible] def s44_0 (x : LV) (k : Int) (i0 : Int) (v0 : Int) : St := ⟨[(0, .data TVS x), (1, dI v0), (5, dI i0)], []⟩
@[reducible] def LP44_0 (x : LV) (k : Int) (m : Nat) (st_ : St) (K : KX) : Prop := True ∧ LoopE (t := TValue) (s44_0 x k) x (F.laws_heldValueS_l0 x k) (fun v0 : Int => True) (outD (fun v0 : Int => True → K (.exit 0) (⟨[(1, dI v0)], []⟩ : St)) (fun q0 : Unit => K .ret (⟨[(4, dI (-1 : Int))], []⟩ : St))) m st_
def L44 (x : LV) (k : Int) : Loops := lp1 0 (LP44_0 x k)
theorem vc44 (x : LV) (k : Int) (K : KA) : vcT C44 (L44 x k) ann44 f44 [.data TVS x, dI k] [] (.dat TInt) K =
 (∃ m_, True ∧ LoopE (t := TValue) (s44_0 x k) x (F.laws_heldValueS_l0 x k) (fun v0 : Int => True) (outD (fun v0 : Int => True → K (dI v0) []) (fun q0 : Unit => K (dI (-1 : Int)) [])) m_ (s44_0 x k Z0 k)) := by kernel_rfl
theorem lvc44_0 (x : LV) (k : Int)  (i0 : Int) (v0 : Int) (m : Nat) (K : KX) : lvT C44 (L44 x k) ann44 f44 0 0 (s44_0 x k i0 v0) m K =
 (cond (decide (i0 < (x.length : Int))) ((0 ≤ i0) ∧ (i0 < (x.length : Int)) ∧ cond (!decide ((nV x i0).1 = v0)) (K .ret (⟨[(4, dI (-1 : Int))], []⟩ : St)) ((0 ≤ i0) ∧ (i0 < (x.length : Int)) ∧ cond (!decide ((nV x i0).2.1 = wrap64 (v0 + Z1))) (K .ret (⟨[(4, dI (-1 : Int))], []⟩ : St)) ((0 ≤ i0) ∧ (i0 < (x.length : Int)) ∧ ((wrap64 (wrap64 (v0 + Z1) + Z1)) ≤ M.big) ∧ (∀ r1 : ByteArray, r1 = (M.markText (wrap64 (wrap64 (v0 + Z1) + Z1))) → cond (!decide ((nV x i0).2.2.1 = r1)) (K .ret (⟨[(4, dI (-1 : Int))], []⟩ : St)) (nxT (LP44_0 x k) m K (s44_0 x k (wrap64 (i0 + Z1)) (wrap64 (wrap64 (wrap64 (v0 + Z1) + Z1) + Z1)))))))) (K (.exit 0) (⟨[(1, dI v0)], []⟩ : St))) := by kernel_rfl
theorem con44_ok : Con1 P 44 c44 := conR C44 func44 (kC con76_ok kN) fun args hp K h0 => by
 obtain ⟨x, k, rfl, rfl, h_x, p0, p1, p2, hK⟩ := g2e h0
 have h : ok (F.laws_heldValueS x k) (fun r => K (dI r) []) := ok_of_eq (F.laws_heldValueS_eq x k h_x p0 p1 p2) hK
 refine ⟨rfl, ann44, (L44 x k), (.dat TInt), (loopsN1 (i0 := 0) (by kernel_rfl) ?_), ?_⟩
 ·rintro _ _ K ⟨hc0, i0, v0, rfl, hl0, rfl, hv0, h⟩
  exact cast (lvc44_0 _ _ _ _ _ _).symm (loopE_step (t := TValue) hl0 h (fun ht0 h => ⟨hl0, ⟨ht0, (oC h (fun _ h => h) fun _ h => ⟨hl0, ⟨ht0, (oC h (fun _ h => h) fun _ h => ⟨hl0, ⟨ht0, (oG h fun _ h => (oL h fun _ _ h => (oC h (fun _ h => h) fun _ h => (loopE_next (t := TValue) (fun _ hm => ⟨hc0, hm⟩) _ rfl hl0 ht0 (sm_len h_x) trivial h))))⟩⟩)⟩⟩)⟩⟩) fun h => (h trivial))
 ·rw [vc44]
  exact (loopE_start (t := TValue) (fun m hm => ⟨trivial, hm⟩) _ rfl trivial (ok_then h (fun v0 h hv0 => h) (fun q0 h => h)))
def c19 : Con := ⟨[.dat (Ty.sl TVS), .dat TInt], fun args hp K => g2 (pD (Ty.sl TVS)) (pD TInt) (fun x k => (Ln (Ty.sl TVS) x) ∧ (0 ≤ k) ∧ (k + (M.count (Ty.sl TVS) x : Int) ≤ M.big) ∧ (M.mark (Ty.sl TVS) x k = x) ∧ K (dI (k + (M.count (Ty.sl TVS) x : Int))) []) args hp, .bor⟩
@[reducible] def C19 : Ctx := cx [(44, c44)] 21 [] 0 false
def ann19 := an [[kp 3], [kp 35], [kp 547], [kp 35], [kp 35], [kp 524323], [kp 16], [kp 16]] [[kp 2]]
@[reducible] def s19_0 (x : (List LV)) (k : Int) (i0 : Int) (v0 : Int) : St := ⟨[(0, .data (Ty.sl TVS) x), (1, dI v0), (5, dI i0)], []⟩
@[reducible] def LP19_0 (x : (List LV)) (k : Int) (m : Nat) (st_ : St) (K : KX) : Prop := True ∧ LoopE (t := TVS) (s19_0 x k) x (F.laws_heldValueSS_l0 x k) (fun v0 : Int => True) (outD (fun v0 : Int => True → K (.exit 0) (⟨[(1, dI v0)], []⟩ : St)) (fun q0 : Unit => K .ret (⟨[(4, dI (-1 : Int))], []⟩ : St))) m st_
def L19 (x : (List LV)) (k : Int) : Loops := lp1 0 (LP19_0 x k)
theorem vc19 (x : (List LV)) (k : Int) (K : KA) : vcT C19 (L19 x k) ann19 f19 [.data (Ty.sl TVS) x, dI k] [] (.dat TInt) K =
 (∃ m_, True ∧ LoopE (t := TVS) (s19_0 x k) x (F.laws_heldValueSS_l0 x k) (fun v0 : Int => True) (outD (fun v0 : Int => True → K (dI v0) []) (fun q0 : Unit => K (dI (-1 : Int)) [])) m_ (s19_0 x k Z0 k)) := by kernel_rfl
theorem lvc19_0 (x : (List LV)) (k : Int)  (i0 : Int) (v0 : Int) (m : Nat) (K : KX) : lvT C19 (L19 x k) ann19 f19 0 0 (s19_0 x k i0 v0) m K =
 (cond (decide (i0 < (x.length : Int))) ((0 ≤ i0) ∧ (i0 < (x.length : Int)) ∧ (Ln TVS (nth (t := TVS) x i0)) ∧ (0 ≤ v0) ∧ (v0 + (M.count TVS (nth (t := TVS) x i0) : Int) ≤ M.big) ∧ (M.mark TVS (nth (t := TVS) x i0) v0 = (nth (t := TVS) x i0)) ∧ cond (decide ((v0 + (M.count TVS (nth (t := TVS) x i0) : Int)) < Z0)) (K .ret (⟨[(4, dI (-1 : Int))], []⟩ : St)) (nxT (LP19_0 x k) m K (s19_0 x k (wrap64 (i0 + Z1)) (v0 + (M.count TVS (nth (t := TVS) x i0) : Int))))) (K (.exit 0) (⟨[(1, dI v0)], []⟩ : St))) := by kernel_rfl
theorem con19_ok : Con1 P 19 c19 := conR C19 func19 (kC con44_ok kN) fun args hp K h0 => by
 obtain ⟨x, k, rfl, rfl, h_x, p0, p1, p2, hK⟩ := g2e h0
 have h : ok (F.laws_heldValueSS x k) (fun r => K (dI r) []) := ok_of_eq (F.laws_heldValueSS_eq x k h_x p0 p1 p2) hK
 refine ⟨rfl, ann19, (L19 x k), (.dat TInt), (loopsN1 (i0 := 0) (by kernel_rfl) ?_), ?_⟩
 ·rintro _ _ K ⟨hc0, i0, v0, rfl, hl0, rfl, hv0, h⟩
  exact cast (lvc19_0 _ _ _ _ _ _).symm (loopE_step (t := TVS) hl0 h (fun ht0 h => ⟨hl0, ⟨ht0, ⟨(sm_nth h_x i0), (oG h fun _ h => (oG h fun _ h => (oG h fun _ h => (oC h (fun _ h => h) fun _ h => (loopE_next (t := TVS) (fun _ hm => ⟨hc0, hm⟩) _ rfl hl0 ht0 (sm_len h_x) trivial h)))))⟩⟩⟩) fun h => (h trivial))
 ·rw [vc19]
  exact (loopE_start (t := TVS) (fun m hm => ⟨trivial, hm⟩) _ rfl trivial (ok_then h (fun v0 h hv0 => h) (fun q0 h => h)))
def c3 : Con := ⟨[.dat TTb, .dat TSS], fun args hp K => g2 (pD TTb) (pD TSS) (fun aTables aPlan => (Ln TTb aTables) ∧ (Ln TSS aPlan) ∧ K (dB true) []) args hp, .plain⟩
@[reducible] def C3 : Ctx := cx [(7, c7), (8, c8), (9, c9), (10, c10), (11, c11), (12, c12), (13, c13), (14, c14), (15, c15), (16, c16), (17, c17), (18, c18), (19, c19)] 92 [] 0 true
def ann3 := an [[kp 3], [kp 35], [kp 35], [kp 262179], [kp 16], [kp 35], [kp 8388611], [kp 16], [kp 67], [kp 195], [kp 451], [kp 963], [kp 549755814851], [kp 16], [kp 17592186045379], [kp 16], [kp 562949953422275], [kp 16], [kp 1987], [kp 1859], [kp 1603], [kp 9223372036854776387], [kp 16], [kp 2627], [kp 2627], [kp 6723], [kp 6723], [kp 2361183241434822613571], [kp 16], [kp 18889465931478580857411], [kp 16], [kp 10816], [.keep [9, 11, 83]], [kp 16], [kp 6656], [kp 6144], [.keep [11, 12, 88]], [kp 16], [.keep [91]], [kp 16], [kp 16]] []
theorem vc3 (aTables : LTb) (aPlan : LS) (K : KA) : vcT C3 noLoops ann3 f3 [.data TTb aTables, .data TSS aPlan] [] (.dat Ty.bool) K =
 ((Ln TTb aTables) ∧ (0 ≤ (1048576 : Int)) ∧ ((1048576 : Int) ≤ 1048576) ∧ cond (decide ((M.szS M.szTable aTables (1048576 : Int)) < Z0)) (K (dB true) []) ((Ln TSS aPlan) ∧ (0 ≤ (M.szS M.szTable aTables (1048576 : Int))) ∧ ((M.szS M.szTable aTables (1048576 : Int)) ≤ 1048576) ∧ cond (decide ((M.szS M.szStep aPlan (M.szS M.szTable aTables (1048576 : Int))) < Z0)) (K (dB true) []) ((Sm TTb aTables) ∧ (∀ r1 : LTb, r1 = aTables → (Sm TSS aPlan) ∧ (∀ r2 : LS, r2 = aPlan → (Sm TTb r1) ∧ (Sm TSS r2) ∧ (∀ r3 : (List LV), r3 = (M.planRows r1 r2) → (Sm TTb aTables) ∧ (∀ r4 : LTb, r4 = aTables → (Sm TSS aPlan) ∧ (∀ r5 : LS, r5 = aPlan → (Sm TTb r4) ∧ (Sm TSS r5) ∧ (∀ r6 : (List LV), r6 = (M.planRows r4 r5) → (Sm (Ty.sl TVS) (cutList r6 (some (Z0, (r6.length : Int))))) ∧ (Sm (Ty.sl TVS) r3) ∧ ((cutList r6 (some (Z0, (r6.length : Int)))) = r3) ∧ cond (!true) (K (dB false) []) ((Sm TTb aTables) ∧ (∀ r7 : LTb, r7 = aTables → (Sm TTb r4) ∧ (Sm TTb r7) ∧ (r4 = r7) ∧ cond (!true) (K (dB false) []) ((Sm TSS aPlan) ∧ (∀ r8 : LS, r8 = aPlan → (Sm TSS r5) ∧ (Sm TSS r8) ∧ (r5 = r8) ∧ cond (!true) (K (dB false) []) (((r4.length : Int) = (r4.length : Int)) ∧ (Ln TTb r4) ∧ (0 ≤ Z1) ∧ (Z1 + (M.count TTb r4 : Int) ≤ M.big) ∧ (∀ r9 : LTb × Int, r9 = (M.mark TTb r4 Z1, Z1 + (M.count TTb r4 : Int)) → (r9.1.length = r4.length) ∧ ((r5.length : Int) = (r5.length : Int)) ∧ (Ln TSS r5) ∧ (0 ≤ r9.2) ∧ (r9.2 + (M.count TSS r5 : Int) ≤ M.big) ∧ (∀ r10 : LS × Int, r10 = (M.mark TSS r5 r9.2, r9.2 + (M.count TSS r5 : Int)) → (r10.1.length = r5.length) ∧ cond ((decide (r10.2 < Z0)) == false) ((Sm (Ty.sl TVS) (cutList r6 (some (Z0, (r6.length : Int))))) ∧ (Sm (Ty.sl TVS) r3) ∧ ((cutList r6 (some (Z0, (r6.length : Int)))) = r3) ∧ cond (!true) (K (dB false) []) (((r6.length : Int) = (r6.length : Int)) ∧ ((r6.length : Int) = (r6.length : Int)) ∧ (Ln (Ty.sl TVS) r6) ∧ (0 ≤ Z1) ∧ (Z1 + (M.count (Ty.sl TVS) r6 : Int) ≤ M.big) ∧ (∀ r11 : (List LV) × Int, r11 = (M.mark (Ty.sl TVS) r6 Z1, Z1 + (M.count (Ty.sl TVS) r6 : Int)) → (r11.1.length = r6.length) ∧ (Ln (Ty.sl TVS) (cutList r11.1 (some (Z0, (r6.length : Int))))) ∧ (0 ≤ Z1) ∧ (Z1 + (M.count (Ty.sl TVS) (cutList r11.1 (some (Z0, (r6.length : Int)))) : Int) ≤ M.big) ∧ (M.mark (Ty.sl TVS) (cutList r11.1 (some (Z0, (r6.length : Int)))) Z1 = (cutList r11.1 (some (Z0, (r6.length : Int))))) ∧ cond (decide ((Z1 + (M.count (Ty.sl TVS) (cutList r11.1 (some (Z0, (r6.length : Int)))) : Int)) < Z0)) (K (dB false) []) (cond (!decide ((Z1 + (M.count (Ty.sl TVS) (cutList r11.1 (some (Z0, (r6.length : Int)))) : Int)) = r11.2)) (K (dB false) []) ((Sm TTb aTables) ∧ (∀ r12 : LTb, r12 = aTables → (Sm TSS aPlan) ∧ (∀ r13 : LS, r13 = aPlan → (Sm TTb r12) ∧ (Sm TSS r13) ∧ (∀ r14 : (List LV), r14 = (M.planRows r12 r13) → (Sm (Ty.sl TVS) (cutList r14 (some (Z0, (r14.length : Int))))) ∧ (Sm (Ty.sl TVS) r3) ∧ ((cutList r14 (some (Z0, (r14.length : Int)))) = r3) ∧ cond (!true) (K (dB false) []) ((Ln (Ty.sl TVS) (cutList r11.1 (some (Z0, (r6.length : Int))))) ∧ (0 ≤ Z1) ∧ (Z1 + (M.count (Ty.sl TVS) (cutList r11.1 (some (Z0, (r6.length : Int)))) : Int) ≤ M.big) ∧ (M.mark (Ty.sl TVS) (cutList r11.1 (some (Z0, (r6.length : Int)))) Z1 = (cutList r11.1 (some (Z0, (r6.length : Int))))) ∧ cond (decide ((Z1 + (M.count (Ty.sl TVS) (cutList r11.1 (some (Z0, (r6.length : Int)))) : Int)) < Z0)) (K (dB false) []) (cond (!decide ((Z1 + (M.count (Ty.sl TVS) (cutList r11.1 (some (Z0, (r6.length : Int)))) : Int)) = r11.2)) (K (dB false) []) (K (dB true) []))))))))))) (K (dB false) []))))))))))))))))) := by kernel_rfl
theorem con3_ok : Con1 P 3 c3 := conR C3 func3 (kC con7_ok (kC con8_ok (kC con9_ok (kC con10_ok (kC con11_ok (kC con12_ok (kC con13_ok (kC con14_ok (kC con15_ok (kC con16_ok (kC con17_ok (kC con18_ok (kC con19_ok kN))))))))))))) fun args hp K h0 => by
 obtain ⟨aTables, aPlan, rfl, rfl, h_aTables, h_aPlan, hK⟩ := g2e h0
 have h : ok (F.laws_FnExactPlanRows aTables aPlan) (fun r => K (dB r) []) := ok_of_eq (F.laws_FnExactPlanRows_eq aTables aPlan h_aTables h_aPlan) hK
 refine ⟨rfl, ann3, noLoops, (.dat Ty.bool), (no_loops (by kernel_rfl)), ?_⟩
 ·rw [vc3]
  exact ⟨h_aTables, (oG h fun _ h => (oG h fun _ h => (oC h (fun _ h => h) fun _ h => ⟨h_aPlan, (oG h fun _ h => (oG h fun _ h => (oC h (fun _ h => h) fun _ h => (oG h fun g1 h => (oL h fun _ _ h => (oG h fun g2 h => (oL h fun _ _ h => (oG h fun _ h => (oG h fun _ h => (oL h fun _ _ h => ⟨g1, (oL h fun _ _ h => ⟨g2, (oL h fun _ _ h => (oG h fun g3 h => (oG h fun g4 h => (oL h fun _ _ h => (oG h fun g5 h => (oG h fun g6 h => (oG h fun g7 h => (oC h (fun _ h => h) fun b_16 h => ⟨g1, (oL h fun _ _ h => ⟨g3, (oG h fun _ h => (oG h fun _ h => (cond_f (unf (bnf b_16)) ⟨g2, (oL h fun _ _ h => ⟨g4, (oG h fun _ h => (oG h fun _ h => (cond_f (unf (bnf b_16)) ⟨rfl, (oG h fun _ h => (oG h fun g8 h => (oG h fun _ h => (oL h fun _ er9 h => ⟨(by rw [er9]; exact (M.mark_len TTable _ _)), ⟨rfl, (oG h fun _ h => (oG h fun _ h => (oG h fun _ h => (oL h fun _ er10 h => ⟨(by rw [er10]; exact (M.mark_len TStep _ _)), (oC h (fun _ h => ⟨g5, ⟨g6, ⟨g7, (cond_f (unf (bnf b_16)) ⟨rfl, ⟨rfl, (oG h fun _ h => ⟨g8, (oG h fun _ h => (oL h fun _ er11 h => ⟨(by rw [er11]; exact (M.mark_len TVS _ _)), (oG h fun g9 h => ⟨g8, (oG h fun g10 h => (oG h fun g11 h => (oC h (fun _ h => h) fun b_36 h => (oC h (fun _ h => h) fun b_37 h => ⟨g1, (oL h fun _ _ h => ⟨g2, (oL h fun _ _ h => (oG h fun _ h => (oG h fun _ h => (oL h fun _ _ h => (oG h fun _ h => ⟨g6, (oG h fun _ h => (cond_f (unf (bnf b_16)) ⟨g9, ⟨g8, ⟨g10, ⟨g11, (cond_f b_36 (cond_f (unf (bnf b_37)) h))⟩⟩⟩⟩))⟩)))))⟩)⟩))))⟩)⟩))⟩)⟩⟩)⟩⟩⟩) fun _ h => h)⟩))))⟩⟩))))⟩)))⟩)⟩)))⟩)⟩))))))))⟩)⟩))))))))))⟩)))⟩
end Go.AE
