/- Contracts. -/
import Derived.Test.YtgfcmofoaglfkaaGreatAeSeat
import Derived.Test.YtgfcmofoaglfkaaGreatAeEq
import Derived.Test.YtgfcmofoaglfkaaGreatAeInl
import Derived.Test.YtgfcmofoaglfkaaGreatAeC1
namespace Go.AE
open Go Go.RowKit
set_option maxRecDepth 100000
set_option linter.unusedVariables false

/-! 109: loop.example/tablehouse/impl.bondOk -/
def c109 : Con := ⟨[.dat (Ty.sl TTable), .dat TBond], fun args hp K => args2 (fun a0 a1 => withD (Ty.sl TTable) a0 fun tables => withD TBond a1 fun b => (Sm (Ty.sl TTable) tables) ∧ (Sm TBond b) ∧ K (.data Ty.bool (M.bondOk tables b)) []) args hp⟩
def cons109 : Cons := [(98, c98), (99, c99), (147, c147)]
def inl109 : List (Nat × Inl) := []
@[reducible] def C109 : Ctx := ⟨tab, fun t => memN t cmps, cons109, 141, inl109, 0⟩
theorem consOk109 : ConsOk P C109 := by
  refine consOk_cons (enter_ok (fn := Go.Proofs.Tryz.f98) Go.Proofs.Tryz.func98 (by kernel_rfl) rfl) con98_ok ?_
  refine consOk_cons (enter_ok (fn := Go.Proofs.Tryz.f99) Go.Proofs.Tryz.func99 (by kernel_rfl) rfl) con99_ok ?_
  refine consOk_cons (enter_ok (fn := Go.Proofs.Tryz.f147) Go.Proofs.Tryz.func147 (by kernel_rfl) rfl) con147_ok ?_
  exact consOk_nil
def ann109 : Nat → List Dir
  | 0 => [.fixRow 3 TBond, .keep [0, 3]]
  | 1 => [.keep [0, 3, 15]]
  | 2 => [.keep [4]]
  | 3 => [.fixRow 5 TTable, .keep [0, 3, 5]]
  | 4 => [.keep [0, 3, 5, 6]]
  | 5 => [.keep [0, 3, 5, 6, 36]]
  | 6 => [.keep [0, 3, 5, 6, 36, 37]]
  | 7 => [.keep [4]]
  | 8 => [.keep [0, 3, 5, 6, 36, 52]]
  | 9 => [.keep [4]]
  | 10 => [.keep [0, 3, 5, 69]]
  | 11 => [.keep [0, 3, 5, 110]]
  | 12 => [.keep [4]]
  | 13 => [.keep [0, 3, 5, 112, 113, 114]]
  | 14 => [.keep [0, 3, 5, 112, 113, 114, 115]]
  | 15 => [.keep [0, 3, 5, 7, 8, 112, 113, 114]]
  | 16 => [.keep [0, 3, 5, 112, 113, 114, 139]]
  | 17 => [.keep [4]]
  | 18 => [.keep [0, 3, 5, 112, 113, 114]]
  | 19 => [.keep [4]]
  | 20 => [.keep [4]]
  | 100001 => [.keep []]
  | _ => []
@[reducible] def LP109_1 (tables : (List (TTable).D)) (b : (TBond).D) (m : Nat) (st_ : St) (K : X → St → Prop) : Prop := (True) ∧ LoopI (fun (i1 : Int) (v1 : Unit) => (⟨[(0, .data (Ty.sl TTable) tables), (3, .adr TBond b), (5, .adr TTable (nth (t := TTable) tables b.2.1)), (112, .data (Ty.sl (Ty.int .i64)) b.2.2.1), (113, .data (Ty.int .i64) (b.2.2.1.length : Int)), (114, .data (Ty.int .i64) i1)], []⟩ : St)) (0 : Int) (b.2.2.1.length : Int) (F.impl_bondOk_l1 tables b) (fun v1 : Unit => True) (outD (fun v1 : Unit => True → K (.exit 1) (⟨[], []⟩ : St)) (fun q1 : Unit => K .ret (⟨[(4, .data Ty.bool false)], []⟩ : St))) m st_
def L109 (tables : (List (TTable).D)) (b : (TBond).D) : Loops := fun id m st_ K => match id with
  | 1 => LP109_1 tables b m st_ K
  | _ => False
theorem vc109 (tables : (List (TTable).D)) (b : (TBond).D) (K : AV → Hp → Prop) : awp C109 (L109 tables b) ann109 (bodyOf Go.Proofs.Tryz.f109) ⟨argEnv 0 [.data (Ty.sl TTable) tables, .data TBond b], []⟩ (outK tab Go.Proofs.Tryz.f109.results.toList (hasBox []) (resK (.dat Ty.bool) K)) =
  (cond (!(M.inR b.2.1 (0 : Int) (wrap64 ((tables.length : Int) - (1 : Int))))) (K (.data Ty.bool false) []) ((0 ≤ b.2.1) ∧ (b.2.1 < (tables.length : Int)) ∧ cond ((decide (b.2.2.2.1 = (0 : Int))) == true) (cond ((decide ((b.2.2.2.2.1.length : Int) = (0 : Int))) == true) (cond (decide (b.1 = (1 : Int))) ((Sm TTable (nth (t := TTable) tables b.2.1)) ∧ (Sm (Ty.sl (Ty.int .i64)) b.2.2.1) ∧ cond ((M.listOk (nth (t := TTable) tables b.2.1).1 b.2.2.1) == true) (cond ((!b.2.2.2.2.2.1) == true) (K (.data Ty.bool (decide ((b.2.2.2.2.2.2.1.length : Int) = (0 : Int)))) []) (K (.data Ty.bool false) [])) (K (.data Ty.bool false) [])) (cond (decide (b.1 = (3 : Int))) ((Sm (Ty.sl TColumn) ((nth (t := TTable) tables b.2.1).1)) ∧ (Sm (Ty.sl TPart) b.2.2.2.2.2.2.1) ∧ cond ((decide ((M.exprKind ((nth (t := TTable) tables b.2.1).1) b.2.2.2.2.2.2.1) = (3 : Int))) == true) (cond ((!b.2.2.2.2.2.1) == true) (K (.data Ty.bool (decide ((b.2.2.1.length : Int) = (0 : Int)))) []) (K (.data Ty.bool false) [])) (K (.data Ty.bool false) [])) (cond (decide (b.1 = (2 : Int))) (cond ((!(M.inR b.2.2.2.1 (0 : Int) (wrap64 ((tables.length : Int) - (1 : Int))))) == false) (cond ((decide ((0 : Int) < (b.2.2.2.2.2.2.1.length : Int))) == false) ((Sm TTable (nth (t := TTable) tables b.2.1)) ∧ (Sm (Ty.sl (Ty.int .i64)) b.2.2.1) ∧ cond ((!(M.listOk (nth (t := TTable) tables b.2.1).1 b.2.2.1)) == false) ((0 ≤ b.2.2.2.1) ∧ (b.2.2.2.1 < (tables.length : Int)) ∧ (Sm TTable (nth (t := TTable) tables b.2.2.2.1)) ∧ (Sm (Ty.sl (Ty.int .i64)) b.2.2.2.2.1) ∧ cond ((!(M.listOk (nth (t := TTable) tables b.2.2.2.1).1 b.2.2.2.2.1)) == false) (cond (!decide ((b.2.2.2.2.1.length : Int) = (b.2.2.1.length : Int))) (K (.data Ty.bool false) []) ((∃ m_, (True) ∧ LoopI (fun (i1 : Int) (v1 : Unit) => (⟨[(0, .data (Ty.sl TTable) tables), (3, .adr TBond b), (5, .adr TTable (nth (t := TTable) tables b.2.1)), (112, .data (Ty.sl (Ty.int .i64)) b.2.2.1), (113, .data (Ty.int .i64) (b.2.2.1.length : Int)), (114, .data (Ty.int .i64) i1)], []⟩ : St)) (0 : Int) (b.2.2.1.length : Int) (F.impl_bondOk_l1 tables b) (fun v1 : Unit => True) (outD (fun v1 : Unit => True → K (.data Ty.bool true) []) (fun q1 : Unit => K (.data Ty.bool false) [])) m_ (⟨[(0, .data (Ty.sl TTable) tables), (3, .adr TBond b), (5, .adr TTable (nth (t := TTable) tables b.2.1)), (112, .data (Ty.sl (Ty.int .i64)) b.2.2.1), (113, .data (Ty.int .i64) (b.2.2.1.length : Int)), (114, .data (Ty.int .i64) (0 : Int))], []⟩ : St)))) (K (.data Ty.bool false) [])) (K (.data Ty.bool false) [])) (K (.data Ty.bool false) [])) (K (.data Ty.bool false) [])) (K (.data Ty.bool false) [])))) (cond (decide (b.1 = (1 : Int))) ((Sm TTable (nth (t := TTable) tables b.2.1)) ∧ (Sm (Ty.sl (Ty.int .i64)) b.2.2.1) ∧ cond ((M.listOk (nth (t := TTable) tables b.2.1).1 b.2.2.1) == true) (K (.data Ty.bool false) []) (K (.data Ty.bool false) [])) (cond (decide (b.1 = (3 : Int))) ((Sm (Ty.sl TColumn) ((nth (t := TTable) tables b.2.1).1)) ∧ (Sm (Ty.sl TPart) b.2.2.2.2.2.2.1) ∧ cond ((decide ((M.exprKind ((nth (t := TTable) tables b.2.1).1) b.2.2.2.2.2.2.1) = (3 : Int))) == true) (K (.data Ty.bool false) []) (K (.data Ty.bool false) [])) (cond (decide (b.1 = (2 : Int))) (cond ((!(M.inR b.2.2.2.1 (0 : Int) (wrap64 ((tables.length : Int) - (1 : Int))))) == false) (cond ((decide ((0 : Int) < (b.2.2.2.2.2.2.1.length : Int))) == false) ((Sm TTable (nth (t := TTable) tables b.2.1)) ∧ (Sm (Ty.sl (Ty.int .i64)) b.2.2.1) ∧ cond ((!(M.listOk (nth (t := TTable) tables b.2.1).1 b.2.2.1)) == false) ((0 ≤ b.2.2.2.1) ∧ (b.2.2.2.1 < (tables.length : Int)) ∧ (Sm TTable (nth (t := TTable) tables b.2.2.2.1)) ∧ (Sm (Ty.sl (Ty.int .i64)) b.2.2.2.2.1) ∧ cond ((!(M.listOk (nth (t := TTable) tables b.2.2.2.1).1 b.2.2.2.2.1)) == false) (cond (!decide ((b.2.2.2.2.1.length : Int) = (b.2.2.1.length : Int))) (K (.data Ty.bool false) []) ((∃ m_, (True) ∧ LoopI (fun (i1 : Int) (v1 : Unit) => (⟨[(0, .data (Ty.sl TTable) tables), (3, .adr TBond b), (5, .adr TTable (nth (t := TTable) tables b.2.1)), (112, .data (Ty.sl (Ty.int .i64)) b.2.2.1), (113, .data (Ty.int .i64) (b.2.2.1.length : Int)), (114, .data (Ty.int .i64) i1)], []⟩ : St)) (0 : Int) (b.2.2.1.length : Int) (F.impl_bondOk_l1 tables b) (fun v1 : Unit => True) (outD (fun v1 : Unit => True → K (.data Ty.bool true) []) (fun q1 : Unit => K (.data Ty.bool false) [])) m_ (⟨[(0, .data (Ty.sl TTable) tables), (3, .adr TBond b), (5, .adr TTable (nth (t := TTable) tables b.2.1)), (112, .data (Ty.sl (Ty.int .i64)) b.2.2.1), (113, .data (Ty.int .i64) (b.2.2.1.length : Int)), (114, .data (Ty.int .i64) (0 : Int))], []⟩ : St)))) (K (.data Ty.bool false) [])) (K (.data Ty.bool false) [])) (K (.data Ty.bool false) [])) (K (.data Ty.bool false) [])) (K (.data Ty.bool false) []))))) (cond (decide (b.1 = (1 : Int))) ((Sm TTable (nth (t := TTable) tables b.2.1)) ∧ (Sm (Ty.sl (Ty.int .i64)) b.2.2.1) ∧ cond ((M.listOk (nth (t := TTable) tables b.2.1).1 b.2.2.1) == true) (K (.data Ty.bool false) []) (K (.data Ty.bool false) [])) (cond (decide (b.1 = (3 : Int))) ((Sm (Ty.sl TColumn) ((nth (t := TTable) tables b.2.1).1)) ∧ (Sm (Ty.sl TPart) b.2.2.2.2.2.2.1) ∧ cond ((decide ((M.exprKind ((nth (t := TTable) tables b.2.1).1) b.2.2.2.2.2.2.1) = (3 : Int))) == true) (K (.data Ty.bool false) []) (K (.data Ty.bool false) [])) (cond (decide (b.1 = (2 : Int))) (cond ((!(M.inR b.2.2.2.1 (0 : Int) (wrap64 ((tables.length : Int) - (1 : Int))))) == false) (cond ((decide ((0 : Int) < (b.2.2.2.2.2.2.1.length : Int))) == false) ((Sm TTable (nth (t := TTable) tables b.2.1)) ∧ (Sm (Ty.sl (Ty.int .i64)) b.2.2.1) ∧ cond ((!(M.listOk (nth (t := TTable) tables b.2.1).1 b.2.2.1)) == false) ((0 ≤ b.2.2.2.1) ∧ (b.2.2.2.1 < (tables.length : Int)) ∧ (Sm TTable (nth (t := TTable) tables b.2.2.2.1)) ∧ (Sm (Ty.sl (Ty.int .i64)) b.2.2.2.2.1) ∧ cond ((!(M.listOk (nth (t := TTable) tables b.2.2.2.1).1 b.2.2.2.2.1)) == false) (cond (!decide ((b.2.2.2.2.1.length : Int) = (b.2.2.1.length : Int))) (K (.data Ty.bool false) []) ((∃ m_, (True) ∧ LoopI (fun (i1 : Int) (v1 : Unit) => (⟨[(0, .data (Ty.sl TTable) tables), (3, .adr TBond b), (5, .adr TTable (nth (t := TTable) tables b.2.1)), (112, .data (Ty.sl (Ty.int .i64)) b.2.2.1), (113, .data (Ty.int .i64) (b.2.2.1.length : Int)), (114, .data (Ty.int .i64) i1)], []⟩ : St)) (0 : Int) (b.2.2.1.length : Int) (F.impl_bondOk_l1 tables b) (fun v1 : Unit => True) (outD (fun v1 : Unit => True → K (.data Ty.bool true) []) (fun q1 : Unit => K (.data Ty.bool false) [])) m_ (⟨[(0, .data (Ty.sl TTable) tables), (3, .adr TBond b), (5, .adr TTable (nth (t := TTable) tables b.2.1)), (112, .data (Ty.sl (Ty.int .i64)) b.2.2.1), (113, .data (Ty.int .i64) (b.2.2.1.length : Int)), (114, .data (Ty.int .i64) (0 : Int))], []⟩ : St)))) (K (.data Ty.bool false) [])) (K (.data Ty.bool false) [])) (K (.data Ty.bool false) [])) (K (.data Ty.bool false) [])) (K (.data Ty.bool false) [])))))) := by kernel_rfl
theorem lvc109_0 (tables : (List (TTable).D)) (b : (TBond).D)  (i1 : Int) (v1 : Unit) (m : Nat) (K : X → St → Prop) : awp C109 (L109 tables b) ann109 (loopAt (bodyOf Go.Proofs.Tryz.f109) 0) (⟨[(0, .data (Ty.sl TTable) tables), (3, .adr TBond b), (5, .adr TTable (nth (t := TTable) tables b.2.1)), (112, .data (Ty.sl (Ty.int .i64)) b.2.2.1), (113, .data (Ty.int .i64) (b.2.2.1.length : Int)), (114, .data (Ty.int .i64) i1)], []⟩ : St) (thenW (fun s' => ∃ m', m' < m ∧ (L109 tables b) 1 m' s' K) (exitN 1 (ann109 (behind 1)) K)) =
  (cond (decide (i1 < (b.2.2.1.length : Int))) ((0 ≤ i1) ∧ (i1 < (b.2.2.1.length : Int)) ∧ (0 ≤ (nth (t := (Ty.int .i64)) b.2.2.1 i1)) ∧ ((nth (t := (Ty.int .i64)) b.2.2.1 i1) < (((nth (t := TTable) tables b.2.1).1).length : Int)) ∧ (0 ≤ b.2.2.2.1) ∧ (b.2.2.2.1 < (tables.length : Int)) ∧ (0 ≤ i1) ∧ (i1 < (b.2.2.2.2.1.length : Int)) ∧ (0 ≤ (nth (t := (Ty.int .i64)) b.2.2.2.2.1 i1)) ∧ ((nth (t := (Ty.int .i64)) b.2.2.2.2.1 i1) < (((nth (t := TTable) tables b.2.2.2.1).1).length : Int)) ∧ cond (!decide ((nth (t := TColumn) ((nth (t := TTable) tables b.2.1).1) (nth (t := (Ty.int .i64)) b.2.2.1 i1)).1 = (nth (t := TColumn) ((nth (t := TTable) tables b.2.2.2.1).1) (nth (t := (Ty.int .i64)) b.2.2.2.2.1 i1)).1)) (K .ret (⟨[(4, .data Ty.bool false)], []⟩ : St)) ((∃ m_, m_ < m ∧ (L109 tables b) 1 m_ (⟨[(0, .data (Ty.sl TTable) tables), (3, .adr TBond b), (5, .adr TTable (nth (t := TTable) tables b.2.1)), (112, .data (Ty.sl (Ty.int .i64)) b.2.2.1), (113, .data (Ty.int .i64) (b.2.2.1.length : Int)), (114, .data (Ty.int .i64) (wrap64 (i1 + (1 : Int))))], []⟩ : St) K))) (K (.exit 1) (⟨[], []⟩ : St))) := by kernel_rfl
theorem con109_ok : ConOk P 109 c109 := by
  refine con_okR (fn := Go.Proofs.Tryz.f109) (code := bodyOf Go.Proofs.Tryz.f109) (tab_ok tab_check cmp_check) consOk109 mixed Go.Proofs.Tryz.func109 rfl rfl fun args hp K h0 => ?_
  obtain ⟨a0, a1, rfl, rfl, h1⟩ := args2_elim h0
  obtain ⟨tables, rfl, h2⟩ := withD_elim h1
  obtain ⟨b, rfl, h3⟩ := withD_elim h2
  obtain ⟨h_tables, h_b, hK⟩ := h3
  have h : ok (F.impl_bondOk tables b) (fun r => K (.data Ty.bool r) []) := ok_of_eq (F.impl_bondOk_eq tables b h_tables h_b) hK
  refine ⟨⟨show (2 : Nat) ≤ 141 by decide, show (2 : Nat) ≤ 1000000 by decide⟩, ann109, (L109 tables b), (.dat Ty.bool), (loopsN1 (i0 := 1) (by kernel_rfl) ?_), ?_⟩
  · clear h
    intro m_ s_ K_ h
    obtain ⟨hc1, i1, v1, rfl, hl1, rfl, hv1, h⟩ := (show LP109_1 tables b m_ s_ K_ from h)
    rw [lvc109_0 tables b i1 v1 _ K_]
    exact (loopI_step h (fun ht1 h => ⟨hl1, ⟨ht1, ⟨(ok_guard h).1, have g_38 := (ok_guard h).1; have h := (ok_guard h).2; ⟨(ok_guard h).1, have g_39 := (ok_guard h).1; have h := (ok_guard h).2; ⟨(ok_guard h).1, have g_40 := (ok_guard h).1; have h := (ok_guard h).2; ⟨(ok_guard h).1, have g_41 := (ok_guard h).1; have h := (ok_guard h).2; ⟨hl1, ⟨(ok_guard h).1, have g_42 := (ok_guard h).1; have h := (ok_guard h).2; ⟨(ok_guard h).1, have g_43 := (ok_guard h).1; have h := (ok_guard h).2; ⟨(ok_guard h).1, have g_44 := (ok_guard h).1; have h := (ok_guard h).2; (ok_cond h (fun b_45 h => (have h := ok_ret h; h)) (fun b_45 h => (loopI_next (fun m hm => (show LP109_1 tables b m _ _ from ⟨hc1, hm⟩)) () rfl hl1 low0 ht1 (sm_len h_b.2.2.1) trivial (have h := ok_ret h; h))))⟩⟩⟩⟩⟩⟩⟩⟩⟩⟩) (fun h => (h trivial)))
  · rw [vc109 tables b K]
    exact (ok_cond h (fun b_1 h => (have h := ok_ret h; h)) (fun b_1 h => ⟨(inR_lo (bnf b_1)), ⟨(inR_hi (bnf b_1)), (ok_cond h (fun b_2 h => (ok_cond h (fun b_3 h => (ok_cond h (fun b_4 h => ⟨(sm_nth h_tables b.2.1), ⟨h_b.2.2.1, (ok_cond h (fun b_5 h => (ok_cond h (fun b_6 h => (have h := ok_ret h; h)) (fun b_6 h => (have h := ok_ret h; h)))) (fun b_5 h => (have h := ok_ret h; h)))⟩⟩) (fun b_4 h => (ok_cond h (fun b_7 h => ⟨(sm_nth h_tables b.2.1).1, ⟨h_b.2.2.2.2.2.2.1, (ok_cond h (fun b_8 h => (ok_cond h (fun b_9 h => (have h := ok_ret h; h)) (fun b_9 h => (have h := ok_ret h; h)))) (fun b_8 h => (have h := ok_ret h; h)))⟩⟩) (fun b_7 h => (ok_cond h (fun b_10 h => (ok_cond h (fun b_11 h => (ok_cond h (fun b_12 h => ⟨(sm_nth h_tables b.2.1), ⟨h_b.2.2.1, (ok_cond h (fun b_13 h => ⟨(inR_lo (bnf (bgt b_11))), ⟨(inR_hi (bnf (bgt b_11))), ⟨(sm_nth h_tables b.2.2.2.1), ⟨h_b.2.2.2.2.1, (ok_cond h (fun b_14 h => (ok_cond h (fun b_15 h => (have h := ok_ret h; h)) (fun b_15 h => (loopI_start (fun m hm => ⟨trivial, hm⟩) (0 : Int) () rfl (Int.natCast_nonneg 0) trivial (ok_then h (fun v1 h hv1 => (have h := ok_ret h; h)) (fun q1 h => (have h := ok_ret h; h))))))) (fun b_14 h => (have h := ok_ret h; h)))⟩⟩⟩⟩) (fun b_13 h => (have h := ok_ret h; h)))⟩⟩) (fun b_12 h => (have h := ok_ret h; h)))) (fun b_11 h => (have h := ok_ret h; h)))) (fun b_10 h => (have h := ok_ret h; h)))))))) (fun b_3 h => (ok_cond h (fun b_46 h => ⟨(sm_nth h_tables b.2.1), ⟨h_b.2.2.1, (ok_cond h (fun b_47 h => (have h := ok_ret h; h)) (fun b_47 h => (have h := ok_ret h; h)))⟩⟩) (fun b_46 h => (ok_cond h (fun b_48 h => ⟨(sm_nth h_tables b.2.1).1, ⟨h_b.2.2.2.2.2.2.1, (ok_cond h (fun b_49 h => (have h := ok_ret h; h)) (fun b_49 h => (have h := ok_ret h; h)))⟩⟩) (fun b_48 h => (ok_cond h (fun b_50 h => (ok_cond h (fun b_51 h => (ok_cond h (fun b_52 h => ⟨(sm_nth h_tables b.2.1), ⟨h_b.2.2.1, (ok_cond h (fun b_53 h => ⟨(inR_lo (bnf (bgt b_51))), ⟨(inR_hi (bnf (bgt b_51))), ⟨(sm_nth h_tables b.2.2.2.1), ⟨h_b.2.2.2.2.1, (ok_cond h (fun b_54 h => (ok_cond h (fun b_55 h => (have h := ok_ret h; h)) (fun b_55 h => (loopI_start (fun m hm => ⟨trivial, hm⟩) (0 : Int) () rfl (Int.natCast_nonneg 0) trivial (ok_then h (fun v1 h hv1 => (have h := ok_ret h; h)) (fun q1 h => (have h := ok_ret h; h))))))) (fun b_54 h => (have h := ok_ret h; h)))⟩⟩⟩⟩) (fun b_53 h => (have h := ok_ret h; h)))⟩⟩) (fun b_52 h => (have h := ok_ret h; h)))) (fun b_51 h => (have h := ok_ret h; h)))) (fun b_50 h => (have h := ok_ret h; h)))))))))) (fun b_2 h => (ok_cond h (fun b_56 h => ⟨(sm_nth h_tables b.2.1), ⟨h_b.2.2.1, (ok_cond h (fun b_57 h => (have h := ok_ret h; h)) (fun b_57 h => (have h := ok_ret h; h)))⟩⟩) (fun b_56 h => (ok_cond h (fun b_58 h => ⟨(sm_nth h_tables b.2.1).1, ⟨h_b.2.2.2.2.2.2.1, (ok_cond h (fun b_59 h => (have h := ok_ret h; h)) (fun b_59 h => (have h := ok_ret h; h)))⟩⟩) (fun b_58 h => (ok_cond h (fun b_60 h => (ok_cond h (fun b_61 h => (ok_cond h (fun b_62 h => ⟨(sm_nth h_tables b.2.1), ⟨h_b.2.2.1, (ok_cond h (fun b_63 h => ⟨(inR_lo (bnf (bgt b_61))), ⟨(inR_hi (bnf (bgt b_61))), ⟨(sm_nth h_tables b.2.2.2.1), ⟨h_b.2.2.2.2.1, (ok_cond h (fun b_64 h => (ok_cond h (fun b_65 h => (have h := ok_ret h; h)) (fun b_65 h => (loopI_start (fun m hm => ⟨trivial, hm⟩) (0 : Int) () rfl (Int.natCast_nonneg 0) trivial (ok_then h (fun v1 h hv1 => (have h := ok_ret h; h)) (fun q1 h => (have h := ok_ret h; h))))))) (fun b_64 h => (have h := ok_ret h; h)))⟩⟩⟩⟩) (fun b_63 h => (have h := ok_ret h; h)))⟩⟩) (fun b_62 h => (have h := ok_ret h; h)))) (fun b_61 h => (have h := ok_ret h; h)))) (fun b_60 h => (have h := ok_ret h; h)))))))))⟩⟩))

/-! 108: loop.example/tablehouse/impl.bondsOk$1 -/
def c108 : Con := ⟨[.dat TBond, .any], fun args hp K => args2 (fun a0 a1 => withD TBond a0 fun b => withR (Ty.sl TTable) a1 fun tables => (Sm TBond b) ∧ (Sm (Ty.sl TTable) tables) ∧ K (.data Ty.bool (!M.bondOk tables b)) []) args hp⟩
def cons108 : Cons := [(109, c109)]
def inl108 : List (Nat × Inl) := []
@[reducible] def C108 : Ctx := ⟨tab, fun t => memN t cmps, cons108, 8, inl108, 0⟩
theorem consOk108 : ConsOk P C108 := by
  refine consOk_cons (enter_ok (fn := Go.Proofs.Tryz.f109) Go.Proofs.Tryz.func109 (by kernel_rfl) rfl) con109_ok ?_
  exact consOk_nil
def ann108 : Nat → List Dir
  | 0 => [.fixRow 2 TBond, .keep [1, 2]]
  | 1 => [.keep [3]]
  | _ => []
def L108 (b : (TBond).D) (tables : (List (TTable).D)) : Loops := fun id m st_ K => match id with
  | _ => False
theorem vc108 (b : (TBond).D) (tables : (List (TTable).D)) (K : AV → Hp → Prop) : awp C108 (L108 b tables) ann108 (bodyOf Go.Proofs.Tryz.f108) ⟨argEnv 0 [.data TBond b, .ref (.data (Ty.sl TTable) tables)], []⟩ (outK tab Go.Proofs.Tryz.f108.results.toList (hasBox []) (resK (.dat Ty.bool) K)) =
  ((Sm (Ty.sl TTable) tables) ∧ (Sm TBond b) ∧ K (.data Ty.bool (!(M.bondOk tables b))) []) := by kernel_rfl
theorem con108_ok : ConOk P 108 c108 := by
  refine con_okR (fn := Go.Proofs.Tryz.f108) (code := bodyOf Go.Proofs.Tryz.f108) (tab_ok tab_check cmp_check) consOk108 mixed Go.Proofs.Tryz.func108 rfl rfl fun args hp K h0 => ?_
  obtain ⟨a0, a1, rfl, rfl, h1⟩ := args2_elim h0
  obtain ⟨b, rfl, h2⟩ := withD_elim h1
  obtain ⟨tables, rfl, h3⟩ := withR_elim h2
  obtain ⟨h_b, h_tables, hK⟩ := h3
  have h : ok (F.impl_bondsOk_1 b tables) (fun r => K (.data Ty.bool r) []) := ok_of_eq (F.impl_bondsOk_1_eq b tables h_b h_tables) hK
  refine ⟨⟨show (2 : Nat) ≤ 8 by decide, show (2 : Nat) ≤ 1000000 by decide⟩, ann108, (L108 b tables), (.dat Ty.bool), (no_loops (by kernel_rfl)), ?_⟩
  · rw [vc108 b tables K]
    exact ⟨h_tables, ⟨h_b, (have h := ok_ret h; h)⟩⟩

/-! 104: loop.example/tablehouse/impl.ValueOf -/
def c104 : Con := ⟨[.dat (Ty.int .i64)], fun args hp K => args1 (fun a0 => withD (Ty.int .i64) a0 fun truth => (∀ r : (TValue).D, r = (M.valueOf truth) → K (.data TValue r) [])) args hp⟩
def cons104 : Cons := [(98, c98)]
def inl104 : List (Nat × Inl) := []
@[reducible] def C104 : Ctx := ⟨tab, fun t => memN t cmps, cons104, 9, inl104, 0⟩
theorem consOk104 : ConsOk P C104 := by
  refine consOk_cons (enter_ok (fn := Go.Proofs.Tryz.f98) Go.Proofs.Tryz.func98 (by kernel_rfl) rfl) con98_ok ?_
  exact consOk_nil
def ann104 : Nat → List Dir
  | 0 => [.keep [0, 2]]
  | 1 => [.keep [0, 2, 5]]
  | 2 => [.keep [2]]
  | 3 => [.keep [2]]
  | _ => []
def L104 (truth : Int) : Loops := fun id m st_ K => match id with
  | _ => False
theorem vc104 (truth : Int) (K : AV → Hp → Prop) : awp C104 (L104 truth) ann104 (bodyOf Go.Proofs.Tryz.f104) ⟨argEnv 0 [.data (Ty.int .i64) truth], []⟩ (outK tab Go.Proofs.Tryz.f104.results.toList (hasBox []) (resK (.dat TValue) K)) =
  (cond (!(M.inR truth (0 : Int) (1 : Int))) (K (.data TValue ((0 : Int), ((0 : Int), ((⟨#[]⟩ : ByteArray), ())))) []) (K (.data TValue ((3 : Int), (truth, ((⟨#[]⟩ : ByteArray), ())))) [])) := by kernel_rfl
theorem con104_ok : ConOk P 104 c104 := by
  refine con_okR (fn := Go.Proofs.Tryz.f104) (code := bodyOf Go.Proofs.Tryz.f104) (tab_ok tab_check cmp_check) consOk104 mixed Go.Proofs.Tryz.func104 rfl rfl fun args hp K h0 => ?_
  obtain ⟨a0, rfl, rfl, h1⟩ := args1_elim h0
  obtain ⟨truth, rfl, h2⟩ := withD_elim h1
  have hK := h2
  have h : ok (F.impl_ValueOf truth) (fun r => K (.data TValue r) []) := ok_of_eq (F.impl_ValueOf_eq truth) (hK _ rfl)
  refine ⟨⟨show (1 : Nat) ≤ 9 by decide, show (1 : Nat) ≤ 1000000 by decide⟩, ann104, (L104 truth), (.dat TValue), (no_loops (by kernel_rfl)), ?_⟩
  · rw [vc104 truth K]
    exact (ok_cond h (fun b_1 h => (have h := ok_ret h; h)) (fun b_1 h => (have h := ok_ret h; h)))

/-! 188: loop.example/tablehouse/impl.truthIf -/
def c188 : Con := ⟨[.dat Ty.bool], fun args hp K => args1 (fun a0 => withD Ty.bool a0 fun b => K (.data (Ty.int .i64) (M.bool b)) []) args hp⟩
def cons188 : Cons := []
def inl188 : List (Nat × Inl) := []
@[reducible] def C188 : Ctx := ⟨tab, fun t => memN t cmps, cons188, 4, inl188, 0⟩
theorem consOk188 : ConsOk P C188 := by
  exact consOk_nil
def ann188 : Nat → List Dir
  | 0 => [.keep [0]]
  | 1 => [.keep [3]]
  | 2 => [.keep [2]]
  | 3 => [.keep [2]]
  | _ => []
def L188 (b : Bool) : Loops := fun id m st_ K => match id with
  | _ => False
theorem vc188 (b : Bool) (K : AV → Hp → Prop) : awp C188 (L188 b) ann188 (bodyOf Go.Proofs.Tryz.f188) ⟨argEnv 0 [.data Ty.bool b], []⟩ (outK tab Go.Proofs.Tryz.f188.results.toList (hasBox []) (resK (.dat (Ty.int .i64)) K)) =
  (cond b (K (.data (Ty.int .i64) (1 : Int)) []) (K (.data (Ty.int .i64) (0 : Int)) [])) := by kernel_rfl
theorem con188_ok : ConOk P 188 c188 := by
  refine con_okR (fn := Go.Proofs.Tryz.f188) (code := bodyOf Go.Proofs.Tryz.f188) (tab_ok tab_check cmp_check) consOk188 mixed Go.Proofs.Tryz.func188 rfl rfl fun args hp K h0 => ?_
  obtain ⟨a0, rfl, rfl, h1⟩ := args1_elim h0
  obtain ⟨b, rfl, h2⟩ := withD_elim h1
  have hK := h2
  have h : ok (F.impl_truthIf b) (fun r => K (.data (Ty.int .i64) r) []) := ok_of_eq (F.impl_truthIf_eq b) hK
  refine ⟨⟨show (1 : Nat) ≤ 4 by decide, show (1 : Nat) ≤ 1000000 by decide⟩, ann188, (L188 b), (.dat (Ty.int .i64)), (no_loops (by kernel_rfl)), ?_⟩
  · rw [vc188 b K]
    exact (ok_cond h (fun b_1 h => (have h := ok_ret h; h)) (fun b_1 h => (have h := ok_ret h; h)))

/-! 220: cmp.Or[int] -/
def c220 : Con := ⟨[.dat (Ty.sl (Ty.int .i64))], fun args hp K => args1 (fun a0 => withD (Ty.sl (Ty.int .i64)) a0 fun vals => (Sm (Ty.sl (Ty.int .i64)) vals) ∧ K (.data (Ty.int .i64) (M.orI vals)) []) args hp⟩
def cons220 : Cons := []
def inl220 : List (Nat × Inl) := []
@[reducible] def C220 : Ctx := ⟨tab, fun t => memN t cmps, cons220, 18, inl220, 0⟩
theorem consOk220 : ConsOk P C220 := by
  exact consOk_nil
def ann220 : Nat → List Dir
  | 0 => [.keep [0]]
  | 1 => [.keep [0, 3]]
  | 2 => [.keep [3, 6, 7, 8]]
  | 3 => [.keep [3, 6, 7, 8, 9]]
  | 4 => [.keep [3, 5, 6, 7, 8]]
  | 5 => [.keep [3, 5, 6, 7, 8, 14]]
  | 6 => [.keep [2]]
  | 7 => [.keep [3, 6, 7, 8]]
  | 8 => [.keep [2]]
  | 100000 => [.keep [3]]
  | _ => []
@[reducible] def LP220_0 (vals : (List Int)) (m : Nat) (st_ : St) (K : X → St → Prop) : Prop := (True) ∧ LoopE (t := (Ty.int .i64)) (fun (i0 : Int) (v0 : Unit) => (⟨[(3, .data (Ty.int .i64) (0 : Int)), (6, .data (Ty.sl (Ty.int .i64)) vals), (7, .data (Ty.int .i64) (vals.length : Int)), (8, .data (Ty.int .i64) i0)], []⟩ : St)) vals (F.cmp_Or_int_l0 vals) (fun v0 : Unit => True) (outD (fun v0 : Unit => True → K (.exit 0) (⟨[(3, .data (Ty.int .i64) (0 : Int))], []⟩ : St)) (fun q0 : Int => K .ret (⟨[(2, .data (Ty.int .i64) q0)], []⟩ : St))) m st_
def L220 (vals : (List Int)) : Loops := fun id m st_ K => match id with
  | 0 => LP220_0 vals m st_ K
  | _ => False
theorem vc220 (vals : (List Int)) (K : AV → Hp → Prop) : awp C220 (L220 vals) ann220 (bodyOf Go.Proofs.Tryz.f220) ⟨argEnv 0 [.data (Ty.sl (Ty.int .i64)) vals], []⟩ (outK tab Go.Proofs.Tryz.f220.results.toList (hasBox []) (resK (.dat (Ty.int .i64)) K)) =
  ((∃ m_, (True) ∧ LoopE (t := (Ty.int .i64)) (fun (i0 : Int) (v0 : Unit) => (⟨[(3, .data (Ty.int .i64) (0 : Int)), (6, .data (Ty.sl (Ty.int .i64)) vals), (7, .data (Ty.int .i64) (vals.length : Int)), (8, .data (Ty.int .i64) i0)], []⟩ : St)) vals (F.cmp_Or_int_l0 vals) (fun v0 : Unit => True) (outD (fun v0 : Unit => True → K (.data (Ty.int .i64) (0 : Int)) []) (fun q0 : Int => K (.data (Ty.int .i64) q0) [])) m_ (⟨[(3, .data (Ty.int .i64) (0 : Int)), (6, .data (Ty.sl (Ty.int .i64)) vals), (7, .data (Ty.int .i64) (vals.length : Int)), (8, .data (Ty.int .i64) (0 : Int))], []⟩ : St))) := by kernel_rfl
theorem lvc220_0 (vals : (List Int))  (i0 : Int) (v0 : Unit) (m : Nat) (K : X → St → Prop) : awp C220 (L220 vals) ann220 (loopAt (bodyOf Go.Proofs.Tryz.f220) 0) (⟨[(3, .data (Ty.int .i64) (0 : Int)), (6, .data (Ty.sl (Ty.int .i64)) vals), (7, .data (Ty.int .i64) (vals.length : Int)), (8, .data (Ty.int .i64) i0)], []⟩ : St) (thenW (fun s' => ∃ m', m' < m ∧ (L220 vals) 0 m' s' K) (exitN 0 (ann220 (behind 0)) K)) =
  (cond (decide (i0 < (vals.length : Int))) ((0 ≤ i0) ∧ (i0 < (vals.length : Int)) ∧ cond (!decide ((nth (t := (Ty.int .i64)) vals i0) = (0 : Int))) (K .ret (⟨[(2, .data (Ty.int .i64) (nth (t := (Ty.int .i64)) vals i0))], []⟩ : St)) ((∃ m_, m_ < m ∧ (L220 vals) 0 m_ (⟨[(3, .data (Ty.int .i64) (0 : Int)), (6, .data (Ty.sl (Ty.int .i64)) vals), (7, .data (Ty.int .i64) (vals.length : Int)), (8, .data (Ty.int .i64) (wrap64 (i0 + (1 : Int))))], []⟩ : St) K))) (K (.exit 0) (⟨[(3, .data (Ty.int .i64) (0 : Int))], []⟩ : St))) := by kernel_rfl
theorem con220_ok : ConOk P 220 c220 := by
  refine con_okR (fn := Go.Proofs.Tryz.f220) (code := bodyOf Go.Proofs.Tryz.f220) (tab_ok tab_check cmp_check) consOk220 mixed Go.Proofs.Tryz.func220 rfl rfl fun args hp K h0 => ?_
  obtain ⟨a0, rfl, rfl, h1⟩ := args1_elim h0
  obtain ⟨vals, rfl, h2⟩ := withD_elim h1
  obtain ⟨h_vals, hK⟩ := h2
  have h : ok (F.cmp_Or_int vals) (fun r => K (.data (Ty.int .i64) r) []) := ok_of_eq (F.cmp_Or_int_eq vals h_vals) hK
  refine ⟨⟨show (1 : Nat) ≤ 18 by decide, show (1 : Nat) ≤ 1000000 by decide⟩, ann220, (L220 vals), (.dat (Ty.int .i64)), (loopsN1 (i0 := 0) (by kernel_rfl) ?_), ?_⟩
  · clear h
    intro m_ s_ K_ h
    obtain ⟨hc0, i0, v0, rfl, hl0, rfl, hv0, h⟩ := (show LP220_0 vals m_ s_ K_ from h)
    rw [lvc220_0 vals i0 v0 _ K_]
    exact (loopE_step (t := (Ty.int .i64)) hl0 h (fun ht0 h => ⟨hl0, ⟨ht0, (ok_cond h (fun b_9 h => (have h := ok_ret h; h)) (fun b_9 h => (loopE_next (t := (Ty.int .i64)) (fun m hm => (show LP220_0 vals m _ _ from ⟨hc0, hm⟩)) () rfl hl0 ht0 (sm_len h_vals) trivial (have h := ok_ret h; h))))⟩⟩) (fun h => (h trivial)))
  · rw [vc220 vals K]
    exact (loopE_start (t := (Ty.int .i64)) (fun m hm => ⟨trivial, hm⟩) () rfl trivial (ok_then h (fun v0 h hv0 => (have h := ok_ret h; h)) (fun q0 h => (have h := ok_ret h; h))))

/-! 224: cmp.isNaN[int] -/
def c224 : Con := ⟨[.dat (Ty.int .i64)], fun args hp K => args1 (fun a0 => withD (Ty.int .i64) a0 fun x => K (.data Ty.bool (false)) []) args hp⟩
def cons224 : Cons := []
def inl224 : List (Nat × Inl) := []
@[reducible] def C224 : Ctx := ⟨tab, fun t => memN t cmps, cons224, 6, inl224, 0⟩
theorem consOk224 : ConsOk P C224 := by
  exact consOk_nil
def ann224 : Nat → List Dir
  | 0 => [.keep [0]]
  | 1 => [.keep [2]]
  | _ => []
def L224 (x : Int) : Loops := fun id m st_ K => match id with
  | _ => False
theorem vc224 (x : Int) (K : AV → Hp → Prop) : awp C224 (L224 x) ann224 (bodyOf Go.Proofs.Tryz.f224) ⟨argEnv 0 [.data (Ty.int .i64) x], []⟩ (outK tab Go.Proofs.Tryz.f224.results.toList (hasBox []) (resK (.dat Ty.bool) K)) =
  (K (.data Ty.bool (!decide (x = x))) []) := by kernel_rfl
theorem con224_ok : ConOk P 224 c224 := by
  refine con_okR (fn := Go.Proofs.Tryz.f224) (code := bodyOf Go.Proofs.Tryz.f224) (tab_ok tab_check cmp_check) consOk224 mixed Go.Proofs.Tryz.func224 rfl rfl fun args hp K h0 => ?_
  obtain ⟨a0, rfl, rfl, h1⟩ := args1_elim h0
  obtain ⟨x, rfl, h2⟩ := withD_elim h1
  have hK := h2
  have h : ok (F.cmp_isNaN_int x) (fun r => K (.data Ty.bool r) []) := ok_of_eq (F.cmp_isNaN_int_eq x) hK
  refine ⟨⟨show (1 : Nat) ≤ 6 by decide, show (1 : Nat) ≤ 1000000 by decide⟩, ann224, (L224 x), (.dat Ty.bool), (no_loops (by kernel_rfl)), ?_⟩
  · rw [vc224 x K]
    exact (have h := ok_ret h; h)

/-! 221: cmp.Compare[int] -/
def c221 : Con := ⟨[.dat (Ty.int .i64), .dat (Ty.int .i64)], fun args hp K => args2 (fun a0 a1 => withD (Ty.int .i64) a0 fun x => withD (Ty.int .i64) a1 fun y => K (.data (Ty.int .i64) (M.cmpI x y)) []) args hp⟩
def cons221 : Cons := [(224, c224)]
def inl221 : List (Nat × Inl) := []
@[reducible] def C221 : Ctx := ⟨tab, fun t => memN t cmps, cons221, 20, inl221, 0⟩
theorem consOk221 : ConsOk P C221 := by
  refine consOk_cons (enter_ok (fn := Go.Proofs.Tryz.f224) Go.Proofs.Tryz.func224 (by kernel_rfl) rfl) con224_ok ?_
  exact consOk_nil
def ann221 : Nat → List Dir
  | 0 => [.keep [0, 1]]
  | 1 => [.keep [0, 1, 5]]
  | 2 => [.keep [0, 1, 5, 6]]
  | 3 => [.keep [0, 1, 6, 11]]
  | 4 => [.keep [12]]
  | 5 => [.keep [4]]
  | 6 => [.keep [4]]
  | 7 => [.keep [0, 1, 13]]
  | 8 => [.keep [4]]
  | 9 => [.keep [0, 1, 16]]
  | 10 => [.keep [4]]
  | 11 => [.keep [19]]
  | 12 => [.keep [4]]
  | 13 => [.keep [4]]
  | _ => []
def L221 (x : Int) (y : Int) : Loops := fun id m st_ K => match id with
  | _ => False
theorem vc221 (x : Int) (y : Int) (K : AV → Hp → Prop) : awp C221 (L221 x y) ann221 (bodyOf Go.Proofs.Tryz.f221) ⟨argEnv 0 [.data (Ty.int .i64) x, .data (Ty.int .i64) y], []⟩ (outK tab Go.Proofs.Tryz.f221.results.toList (hasBox []) (resK (.dat (Ty.int .i64)) K)) =
  (cond (false) (cond (false) (K (.data (Ty.int .i64) (0 : Int)) []) (K (.data (Ty.int .i64) (-1 : Int)) [])) (cond (false) (K (.data (Ty.int .i64) (1 : Int)) []) (cond (decide (x < y)) (K (.data (Ty.int .i64) (-1 : Int)) []) (cond (decide (y < x)) (K (.data (Ty.int .i64) (1 : Int)) []) (K (.data (Ty.int .i64) (0 : Int)) []))))) := by kernel_rfl
theorem con221_ok : ConOk P 221 c221 := by
  refine con_okR (fn := Go.Proofs.Tryz.f221) (code := bodyOf Go.Proofs.Tryz.f221) (tab_ok tab_check cmp_check) consOk221 mixed Go.Proofs.Tryz.func221 rfl rfl fun args hp K h0 => ?_
  obtain ⟨a0, a1, rfl, rfl, h1⟩ := args2_elim h0
  obtain ⟨x, rfl, h2⟩ := withD_elim h1
  obtain ⟨y, rfl, h3⟩ := withD_elim h2
  have hK := h3
  have h : ok (F.cmp_Compare_int x y) (fun r => K (.data (Ty.int .i64) r) []) := ok_of_eq (F.cmp_Compare_int_eq x y) hK
  refine ⟨⟨show (2 : Nat) ≤ 20 by decide, show (2 : Nat) ≤ 1000000 by decide⟩, ann221, (L221 x y), (.dat (Ty.int .i64)), (no_loops (by kernel_rfl)), ?_⟩
  · rw [vc221 x y K]
    exact (ok_cond h (fun b_1 h => (cond_t b_1 (have h := ok_ret h; h))) (fun b_1 h => (cond_f b_1 (ok_cond h (fun b_4 h => (have h := ok_ret h; h)) (fun b_4 h => (ok_cond h (fun b_5 h => (have h := ok_ret h; h)) (fun b_5 h => (have h := ok_ret h; h))))))))

/-! 225: cmp.isNaN[string] -/
def c225 : Con := ⟨[.dat Ty.str], fun args hp K => args1 (fun a0 => withD Ty.str a0 fun x => (Sm Ty.str x) ∧ K (.data Ty.bool (false)) []) args hp⟩
def cons225 : Cons := []
def inl225 : List (Nat × Inl) := []
@[reducible] def C225 : Ctx := ⟨tab, fun t => memN t cmps, cons225, 6, inl225, 0⟩
theorem consOk225 : ConsOk P C225 := by
  exact consOk_nil
def ann225 : Nat → List Dir
  | 0 => [.keep [0]]
  | 1 => [.keep [2]]
  | _ => []
def L225 (x : ByteArray) : Loops := fun id m st_ K => match id with
  | _ => False
theorem vc225 (x : ByteArray) (K : AV → Hp → Prop) : awp C225 (L225 x) ann225 (bodyOf Go.Proofs.Tryz.f225) ⟨argEnv 0 [.data Ty.str x], []⟩ (outK tab Go.Proofs.Tryz.f225.results.toList (hasBox []) (resK (.dat Ty.bool) K)) =
  (K (.data Ty.bool (!decide (x = x))) []) := by kernel_rfl
theorem con225_ok : ConOk P 225 c225 := by
  refine con_okR (fn := Go.Proofs.Tryz.f225) (code := bodyOf Go.Proofs.Tryz.f225) (tab_ok tab_check cmp_check) consOk225 mixed Go.Proofs.Tryz.func225 rfl rfl fun args hp K h0 => ?_
  obtain ⟨a0, rfl, rfl, h1⟩ := args1_elim h0
  obtain ⟨x, rfl, h2⟩ := withD_elim h1
  obtain ⟨h_x, hK⟩ := h2
  have h : ok (F.cmp_isNaN_string x) (fun r => K (.data Ty.bool r) []) := ok_of_eq (F.cmp_isNaN_string_eq x h_x) hK
  refine ⟨⟨show (1 : Nat) ≤ 6 by decide, show (1 : Nat) ≤ 1000000 by decide⟩, ann225, (L225 x), (.dat Ty.bool), (no_loops (by kernel_rfl)), ?_⟩
  · rw [vc225 x K]
    exact (have h := ok_ret h; h)

/-! 222: cmp.Compare[string] -/
def c222 : Con := ⟨[.dat Ty.str, .dat Ty.str], fun args hp K => args2 (fun a0 a1 => withD Ty.str a0 fun x => withD Ty.str a1 fun y => (Sm Ty.str x) ∧ (Sm Ty.str y) ∧ K (.data (Ty.int .i64) (M.cmpS x y)) []) args hp⟩
def cons222 : Cons := [(225, c225)]
def inl222 : List (Nat × Inl) := []
@[reducible] def C222 : Ctx := ⟨tab, fun t => memN t cmps, cons222, 20, inl222, 0⟩
theorem consOk222 : ConsOk P C222 := by
  refine consOk_cons (enter_ok (fn := Go.Proofs.Tryz.f225) Go.Proofs.Tryz.func225 (by kernel_rfl) rfl) con225_ok ?_
  exact consOk_nil
def ann222 : Nat → List Dir
  | 0 => [.keep [0, 1]]
  | 1 => [.keep [0, 1, 5]]
  | 2 => [.keep [0, 1, 5, 6]]
  | 3 => [.keep [0, 1, 6, 11]]
  | 4 => [.keep [12]]
  | 5 => [.keep [4]]
  | 6 => [.keep [4]]
  | 7 => [.keep [0, 1, 13]]
  | 8 => [.keep [4]]
  | 9 => [.keep [0, 1, 16]]
  | 10 => [.keep [4]]
  | 11 => [.keep [19]]
  | 12 => [.keep [4]]
  | 13 => [.keep [4]]
  | _ => []
def L222 (x : ByteArray) (y : ByteArray) : Loops := fun id m st_ K => match id with
  | _ => False
theorem vc222 (x : ByteArray) (y : ByteArray) (K : AV → Hp → Prop) : awp C222 (L222 x y) ann222 (bodyOf Go.Proofs.Tryz.f222) ⟨argEnv 0 [.data Ty.str x, .data Ty.str y], []⟩ (outK tab Go.Proofs.Tryz.f222.results.toList (hasBox []) (resK (.dat (Ty.int .i64)) K)) =
  ((Sm Ty.str x) ∧ (Sm Ty.str y) ∧ cond (false) (cond (false) (K (.data (Ty.int .i64) (0 : Int)) []) (K (.data (Ty.int .i64) (-1 : Int)) [])) (cond (false) (K (.data (Ty.int .i64) (1 : Int)) []) (cond (Op.bytesLess x.toList y.toList) (K (.data (Ty.int .i64) (-1 : Int)) []) (cond (!(Op.bytesLess x.toList y.toList || decide (x = y))) (K (.data (Ty.int .i64) (1 : Int)) []) (K (.data (Ty.int .i64) (0 : Int)) []))))) := by kernel_rfl
theorem con222_ok : ConOk P 222 c222 := by
  refine con_okR (fn := Go.Proofs.Tryz.f222) (code := bodyOf Go.Proofs.Tryz.f222) (tab_ok tab_check cmp_check) consOk222 mixed Go.Proofs.Tryz.func222 rfl rfl fun args hp K h0 => ?_
  obtain ⟨a0, a1, rfl, rfl, h1⟩ := args2_elim h0
  obtain ⟨x, rfl, h2⟩ := withD_elim h1
  obtain ⟨y, rfl, h3⟩ := withD_elim h2
  obtain ⟨h_x, h_y, hK⟩ := h3
  have h : ok (F.cmp_Compare_string x y) (fun r => K (.data (Ty.int .i64) r) []) := ok_of_eq (F.cmp_Compare_string_eq x y h_x h_y) hK
  refine ⟨⟨show (2 : Nat) ≤ 20 by decide, show (2 : Nat) ≤ 1000000 by decide⟩, ann222, (L222 x y), (.dat (Ty.int .i64)), (no_loops (by kernel_rfl)), ?_⟩
  · rw [vc222 x y K]
    exact ⟨h_x, ⟨h_y, (ok_cond h (fun b_1 h => (cond_t b_1 (have h := ok_ret h; h))) (fun b_1 h => (cond_f b_1 (ok_cond h (fun b_4 h => (have h := ok_ret h; h)) (fun b_4 h => (ok_cond h (fun b_5 h => (have h := ok_ret h; h)) (fun b_5 h => (have h := ok_ret h; h))))))))⟩⟩

/-! 212: (loop.example/tablehouse/impl.Value).order -/
def c212 : Con := ⟨[.dat TValue, .dat TValue], fun args hp K => args2 (fun a0 a1 => withD TValue a0 fun v => withD TValue a1 fun w => (Sm TValue v) ∧ (Sm TValue w) ∧ K (.data (Ty.int .i64) (M.order v w)) []) args hp⟩
def cons212 : Cons := [(220, c220), (221, c221), (222, c222)]
def inl212 : List (Nat × Inl) := []
@[reducible] def C212 : Ctx := ⟨tab, fun t => memN t cmps, cons212, 22, inl212, 0⟩
theorem consOk212 : ConsOk P C212 := by
  refine consOk_cons (enter_ok (fn := Go.Proofs.Tryz.f220) Go.Proofs.Tryz.func220 (by kernel_rfl) rfl) con220_ok ?_
  refine consOk_cons (enter_ok (fn := Go.Proofs.Tryz.f221) Go.Proofs.Tryz.func221 (by kernel_rfl) rfl) con221_ok ?_
  refine consOk_cons (enter_ok (fn := Go.Proofs.Tryz.f222) Go.Proofs.Tryz.func222 (by kernel_rfl) rfl) con222_ok ?_
  exact consOk_nil
def ann212 : Nat → List Dir
  | 0 => [.fixRow 2 TValue, .fixRow 3 TValue, .keep [2, 3]]
  | 1 => [.keep [4]]
  | _ => []
def L212 (v : (TValue).D) (w : (TValue).D) : Loops := fun id m st_ K => match id with
  | _ => False
theorem vc212 (v : (TValue).D) (w : (TValue).D) (K : AV → Hp → Prop) : awp C212 (L212 v w) ann212 (bodyOf Go.Proofs.Tryz.f212) ⟨argEnv 0 [.data TValue v, .data TValue w], []⟩ (outK tab Go.Proofs.Tryz.f212.results.toList (hasBox []) (resK (.dat (Ty.int .i64)) K)) =
  ((Sm Ty.str v.2.2.1) ∧ (Sm Ty.str w.2.2.1) ∧ (Sm (Ty.sl (Ty.int .i64)) [(M.cmpI v.1 w.1), (M.cmpI v.2.1 w.2.1), (M.cmpS v.2.2.1 w.2.2.1)]) ∧ K (.data (Ty.int .i64) (M.orI [(M.cmpI v.1 w.1), (M.cmpI v.2.1 w.2.1), (M.cmpS v.2.2.1 w.2.2.1)])) []) := by kernel_rfl
theorem con212_ok : ConOk P 212 c212 := by
  refine con_okR (fn := Go.Proofs.Tryz.f212) (code := bodyOf Go.Proofs.Tryz.f212) (tab_ok tab_check cmp_check) consOk212 mixed Go.Proofs.Tryz.func212 rfl rfl fun args hp K h0 => ?_
  obtain ⟨a0, a1, rfl, rfl, h1⟩ := args2_elim h0
  obtain ⟨v, rfl, h2⟩ := withD_elim h1
  obtain ⟨w, rfl, h3⟩ := withD_elim h2
  obtain ⟨h_v, h_w, hK⟩ := h3
  have h : ok (F.impl_Value_order v w) (fun r => K (.data (Ty.int .i64) r) []) := ok_of_eq (F.impl_Value_order_eq v w h_v h_w) hK
  refine ⟨⟨show (2 : Nat) ≤ 22 by decide, show (2 : Nat) ≤ 1000000 by decide⟩, ann212, (L212 v w), (.dat (Ty.int .i64)), (no_loops (by kernel_rfl)), ?_⟩
  · rw [vc212 v w K]
    exact ⟨h_v.2.2.1, ⟨h_w.2.2.1, ⟨(ok_guard h).1, have g_1 := (ok_guard h).1; have h := (ok_guard h).2; (have h := ok_ret h; h)⟩⟩⟩

/-! 183: loop.example/tablehouse/impl.Compare -/
def c183 : Con := ⟨[.dat (Ty.int .i64), .dat TValue, .dat TValue], fun args hp K => args3 (fun a0 a1 a2 => withD (Ty.int .i64) a0 fun kind => withD TValue a1 fun a => withD TValue a2 fun b => (Sm TValue a) ∧ (Sm TValue b) ∧ K (.data (Ty.int .i64) (M.compare kind a b)) []) args hp⟩
def cons183 : Cons := [(98, c98), (177, c177), (188, c188), (212, c212)]
def inl183 : List (Nat × Inl) := []
@[reducible] def C183 : Ctx := ⟨tab, fun t => memN t cmps, cons183, 71, inl183, 0⟩
theorem consOk183 : ConsOk P C183 := by
  refine consOk_cons (enter_ok (fn := Go.Proofs.Tryz.f98) Go.Proofs.Tryz.func98 (by kernel_rfl) rfl) con98_ok ?_
  refine consOk_cons (enter_ok (fn := Go.Proofs.Tryz.f177) Go.Proofs.Tryz.func177 (by kernel_rfl) rfl) con177_ok ?_
  refine consOk_cons (enter_ok (fn := Go.Proofs.Tryz.f188) Go.Proofs.Tryz.func188 (by kernel_rfl) rfl) con188_ok ?_
  refine consOk_cons (enter_ok (fn := Go.Proofs.Tryz.f212) Go.Proofs.Tryz.func212 (by kernel_rfl) rfl) con212_ok ?_
  exact consOk_nil
def ann183 : Nat → List Dir
  | 0 => [.fixRow 4 TValue, .fixRow 5 TValue, .keep [0, 4, 5]]
  | 1 => [.keep [0, 4, 5, 8]]
  | 2 => [.keep [6]]
  | 3 => [.keep [0, 4, 5, 22]]
  | 4 => [.keep [6]]
  | 5 => [.keep [0, 4, 5, 31]]
  | 6 => [.keep [6]]
  | 7 => [.keep [0, 7]]
  | 8 => [.keep [6]]
  | _ => []
def L183 (kind : Int) (a : (TValue).D) (b : (TValue).D) : Loops := fun id m st_ K => match id with
  | _ => False
theorem vc183 (kind : Int) (a : (TValue).D) (b : (TValue).D) (K : AV → Hp → Prop) : awp C183 (L183 kind a b) ann183 (bodyOf Go.Proofs.Tryz.f183) ⟨argEnv 0 [.data (Ty.int .i64) kind, .data TValue a, .data TValue b], []⟩ (outK tab Go.Proofs.Tryz.f183.results.toList (hasBox []) (resK (.dat (Ty.int .i64)) K)) =
  (cond ((!(M.inR kind (1 : Int) (4 : Int))) == false) ((Sm TValue a) ∧ cond ((!(M.valueOk a)) == false) ((Sm TValue b) ∧ cond (!(M.valueOk b)) (K (.data (Ty.int .i64) (-1 : Int)) []) (cond ((decide (a.1 = (0 : Int))) == false) (cond (decide (b.1 = (0 : Int))) (K (.data (Ty.int .i64) (2 : Int)) []) (cond (!decide (a.1 = b.1)) (K (.data (Ty.int .i64) (-1 : Int)) []) ((Sm TValue a) ∧ (Sm TValue b) ∧ cond ((decide (kind = (1 : Int))) == true) (cond ((decide ((M.order a b) = (0 : Int))) == false) (cond ((decide (kind = (2 : Int))) == true) (cond ((!decide ((M.order a b) = (0 : Int))) == false) (cond ((decide (kind = (3 : Int))) == true) (cond ((decide ((M.order a b) < (0 : Int))) == false) (cond ((decide (kind = (4 : Int))) == true) (K (.data (Ty.int .i64) (M.bool (decide ((M.order a b) ≤ (0 : Int))))) []) (K (.data (Ty.int .i64) (M.bool false)) [])) (K (.data (Ty.int .i64) (M.bool true)) [])) (cond ((decide (kind = (4 : Int))) == true) (K (.data (Ty.int .i64) (M.bool (decide ((M.order a b) ≤ (0 : Int))))) []) (K (.data (Ty.int .i64) (M.bool false)) []))) (K (.data (Ty.int .i64) (M.bool true)) [])) (cond ((decide (kind = (3 : Int))) == true) (cond ((decide ((M.order a b) < (0 : Int))) == false) (cond ((decide (kind = (4 : Int))) == true) (K (.data (Ty.int .i64) (M.bool (decide ((M.order a b) ≤ (0 : Int))))) []) (K (.data (Ty.int .i64) (M.bool false)) [])) (K (.data (Ty.int .i64) (M.bool true)) [])) (cond ((decide (kind = (4 : Int))) == true) (K (.data (Ty.int .i64) (M.bool (decide ((M.order a b) ≤ (0 : Int))))) []) (K (.data (Ty.int .i64) (M.bool false)) [])))) (K (.data (Ty.int .i64) (M.bool true)) [])) (cond ((decide (kind = (2 : Int))) == true) (cond ((!decide ((M.order a b) = (0 : Int))) == false) (cond ((decide (kind = (3 : Int))) == true) (cond ((decide ((M.order a b) < (0 : Int))) == false) (cond ((decide (kind = (4 : Int))) == true) (K (.data (Ty.int .i64) (M.bool (decide ((M.order a b) ≤ (0 : Int))))) []) (K (.data (Ty.int .i64) (M.bool false)) [])) (K (.data (Ty.int .i64) (M.bool true)) [])) (cond ((decide (kind = (4 : Int))) == true) (K (.data (Ty.int .i64) (M.bool (decide ((M.order a b) ≤ (0 : Int))))) []) (K (.data (Ty.int .i64) (M.bool false)) []))) (K (.data (Ty.int .i64) (M.bool true)) [])) (cond ((decide (kind = (3 : Int))) == true) (cond ((decide ((M.order a b) < (0 : Int))) == false) (cond ((decide (kind = (4 : Int))) == true) (K (.data (Ty.int .i64) (M.bool (decide ((M.order a b) ≤ (0 : Int))))) []) (K (.data (Ty.int .i64) (M.bool false)) [])) (K (.data (Ty.int .i64) (M.bool true)) [])) (cond ((decide (kind = (4 : Int))) == true) (K (.data (Ty.int .i64) (M.bool (decide ((M.order a b) ≤ (0 : Int))))) []) (K (.data (Ty.int .i64) (M.bool false)) []))))))) (K (.data (Ty.int .i64) (2 : Int)) []))) (K (.data (Ty.int .i64) (-1 : Int)) [])) (K (.data (Ty.int .i64) (-1 : Int)) [])) := by kernel_rfl
theorem con183_ok : ConOk P 183 c183 := by
  refine con_okR (fn := Go.Proofs.Tryz.f183) (code := bodyOf Go.Proofs.Tryz.f183) (tab_ok tab_check cmp_check) consOk183 mixed Go.Proofs.Tryz.func183 rfl rfl fun args hp K h0 => ?_
  obtain ⟨a0, a1, a2, rfl, rfl, h1⟩ := args3_elim h0
  obtain ⟨kind, rfl, h2⟩ := withD_elim h1
  obtain ⟨a, rfl, h3⟩ := withD_elim h2
  obtain ⟨b, rfl, h4⟩ := withD_elim h3
  obtain ⟨h_a, h_b, hK⟩ := h4
  have h : ok (F.impl_Compare kind a b) (fun r => K (.data (Ty.int .i64) r) []) := ok_of_eq (F.impl_Compare_eq kind a b h_a h_b) hK
  refine ⟨⟨show (3 : Nat) ≤ 71 by decide, show (3 : Nat) ≤ 1000000 by decide⟩, ann183, (L183 kind a b), (.dat (Ty.int .i64)), (no_loops (by kernel_rfl)), ?_⟩
  · rw [vc183 kind a b K]
    exact (ok_cond h (fun b_1 h => ⟨h_a, (ok_cond h (fun b_2 h => ⟨h_b, (ok_cond h (fun b_3 h => (have h := ok_ret h; h)) (fun b_3 h => (ok_cond h (fun b_4 h => (ok_cond h (fun b_5 h => (have h := ok_ret h; h)) (fun b_5 h => (ok_cond h (fun b_6 h => (have h := ok_ret h; h)) (fun b_6 h => ⟨h_a, ⟨h_b, (ok_cond h (fun b_7 h => (ok_cond h (fun b_8 h => (cond_f (uef (dec_ne (bet b_7) (by decide))) (cond_f (uef (dec_ne (bet b_7) (by decide))) (cond_f (uef (dec_ne (bet b_7) (by decide))) (have h := ok_ret h; h))))) (fun b_8 h => (have h := ok_ret h; h)))) (fun b_7 h => (ok_cond h (fun b_19 h => (ok_cond h (fun b_20 h => (cond_f (uef (dec_ne (bet b_19) (by decide))) (cond_f (uef (dec_ne (bet b_19) (by decide))) (have h := ok_ret h; h)))) (fun b_20 h => (have h := ok_ret h; h)))) (fun b_19 h => (ok_cond h (fun b_25 h => (ok_cond h (fun b_26 h => (cond_f (uef (dec_ne (bet b_25) (by decide))) (have h := ok_ret h; h))) (fun b_26 h => (have h := ok_ret h; h)))) (fun b_25 h => (ok_cond h (fun b_28 h => (have h := ok_ret h; h)) (fun b_28 h => (have h := ok_ret h; h)))))))))⟩⟩))))) (fun b_4 h => (have h := ok_ret h; h)))))⟩) (fun b_2 h => (have h := ok_ret h; h)))⟩) (fun b_1 h => (have h := ok_ret h; h)))

/-! 223: loop.example/tablehouse/impl.TruthOk -/
def c223 : Con := ⟨[.dat (Ty.int .i64)], fun args hp K => args1 (fun a0 => withD (Ty.int .i64) a0 fun n => K (.data Ty.bool (M.inR n 0 2)) []) args hp⟩
def cons223 : Cons := [(98, c98)]
def inl223 : List (Nat × Inl) := []
@[reducible] def C223 : Ctx := ⟨tab, fun t => memN t cmps, cons223, 5, inl223, 0⟩
theorem consOk223 : ConsOk P C223 := by
  refine consOk_cons (enter_ok (fn := Go.Proofs.Tryz.f98) Go.Proofs.Tryz.func98 (by kernel_rfl) rfl) con98_ok ?_
  exact consOk_nil
def ann223 : Nat → List Dir
  | 0 => [.keep [0]]
  | 1 => [.keep [2]]
  | _ => []
def L223 (n : Int) : Loops := fun id m st_ K => match id with
  | _ => False
theorem vc223 (n : Int) (K : AV → Hp → Prop) : awp C223 (L223 n) ann223 (bodyOf Go.Proofs.Tryz.f223) ⟨argEnv 0 [.data (Ty.int .i64) n], []⟩ (outK tab Go.Proofs.Tryz.f223.results.toList (hasBox []) (resK (.dat Ty.bool) K)) =
  (K (.data Ty.bool (M.inR n (0 : Int) (2 : Int))) []) := by kernel_rfl
theorem con223_ok : ConOk P 223 c223 := by
  refine con_okR (fn := Go.Proofs.Tryz.f223) (code := bodyOf Go.Proofs.Tryz.f223) (tab_ok tab_check cmp_check) consOk223 mixed Go.Proofs.Tryz.func223 rfl rfl fun args hp K h0 => ?_
  obtain ⟨a0, rfl, rfl, h1⟩ := args1_elim h0
  obtain ⟨n, rfl, h2⟩ := withD_elim h1
  have hK := h2
  have h : ok (F.impl_TruthOk n) (fun r => K (.data Ty.bool r) []) := ok_of_eq (F.impl_TruthOk_eq n) hK
  refine ⟨⟨show (1 : Nat) ≤ 5 by decide, show (1 : Nat) ≤ 1000000 by decide⟩, ann223, (L223 n), (.dat Ty.bool), (no_loops (by kernel_rfl)), ?_⟩
  · rw [vc223 n K]
    exact (have h := ok_ret h; h)

/-! 213: loop.example/tablehouse/impl.fold -/
def c213 : Con := ⟨[.dat (Ty.int .i64), .dat (Ty.int .i64), .dat (Ty.int .i64)], fun args hp K => args3 (fun a0 a1 a2 => withD (Ty.int .i64) a0 fun a => withD (Ty.int .i64) a1 fun b => withD (Ty.int .i64) a2 fun alone => (0 ≤ alone ∧ alone ≤ 1) ∧ K (.data (Ty.int .i64) (M.fold a b alone)) []) args hp⟩
def cons213 : Cons := [(223, c223)]
def inl213 : List (Nat × Inl) := []
@[reducible] def C213 : Ctx := ⟨tab, fun t => memN t cmps, cons213, 35, inl213, 0⟩
theorem consOk213 : ConsOk P C213 := by
  refine consOk_cons (enter_ok (fn := Go.Proofs.Tryz.f223) Go.Proofs.Tryz.func223 (by kernel_rfl) rfl) con223_ok ?_
  exact consOk_nil
def ann213 : Nat → List Dir
  | 0 => [.keep [0, 1, 2]]
  | 1 => [.keep [0, 1, 2, 7]]
  | 2 => [.keep [6]]
  | 3 => [.keep [0, 1, 2, 16]]
  | 4 => [.keep [6]]
  | 5 => [.keep [2, 26]]
  | 6 => [.keep [6]]
  | 7 => [.keep [6]]
  | _ => []
def L213 (a : Int) (b : Int) (alone : Int) : Loops := fun id m st_ K => match id with
  | _ => False
theorem vc213 (a : Int) (b : Int) (alone : Int) (K : AV → Hp → Prop) : awp C213 (L213 a b alone) ann213 (bodyOf Go.Proofs.Tryz.f213) ⟨argEnv 0 [.data (Ty.int .i64) a, .data (Ty.int .i64) b, .data (Ty.int .i64) alone], []⟩ (outK tab Go.Proofs.Tryz.f213.results.toList (hasBox []) (resK (.dat (Ty.int .i64)) K)) =
  (cond ((!(M.inR a 0 2)) == false) (cond (!(M.inR b 0 2)) (K (.data (Ty.int .i64) (-1 : Int)) []) (cond ((decide (a = alone)) == false) (cond (decide (b = alone)) (K (.data (Ty.int .i64) alone) []) (cond ((decide (a = (2 : Int))) == false) (cond (decide (b = (2 : Int))) (K (.data (Ty.int .i64) (2 : Int)) []) (K (.data (Ty.int .i64) (wrap64 ((1 : Int) - alone))) [])) (K (.data (Ty.int .i64) (2 : Int)) []))) (K (.data (Ty.int .i64) alone) []))) (K (.data (Ty.int .i64) (-1 : Int)) [])) := by kernel_rfl
theorem con213_ok : ConOk P 213 c213 := by
  refine con_okR (fn := Go.Proofs.Tryz.f213) (code := bodyOf Go.Proofs.Tryz.f213) (tab_ok tab_check cmp_check) consOk213 mixed Go.Proofs.Tryz.func213 rfl rfl fun args hp K h0 => ?_
  obtain ⟨a0, a1, a2, rfl, rfl, h1⟩ := args3_elim h0
  obtain ⟨a, rfl, h2⟩ := withD_elim h1
  obtain ⟨b, rfl, h3⟩ := withD_elim h2
  obtain ⟨alone, rfl, h4⟩ := withD_elim h3
  obtain ⟨p0, hK⟩ := h4
  have h : ok (F.impl_fold a b alone) (fun r => K (.data (Ty.int .i64) r) []) := ok_of_eq (F.impl_fold_eq a b alone p0) hK
  refine ⟨⟨show (3 : Nat) ≤ 35 by decide, show (3 : Nat) ≤ 1000000 by decide⟩, ann213, (L213 a b alone), (.dat (Ty.int .i64)), (no_loops (by kernel_rfl)), ?_⟩
  · rw [vc213 a b alone K]
    exact (ok_cond h (fun b_1 h => (ok_cond h (fun b_2 h => (have h := ok_ret h; h)) (fun b_2 h => (ok_cond h (fun b_3 h => (ok_cond h (fun b_4 h => (have h := ok_ret h; h)) (fun b_4 h => (ok_cond h (fun b_5 h => (ok_cond h (fun b_6 h => (have h := ok_ret h; h)) (fun b_6 h => (have h := ok_ret h; h)))) (fun b_5 h => (have h := ok_ret h; h)))))) (fun b_3 h => (have h := ok_ret h; h)))))) (fun b_1 h => (have h := ok_ret h; h)))

/-! 184: loop.example/tablehouse/impl.AndOf -/
def c184 : Con := ⟨[.dat (Ty.int .i64), .dat (Ty.int .i64)], fun args hp K => args2 (fun a0 a1 => withD (Ty.int .i64) a0 fun a => withD (Ty.int .i64) a1 fun b => K (.data (Ty.int .i64) (M.andOf a b)) []) args hp⟩
def cons184 : Cons := [(213, c213)]
def inl184 : List (Nat × Inl) := []
@[reducible] def C184 : Ctx := ⟨tab, fun t => memN t cmps, cons184, 8, inl184, 0⟩
theorem consOk184 : ConsOk P C184 := by
  refine consOk_cons (enter_ok (fn := Go.Proofs.Tryz.f213) Go.Proofs.Tryz.func213 (by kernel_rfl) rfl) con213_ok ?_
  exact consOk_nil
def ann184 : Nat → List Dir
  | 0 => [.keep [0, 1]]
  | 1 => [.keep [4]]
  | _ => []
def L184 (a : Int) (b : Int) : Loops := fun id m st_ K => match id with
  | _ => False
theorem vc184 (a : Int) (b : Int) (K : AV → Hp → Prop) : awp C184 (L184 a b) ann184 (bodyOf Go.Proofs.Tryz.f184) ⟨argEnv 0 [.data (Ty.int .i64) a, .data (Ty.int .i64) b], []⟩ (outK tab Go.Proofs.Tryz.f184.results.toList (hasBox []) (resK (.dat (Ty.int .i64)) K)) =
  ((0 ≤ (0 : Int) ∧ (0 : Int) ≤ 1) ∧ K (.data (Ty.int .i64) (M.fold a b (0 : Int))) []) := by kernel_rfl
theorem con184_ok : ConOk P 184 c184 := by
  refine con_okR (fn := Go.Proofs.Tryz.f184) (code := bodyOf Go.Proofs.Tryz.f184) (tab_ok tab_check cmp_check) consOk184 mixed Go.Proofs.Tryz.func184 rfl rfl fun args hp K h0 => ?_
  obtain ⟨a0, a1, rfl, rfl, h1⟩ := args2_elim h0
  obtain ⟨a, rfl, h2⟩ := withD_elim h1
  obtain ⟨b, rfl, h3⟩ := withD_elim h2
  have hK := h3
  have h : ok (F.impl_AndOf a b) (fun r => K (.data (Ty.int .i64) r) []) := ok_of_eq (F.impl_AndOf_eq a b) hK
  refine ⟨⟨show (2 : Nat) ≤ 8 by decide, show (2 : Nat) ≤ 1000000 by decide⟩, ann184, (L184 a b), (.dat (Ty.int .i64)), (no_loops (by kernel_rfl)), ?_⟩
  · rw [vc184 a b K]
    exact ⟨(ok_guard h).1, have g_1 := (ok_guard h).1; have h := (ok_guard h).2; (have h := ok_ret h; h)⟩

/-! 185: loop.example/tablehouse/impl.TruthOf -/
def c185 : Con := ⟨[.dat TValue], fun args hp K => args1 (fun a0 => withD TValue a0 fun v => (Sm TValue v) ∧ K (.data (Ty.int .i64) (M.truthOf v)) []) args hp⟩
def cons185 : Cons := [(177, c177)]
def inl185 : List (Nat × Inl) := []
@[reducible] def C185 : Ctx := ⟨tab, fun t => memN t cmps, cons185, 17, inl185, 0⟩
theorem consOk185 : ConsOk P C185 := by
  refine consOk_cons (enter_ok (fn := Go.Proofs.Tryz.f177) Go.Proofs.Tryz.func177 (by kernel_rfl) rfl) con177_ok ?_
  exact consOk_nil
def ann185 : Nat → List Dir
  | 0 => [.fixRow 1 TValue, .keep [1]]
  | 1 => [.keep [1, 3]]
  | 2 => [.keep [2]]
  | 3 => [.keep [1, 7]]
  | 4 => [.keep [2]]
  | 5 => [.keep [1, 11]]
  | 6 => [.keep [2]]
  | 7 => [.keep [2]]
  | _ => []
def L185 (v : (TValue).D) : Loops := fun id m st_ K => match id with
  | _ => False
theorem vc185 (v : (TValue).D) (K : AV → Hp → Prop) : awp C185 (L185 v) ann185 (bodyOf Go.Proofs.Tryz.f185) ⟨argEnv 0 [.data TValue v], []⟩ (outK tab Go.Proofs.Tryz.f185.results.toList (hasBox []) (resK (.dat (Ty.int .i64)) K)) =
  ((Sm TValue v) ∧ cond (!(M.valueOk v)) (K (.data (Ty.int .i64) (-1 : Int)) []) (cond (decide (v.1 = (0 : Int))) (K (.data (Ty.int .i64) (2 : Int)) []) (cond (decide (v.1 = (3 : Int))) (K (.data (Ty.int .i64) v.2.1) []) (K (.data (Ty.int .i64) (-1 : Int)) [])))) := by kernel_rfl
theorem con185_ok : ConOk P 185 c185 := by
  refine con_okR (fn := Go.Proofs.Tryz.f185) (code := bodyOf Go.Proofs.Tryz.f185) (tab_ok tab_check cmp_check) consOk185 mixed Go.Proofs.Tryz.func185 rfl rfl fun args hp K h0 => ?_
  obtain ⟨a0, rfl, rfl, h1⟩ := args1_elim h0
  obtain ⟨v, rfl, h2⟩ := withD_elim h1
  obtain ⟨h_v, hK⟩ := h2
  have h : ok (F.impl_TruthOf v) (fun r => K (.data (Ty.int .i64) r) []) := ok_of_eq (F.impl_TruthOf_eq v h_v) hK
  refine ⟨⟨show (1 : Nat) ≤ 17 by decide, show (1 : Nat) ≤ 1000000 by decide⟩, ann185, (L185 v), (.dat (Ty.int .i64)), (no_loops (by kernel_rfl)), ?_⟩
  · rw [vc185 v K]
    exact ⟨h_v, (ok_cond h (fun b_1 h => (have h := ok_ret h; h)) (fun b_1 h => (ok_cond h (fun b_2 h => (have h := ok_ret h; h)) (fun b_2 h => (ok_cond h (fun b_3 h => (have h := ok_ret h; h)) (fun b_3 h => (have h := ok_ret h; h)))))))⟩

/-! 186: loop.example/tablehouse/impl.OrOf -/
def c186 : Con := ⟨[.dat (Ty.int .i64), .dat (Ty.int .i64)], fun args hp K => args2 (fun a0 a1 => withD (Ty.int .i64) a0 fun a => withD (Ty.int .i64) a1 fun b => K (.data (Ty.int .i64) (M.orOf a b)) []) args hp⟩
def cons186 : Cons := [(213, c213)]
def inl186 : List (Nat × Inl) := []
@[reducible] def C186 : Ctx := ⟨tab, fun t => memN t cmps, cons186, 8, inl186, 0⟩
theorem consOk186 : ConsOk P C186 := by
  refine consOk_cons (enter_ok (fn := Go.Proofs.Tryz.f213) Go.Proofs.Tryz.func213 (by kernel_rfl) rfl) con213_ok ?_
  exact consOk_nil
def ann186 : Nat → List Dir
  | 0 => [.keep [0, 1]]
  | 1 => [.keep [4]]
  | _ => []
def L186 (a : Int) (b : Int) : Loops := fun id m st_ K => match id with
  | _ => False
theorem vc186 (a : Int) (b : Int) (K : AV → Hp → Prop) : awp C186 (L186 a b) ann186 (bodyOf Go.Proofs.Tryz.f186) ⟨argEnv 0 [.data (Ty.int .i64) a, .data (Ty.int .i64) b], []⟩ (outK tab Go.Proofs.Tryz.f186.results.toList (hasBox []) (resK (.dat (Ty.int .i64)) K)) =
  ((0 ≤ (1 : Int) ∧ (1 : Int) ≤ 1) ∧ K (.data (Ty.int .i64) (M.fold a b (1 : Int))) []) := by kernel_rfl
theorem con186_ok : ConOk P 186 c186 := by
  refine con_okR (fn := Go.Proofs.Tryz.f186) (code := bodyOf Go.Proofs.Tryz.f186) (tab_ok tab_check cmp_check) consOk186 mixed Go.Proofs.Tryz.func186 rfl rfl fun args hp K h0 => ?_
  obtain ⟨a0, a1, rfl, rfl, h1⟩ := args2_elim h0
  obtain ⟨a, rfl, h2⟩ := withD_elim h1
  obtain ⟨b, rfl, h3⟩ := withD_elim h2
  have hK := h3
  have h : ok (F.impl_OrOf a b) (fun r => K (.data (Ty.int .i64) r) []) := ok_of_eq (F.impl_OrOf_eq a b) hK
  refine ⟨⟨show (2 : Nat) ≤ 8 by decide, show (2 : Nat) ≤ 1000000 by decide⟩, ann186, (L186 a b), (.dat (Ty.int .i64)), (no_loops (by kernel_rfl)), ?_⟩
  · rw [vc186 a b K]
    exact ⟨(ok_guard h).1, have g_1 := (ok_guard h).1; have h := (ok_guard h).2; (have h := ok_ret h; h)⟩

/-! 187: loop.example/tablehouse/impl.NotOf -/
def c187 : Con := ⟨[.dat (Ty.int .i64)], fun args hp K => args1 (fun a0 => withD (Ty.int .i64) a0 fun a => K (.data (Ty.int .i64) (M.notOf a)) []) args hp⟩
def cons187 : Cons := []
def inl187 : List (Nat × Inl) := []
@[reducible] def C187 : Ctx := ⟨tab, fun t => memN t cmps, cons187, 10, inl187, 0⟩
theorem consOk187 : ConsOk P C187 := by
  exact consOk_nil
def ann187 : Nat → List Dir
  | 0 => [.keep [0]]
  | 1 => [.keep [3]]
  | 2 => [.keep [3, 4]]
  | 3 => [.keep [2]]
  | 4 => [.keep [3, 6]]
  | 5 => [.keep [2]]
  | 6 => [.keep [8]]
  | 7 => [.keep [2]]
  | 8 => [.keep [2]]
  | _ => []
def L187 (a : Int) : Loops := fun id m st_ K => match id with
  | _ => False
theorem vc187 (a : Int) (K : AV → Hp → Prop) : awp C187 (L187 a) ann187 (bodyOf Go.Proofs.Tryz.f187) ⟨argEnv 0 [.data (Ty.int .i64) a], []⟩ (outK tab Go.Proofs.Tryz.f187.results.toList (hasBox []) (resK (.dat (Ty.int .i64)) K)) =
  (cond (decide (a = (0 : Int))) (K (.data (Ty.int .i64) (1 : Int)) []) (cond (decide (a = (1 : Int))) (K (.data (Ty.int .i64) (0 : Int)) []) (cond (decide (a = (2 : Int))) (K (.data (Ty.int .i64) (2 : Int)) []) (K (.data (Ty.int .i64) (-1 : Int)) [])))) := by kernel_rfl
theorem con187_ok : ConOk P 187 c187 := by
  refine con_okR (fn := Go.Proofs.Tryz.f187) (code := bodyOf Go.Proofs.Tryz.f187) (tab_ok tab_check cmp_check) consOk187 mixed Go.Proofs.Tryz.func187 rfl rfl fun args hp K h0 => ?_
  obtain ⟨a0, rfl, rfl, h1⟩ := args1_elim h0
  obtain ⟨a, rfl, h2⟩ := withD_elim h1
  have hK := h2
  have h : ok (F.impl_NotOf a) (fun r => K (.data (Ty.int .i64) r) []) := ok_of_eq (F.impl_NotOf_eq a) hK
  refine ⟨⟨show (1 : Nat) ≤ 10 by decide, show (1 : Nat) ≤ 1000000 by decide⟩, ann187, (L187 a), (.dat (Ty.int .i64)), (no_loops (by kernel_rfl)), ?_⟩
  · rw [vc187 a K]
    exact (ok_cond h (fun b_1 h => (have h := ok_ret h; h)) (fun b_1 h => (ok_cond h (fun b_2 h => (have h := ok_ret h; h)) (fun b_2 h => (ok_cond h (fun b_3 h => (have h := ok_ret h; h)) (fun b_3 h => (have h := ok_ret h; h)))))))

/-! 141: (loop.example/tablehouse/impl.Part).value -/
def c141 : Con := ⟨[.dat TPart, .dat (Ty.sl TValue), .lent TValue], fun args hp K => args3 (fun a0 a1 a2 => withD TPart a0 fun p => withD (Ty.sl TValue) a1 fun row => withB TValue a2 fun inp => (Sm TPart p) ∧ (Sm (Ty.sl TValue) row) ∧ (Sm (Ty.sl TValue) inp) ∧ ((inp.length : Int) = M.takes p) ∧ (M.colIn p row.length) ∧ (1 ≤ p.1 ∧ p.1 ≤ 8) ∧ (∀ r : (TValue).D, r = (M.partValue p row inp) → K (.data TValue r) [])) args hp⟩
def cons141 : Cons := [(104, c104), (177, c177), (183, c183), (184, c184), (185, c185), (186, c186), (187, c187), (188, c188)]
def inl141 : List (Nat × Inl) := []
@[reducible] def C141 : Ctx := ⟨tab, fun t => memN t cmps, cons141, 103, inl141, 0⟩
theorem consOk141 : ConsOk P C141 := by
  refine consOk_cons (enter_ok (fn := Go.Proofs.Tryz.f104) Go.Proofs.Tryz.func104 (by kernel_rfl) rfl) con104_ok ?_
  refine consOk_cons (enter_ok (fn := Go.Proofs.Tryz.f177) Go.Proofs.Tryz.func177 (by kernel_rfl) rfl) con177_ok ?_
  refine consOk_cons (enter_ok (fn := Go.Proofs.Tryz.f183) Go.Proofs.Tryz.func183 (by kernel_rfl) rfl) con183_ok ?_
  refine consOk_cons (enter_ok (fn := Go.Proofs.Tryz.f184) Go.Proofs.Tryz.func184 (by kernel_rfl) rfl) con184_ok ?_
  refine consOk_cons (enter_ok (fn := Go.Proofs.Tryz.f185) Go.Proofs.Tryz.func185 (by kernel_rfl) rfl) con185_ok ?_
  refine consOk_cons (enter_ok (fn := Go.Proofs.Tryz.f186) Go.Proofs.Tryz.func186 (by kernel_rfl) rfl) con186_ok ?_
  refine consOk_cons (enter_ok (fn := Go.Proofs.Tryz.f187) Go.Proofs.Tryz.func187 (by kernel_rfl) rfl) con187_ok ?_
  refine consOk_cons (enter_ok (fn := Go.Proofs.Tryz.f188) Go.Proofs.Tryz.func188 (by kernel_rfl) rfl) con188_ok ?_
  exact consOk_nil
def ann141 : Nat → List Dir
  | 0 => [.fixRow 3 TPart, .keep [1, 2, 3, 6]]
  | 1 => [.keep [1, 2, 3, 6, 9]]
  | 2 => [.keep [1, 2, 3, 6, 9, 10]]
  | 3 => [.keep [6]]
  | 4 => [.keep [1, 2, 3, 6, 9, 14]]
  | 5 => [.keep [6]]
  | 6 => [.keep [2, 3, 6, 9, 21]]
  | 7 => [.fixRow 7 TValue, .keep [2, 6, 7]]
  | 8 => [.keep [6, 7, 49]]
  | 9 => [.keep [6]]
  | 10 => [.keep [6]]
  | 11 => [.keep [2, 3, 6, 9, 52]]
  | 12 => [.keep [6]]
  | 13 => [.keep [2, 6, 9, 64]]
  | 14 => [.keep [6]]
  | 15 => [.keep [2, 6, 9, 76]]
  | 16 => [.keep [6]]
  | 17 => [.keep [2, 6, 88]]
  | 18 => [.keep [6]]
  | 19 => [.keep [6]]
  | _ => []
def L141 (p : (TPart).D) (row : (List (TValue).D)) (inp : (List (TValue).D)) : Loops := fun id m st_ K => match id with
  | _ => False
theorem vc141 (p : (TPart).D) (row : (List (TValue).D)) (inp : (List (TValue).D)) (K : AV → Hp → Prop) : awp C141 (L141 p row inp) ann141 (bodyOf Go.Proofs.Tryz.f141) ⟨argEnv 0 [.data TPart p, .data (Ty.sl TValue) row, .brw TValue inp], []⟩ (outK tab Go.Proofs.Tryz.f141.results.toList (hasBox []) (resK (.dat TValue) K)) =
  (cond (decide (p.1 = (1 : Int))) (K (.data TValue p.2.2.1) []) (cond (decide (p.1 = (2 : Int))) ((0 ≤ p.2.1) ∧ (p.2.1 < (row.length : Int)) ∧ K (.data TValue (nth (t := TValue) row p.2.1)) []) (cond (decide (p.1 = (3 : Int))) ((0 ≤ (0 : Int)) ∧ ((0 : Int) < (inp.length : Int)) ∧ (0 ≤ (1 : Int)) ∧ ((1 : Int) < (inp.length : Int)) ∧ (0 ≤ (0 : Int)) ∧ ((0 : Int) < (inp.length : Int)) ∧ cond ((decide ((nth (t := TValue) inp (0 : Int)).1 = (0 : Int))) == false) ((0 ≤ (1 : Int)) ∧ ((1 : Int) < (inp.length : Int)) ∧ cond ((decide ((nth (t := TValue) inp (1 : Int)).1 = (0 : Int))) == false) ((Sm TValue ((1 : Int), (wrap64 (((nth (t := TValue) inp (0 : Int)).2).1 + ((nth (t := TValue) inp (1 : Int)).2).1), ((⟨#[]⟩ : ByteArray), ())))) ∧ cond (!(M.valueOk ((1 : Int), (wrap64 (((nth (t := TValue) inp (0 : Int)).2).1 + ((nth (t := TValue) inp (1 : Int)).2).1), ((⟨#[]⟩ : ByteArray), ()))))) (K (.data TValue ((0 : Int), ((0 : Int), ((⟨#[]⟩ : ByteArray), ())))) []) (K (.data TValue ((1 : Int), (wrap64 (((nth (t := TValue) inp (0 : Int)).2).1 + ((nth (t := TValue) inp (1 : Int)).2).1), ((⟨#[]⟩ : ByteArray), ())))) [])) (K (.data TValue ((0 : Int), ((0 : Int), ((⟨#[]⟩ : ByteArray), ())))) [])) (K (.data TValue ((0 : Int), ((0 : Int), ((⟨#[]⟩ : ByteArray), ())))) [])) (cond (decide (p.1 = (4 : Int))) ((0 ≤ (0 : Int)) ∧ ((0 : Int) < (inp.length : Int)) ∧ (0 ≤ (1 : Int)) ∧ ((1 : Int) < (inp.length : Int)) ∧ (Sm TValue (nth (t := TValue) inp (0 : Int))) ∧ (Sm TValue (nth (t := TValue) inp (1 : Int))) ∧ (∀ r_12_9 : (TValue).D, r_12_9 = (M.valueOf (M.compare p.2.1 (nth (t := TValue) inp (0 : Int)) (nth (t := TValue) inp (1 : Int)))) → K (.data TValue r_12_9) [])) (cond (decide (p.1 = (5 : Int))) ((0 ≤ (0 : Int)) ∧ ((0 : Int) < (inp.length : Int)) ∧ (0 ≤ (1 : Int)) ∧ ((1 : Int) < (inp.length : Int)) ∧ (Sm TValue (nth (t := TValue) inp (0 : Int))) ∧ (Sm TValue (nth (t := TValue) inp (1 : Int))) ∧ (∀ r_14_9 : (TValue).D, r_14_9 = (M.valueOf (M.andOf (M.truthOf (nth (t := TValue) inp (0 : Int))) (M.truthOf (nth (t := TValue) inp (1 : Int))))) → K (.data TValue r_14_9) [])) (cond (decide (p.1 = (6 : Int))) ((0 ≤ (0 : Int)) ∧ ((0 : Int) < (inp.length : Int)) ∧ (0 ≤ (1 : Int)) ∧ ((1 : Int) < (inp.length : Int)) ∧ (Sm TValue (nth (t := TValue) inp (0 : Int))) ∧ (Sm TValue (nth (t := TValue) inp (1 : Int))) ∧ (∀ r_16_9 : (TValue).D, r_16_9 = (M.valueOf (M.orOf (M.truthOf (nth (t := TValue) inp (0 : Int))) (M.truthOf (nth (t := TValue) inp (1 : Int))))) → K (.data TValue r_16_9) [])) (cond (decide (p.1 = (7 : Int))) ((0 ≤ (0 : Int)) ∧ ((0 : Int) < (inp.length : Int)) ∧ (Sm TValue (nth (t := TValue) inp (0 : Int))) ∧ (∀ r_18_5 : (TValue).D, r_18_5 = (M.valueOf (M.notOf (M.truthOf (nth (t := TValue) inp (0 : Int))))) → K (.data TValue r_18_5) [])) ((0 ≤ (0 : Int)) ∧ ((0 : Int) < (inp.length : Int)) ∧ (∀ r_19_6 : (TValue).D, r_19_6 = (M.valueOf (M.bool (decide ((nth (t := TValue) inp (0 : Int)).1 = (0 : Int))))) → K (.data TValue r_19_6) []))))))))) := by kernel_rfl
theorem con141_ok : ConOk P 141 c141 := by
  refine con_okR (fn := Go.Proofs.Tryz.f141) (code := bodyOf Go.Proofs.Tryz.f141) (tab_ok tab_check cmp_check) consOk141 mixed Go.Proofs.Tryz.func141 rfl rfl fun args hp K h0 => ?_
  obtain ⟨a0, a1, a2, rfl, rfl, h1⟩ := args3_elim h0
  obtain ⟨p, rfl, h2⟩ := withD_elim h1
  obtain ⟨row, rfl, h3⟩ := withD_elim h2
  obtain ⟨inp, rfl, h4⟩ := withB_elim h3
  obtain ⟨h_p, h_row, h_inp, p0, p1, p2, hK⟩ := h4
  have h : ok (F.impl_Part_value p row inp) (fun r => K (.data TValue r) []) := ok_of_eq (F.impl_Part_value_eq p row inp h_p h_row h_inp p0 p1 p2) (hK _ rfl)
  refine ⟨⟨show (3 : Nat) ≤ 103 by decide, show (3 : Nat) ≤ 1000000 by decide⟩, ann141, (L141 p row inp), (.dat TValue), (no_loops (by kernel_rfl)), ?_⟩
  · rw [vc141 p row inp K]
    exact (ok_cond h (fun b_1 h => (have h := ok_ret h; h)) (fun b_1 h => (ok_cond h (fun b_2 h => ⟨(ok_guard h).1, have g_3 := (ok_guard h).1; have h := (ok_guard h).2; ⟨(ok_guard h).1, have g_4 := (ok_guard h).1; have h := (ok_guard h).2; (have h := ok_ret h; h)⟩⟩) (fun b_2 h => (ok_cond h (fun b_5 h => ⟨(Int.natCast_nonneg 0), ⟨(ok_guard h).1, have g_6 := (ok_guard h).1; have h := (ok_guard h).2; ⟨(Int.natCast_nonneg 1), ⟨(ok_guard h).1, have g_7 := (ok_guard h).1; have h := (ok_guard h).2; ⟨(Int.natCast_nonneg 0), ⟨g_6, (ok_cond h (fun b_8 h => ⟨(Int.natCast_nonneg 1), ⟨g_7, (ok_cond h (fun b_9 h => ⟨(show Sm TValue _ from ⟨trivial, (show Sm (Ty.pair (Ty.int .i64) (Ty.pair Ty.str Ty.unit)) _ from ⟨trivial, (show Sm (Ty.pair Ty.str Ty.unit) _ from ⟨(Nat.le_of_ble_eq_true rfl), trivial⟩)⟩)⟩), (ok_cond h (fun b_10 h => (have h := ok_ret h; h)) (fun b_10 h => (have h := ok_ret h; h)))⟩) (fun b_9 h => (have h := ok_ret h; h)))⟩⟩) (fun b_8 h => (have h := ok_ret h; h)))⟩⟩⟩⟩⟩⟩) (fun b_5 h => (ok_cond h (fun b_11 h => ⟨(Int.natCast_nonneg 0), ⟨(ok_guard h).1, have g_12 := (ok_guard h).1; have h := (ok_guard h).2; ⟨(Int.natCast_nonneg 1), ⟨(ok_guard h).1, have g_13 := (ok_guard h).1; have h := (ok_guard h).2; ⟨(sm_nth h_inp (0 : Int)), ⟨(sm_nth h_inp (1 : Int)), (fun r_12_9 e_r_12_9 => have h := ok_let h r_12_9 e_r_12_9; (have h := ok_ret h; h))⟩⟩⟩⟩⟩⟩) (fun b_11 h => (ok_cond h (fun b_14 h => ⟨(Int.natCast_nonneg 0), ⟨(ok_guard h).1, have g_15 := (ok_guard h).1; have h := (ok_guard h).2; ⟨(Int.natCast_nonneg 1), ⟨(ok_guard h).1, have g_16 := (ok_guard h).1; have h := (ok_guard h).2; ⟨(sm_nth h_inp (0 : Int)), ⟨(sm_nth h_inp (1 : Int)), (fun r_14_9 e_r_14_9 => have h := ok_let h r_14_9 e_r_14_9; (have h := ok_ret h; h))⟩⟩⟩⟩⟩⟩) (fun b_14 h => (ok_cond h (fun b_17 h => ⟨(Int.natCast_nonneg 0), ⟨(ok_guard h).1, have g_18 := (ok_guard h).1; have h := (ok_guard h).2; ⟨(Int.natCast_nonneg 1), ⟨(ok_guard h).1, have g_19 := (ok_guard h).1; have h := (ok_guard h).2; ⟨(sm_nth h_inp (0 : Int)), ⟨(sm_nth h_inp (1 : Int)), (fun r_16_9 e_r_16_9 => have h := ok_let h r_16_9 e_r_16_9; (have h := ok_ret h; h))⟩⟩⟩⟩⟩⟩) (fun b_17 h => (ok_cond h (fun b_20 h => ⟨(Int.natCast_nonneg 0), ⟨(ok_guard h).1, have g_21 := (ok_guard h).1; have h := (ok_guard h).2; ⟨(sm_nth h_inp (0 : Int)), (fun r_18_5 e_r_18_5 => have h := ok_let h r_18_5 e_r_18_5; (have h := ok_ret h; h))⟩⟩⟩) (fun b_20 h => ⟨(Int.natCast_nonneg 0), ⟨(ok_guard h).1, have g_22 := (ok_guard h).1; have h := (ok_guard h).2; (fun r_19_6 e_r_19_6 => have h := ok_let h r_19_6 e_r_19_6; (have h := ok_ret h; h))⟩⟩))))))))))))))

/-! 103: loop.example/tablehouse/impl.exprValue -/
def c103 : Con := ⟨[.dat (Ty.sl TValue), .dat (Ty.sl TPart)], fun args hp K => args2 (fun a0 a1 => withD (Ty.sl TValue) a0 fun row => withD (Ty.sl TPart) a1 fun e => (Sm (Ty.sl TValue) row) ∧ (Sm (Ty.sl TPart) e) ∧ (M.exprSafe row.length e) ∧ (∀ r : (TValue).D, r = (M.exprValue row e) → K (.data TValue r) [])) args hp⟩
def cons103 : Cons := [(135, c135), (141, c141)]
def inl103 : List (Nat × Inl) := []
@[reducible] def C103 : Ctx := ⟨tab, fun t => memN t cmps, cons103, 37, inl103, 0⟩
theorem consOk103 : ConsOk P C103 := by
  refine consOk_cons (enter_ok (fn := Go.Proofs.Tryz.f135) Go.Proofs.Tryz.func135 (by kernel_rfl) rfl) con135_ok ?_
  refine consOk_cons (enter_ok (fn := Go.Proofs.Tryz.f141) Go.Proofs.Tryz.func141 (by kernel_rfl) rfl) con141_ok ?_
  exact consOk_nil
def ann103 : Nat → List Dir
  | 0 => [.keep [0, 1, 4]]
  | 1 => [.keep [0, 1, 4, 5]]
  | 2 => [.keep [0, 4, 5, 10, 11, 12]]
  | 3 => [.keep [0, 4, 5, 10, 11, 12, 13]]
  | 4 => [.fixRow 7 TPart, .keep [0, 4, 5, 7, 10, 11, 12]]
  | 5 => [.keep [0, 4, 5, 7, 8, 10, 11, 12]]
  | 6 => [.fixRow 9 TValue, .keep [0, 4, 5, 8, 9, 10, 11, 12]]
  | 7 => [.keep [0, 4, 5, 10, 11, 12]]
  | 8 => [.keep [0, 4, 5, 10, 11, 12]]
  | 9 => [.keep [4]]
  | 100000 => [.keep [4, 5]]
  | _ => []
@[reducible] def LP103_0 (row : (List (TValue).D)) (e : (List (TPart).D)) (m : Nat) (st_ : St) (K : X → St → Prop) : Prop := (True) ∧ LoopE (t := TPart) (fun (i0 : Int) (v0 : (List (TValue).D)) => (⟨[(0, .data (Ty.sl TValue) row), (4, .ptr 4 0), (5, .own 5 none), (10, .data (Ty.sl TPart) e), (11, .data (Ty.int .i64) (e.length : Int)), (12, .data (Ty.int .i64) i0)], [(4, .box [.data (Ty.int .i64) (0 : Int), .data (Ty.int .i64) (0 : Int), .data Ty.str (⟨#[]⟩ : ByteArray)]), (5, .arr TValue v0)]⟩ : St)) e (F.impl_exprValue_l0 row e) (fun v0 : (List (TValue).D) => True) (outD (fun v0 : (List (TValue).D) => True → K (.exit 0) (⟨[(4, .ptr 4 0), (5, .own 5 none)], [(4, .box [.data (Ty.int .i64) (0 : Int), .data (Ty.int .i64) (0 : Int), .data Ty.str (⟨#[]⟩ : ByteArray)]), (5, .arr TValue v0)]⟩ : St)) (fun _ => False)) m st_
def L103 (row : (List (TValue).D)) (e : (List (TPart).D)) : Loops := fun id m st_ K => match id with
  | 0 => LP103_0 row e m st_ K
  | _ => False
theorem vc103 (row : (List (TValue).D)) (e : (List (TPart).D)) (K : AV → Hp → Prop) : awp C103 (L103 row e) ann103 (bodyOf Go.Proofs.Tryz.f103) ⟨argEnv 0 [.data (Ty.sl TValue) row, .data (Ty.sl TPart) e], []⟩ (outK tab Go.Proofs.Tryz.f103.results.toList (hasBox []) (resK (.dat TValue) K)) =
  ((∃ m_, (True) ∧ LoopE (t := TPart) (fun (i0 : Int) (v0 : (List (TValue).D)) => (⟨[(0, .data (Ty.sl TValue) row), (4, .ptr 4 0), (5, .own 5 none), (10, .data (Ty.sl TPart) e), (11, .data (Ty.int .i64) (e.length : Int)), (12, .data (Ty.int .i64) i0)], [(4, .box [.data (Ty.int .i64) (0 : Int), .data (Ty.int .i64) (0 : Int), .data Ty.str (⟨#[]⟩ : ByteArray)]), (5, .arr TValue v0)]⟩ : St)) e (F.impl_exprValue_l0 row e) (fun v0 : (List (TValue).D) => True) (outD (fun v0 : (List (TValue).D) => True → (0 ≤ (0 : Int)) ∧ ((0 : Int) < (v0.length : Int)) ∧ K (.data TValue (nth (t := TValue) v0 (0 : Int))) []) (fun _ => False)) m_ (⟨[(0, .data (Ty.sl TValue) row), (4, .ptr 4 0), (5, .own 5 none), (10, .data (Ty.sl TPart) e), (11, .data (Ty.int .i64) (e.length : Int)), (12, .data (Ty.int .i64) (0 : Int))], [(4, .box [.data (Ty.int .i64) (0 : Int), .data (Ty.int .i64) (0 : Int), .data Ty.str (⟨#[]⟩ : ByteArray)]), (5, .arr TValue [])]⟩ : St))) := by kernel_rfl
theorem lvc103_0 (row : (List (TValue).D)) (e : (List (TPart).D))  (i0 : Int) (v0 : (List (TValue).D)) (m : Nat) (K : X → St → Prop) : awp C103 (L103 row e) ann103 (loopAt (bodyOf Go.Proofs.Tryz.f103) 0) (⟨[(0, .data (Ty.sl TValue) row), (4, .ptr 4 0), (5, .own 5 none), (10, .data (Ty.sl TPart) e), (11, .data (Ty.int .i64) (e.length : Int)), (12, .data (Ty.int .i64) i0)], [(4, .box [.data (Ty.int .i64) (0 : Int), .data (Ty.int .i64) (0 : Int), .data Ty.str (⟨#[]⟩ : ByteArray)]), (5, .arr TValue v0)]⟩ : St) (thenW (fun s' => ∃ m', m' < m ∧ (L103 row e) 0 m' s' K) (exitN 0 (ann103 (behind 0)) K)) =
  (cond (decide (i0 < (e.length : Int))) ((0 ≤ i0) ∧ (i0 < (e.length : Int)) ∧ (Sm TPart (nth (t := TPart) e i0)) ∧ (0 ≤ wrap64 ((v0.length : Int) - (M.takes (nth (t := TPart) e i0)))) ∧ (wrap64 ((v0.length : Int) - (M.takes (nth (t := TPart) e i0))) ≤ (v0.length : Int)) ∧ ((v0.length : Int) ≤ (v0.length : Int)) ∧ ((v0.length : Int) = (v0.length : Int)) ∧ ((Sm TPart (nth (t := TPart) e i0)) ∧ (Sm (Ty.sl TValue) row) ∧ (Sm (Ty.sl TValue) (cutList v0 (some (wrap64 ((v0.length : Int) - (M.takes (nth (t := TPart) e i0))), (v0.length : Int))))) ∧ (((cutList v0 (some (wrap64 ((v0.length : Int) - (M.takes (nth (t := TPart) e i0))), (v0.length : Int)))).length : Int) = M.takes (nth (t := TPart) e i0)) ∧ (M.colIn (nth (t := TPart) e i0) row.length) ∧ (1 ≤ (nth (t := TPart) e i0).1 ∧ (nth (t := TPart) e i0).1 ≤ 8) ∧ (∀ r_6_5 : (TValue).D, r_6_5 = (M.partValue (nth (t := TPart) e i0) row (cutList v0 (some (wrap64 ((v0.length : Int) - (M.takes (nth (t := TPart) e i0))), (v0.length : Int))))) → (0 ≤ (0 : Int)) ∧ ((0 : Int) ≤ wrap64 ((v0.length : Int) - (M.takes (nth (t := TPart) e i0)))) ∧ (wrap64 ((v0.length : Int) - (M.takes (nth (t := TPart) e i0))) ≤ (v0.length : Int)) ∧ (wrap64 ((v0.length : Int) - (M.takes (nth (t := TPart) e i0))) = wrap64 ((v0.length : Int) - (M.takes (nth (t := TPart) e i0)))) ∧ ((0 : Int) = 0) ∧ (((wrap64 ((v0.length : Int) - (M.takes (nth (t := TPart) e i0)))).toNat + [r_6_5].length) * 32 ≤ lim) ∧ (∃ m_, m_ < m ∧ (L103 row e) 0 m_ (⟨[(0, .data (Ty.sl TValue) row), (4, .ptr 4 0), (5, .own 5 none), (10, .data (Ty.sl TPart) e), (11, .data (Ty.int .i64) (e.length : Int)), (12, .data (Ty.int .i64) (wrap64 (i0 + (1 : Int))))], [(4, .box [.data (Ty.int .i64) (0 : Int), .data (Ty.int .i64) (0 : Int), .data Ty.str (⟨#[]⟩ : ByteArray)]), (5, .arr TValue (v0.take (wrap64 ((v0.length : Int) - (M.takes (nth (t := TPart) e i0)))).toNat ++ [r_6_5]))]⟩ : St) K))) ∧ ((Sm TPart (nth (t := TPart) e i0)) ∧ (Sm (Ty.sl TValue) row) ∧ (Sm (Ty.sl TValue) (cutList v0 (some (wrap64 ((v0.length : Int) - (M.takes (nth (t := TPart) e i0))), (v0.length : Int))))) ∧ (((cutList v0 (some (wrap64 ((v0.length : Int) - (M.takes (nth (t := TPart) e i0))), (v0.length : Int)))).length : Int) = M.takes (nth (t := TPart) e i0)) ∧ (M.colIn (nth (t := TPart) e i0) row.length) ∧ (1 ≤ (nth (t := TPart) e i0).1 ∧ (nth (t := TPart) e i0).1 ≤ 8) ∧ (∀ r_6_5 : (TValue).D, r_6_5 = (M.partValue (nth (t := TPart) e i0) row (cutList v0 (some (wrap64 ((v0.length : Int) - (M.takes (nth (t := TPart) e i0))), (v0.length : Int))))) → (0 ≤ (0 : Int)) ∧ ((0 : Int) ≤ wrap64 ((v0.length : Int) - (M.takes (nth (t := TPart) e i0)))) ∧ (wrap64 ((v0.length : Int) - (M.takes (nth (t := TPart) e i0))) ≤ (v0.length : Int)) ∧ (wrap64 ((v0.length : Int) - (M.takes (nth (t := TPart) e i0))) = wrap64 ((v0.length : Int) - (M.takes (nth (t := TPart) e i0)))) ∧ ((0 : Int) = 0) ∧ (((wrap64 ((v0.length : Int) - (M.takes (nth (t := TPart) e i0)))).toNat + [r_6_5].length) * 32 ≤ lim) ∧ (∃ m_, m_ < m ∧ (L103 row e) 0 m_ (⟨[(0, .data (Ty.sl TValue) row), (4, .ptr 4 0), (5, .own 5 none), (10, .data (Ty.sl TPart) e), (11, .data (Ty.int .i64) (e.length : Int)), (12, .data (Ty.int .i64) (wrap64 (i0 + (1 : Int))))], [(4, .box [.data (Ty.int .i64) (0 : Int), .data (Ty.int .i64) (0 : Int), .data Ty.str (⟨#[]⟩ : ByteArray)]), (5, .arr TValue (v0.take (wrap64 ((v0.length : Int) - (M.takes (nth (t := TPart) e i0)))).toNat ++ [r_6_5]))]⟩ : St) K)))) (K (.exit 0) (⟨[(4, .ptr 4 0), (5, .own 5 none)], [(4, .box [.data (Ty.int .i64) (0 : Int), .data (Ty.int .i64) (0 : Int), .data Ty.str (⟨#[]⟩ : ByteArray)]), (5, .arr TValue v0)]⟩ : St))) := by kernel_rfl
theorem con103_ok : ConOk P 103 c103 := by
  refine con_okR (fn := Go.Proofs.Tryz.f103) (code := bodyOf Go.Proofs.Tryz.f103) (tab_ok tab_check cmp_check) consOk103 mixed Go.Proofs.Tryz.func103 rfl rfl fun args hp K h0 => ?_
  obtain ⟨a0, a1, rfl, rfl, h1⟩ := args2_elim h0
  obtain ⟨row, rfl, h2⟩ := withD_elim h1
  obtain ⟨e, rfl, h3⟩ := withD_elim h2
  obtain ⟨h_row, h_e, p0, hK⟩ := h3
  have h : ok (F.impl_exprValue row e) (fun r => K (.data TValue r) []) := ok_of_eq (F.impl_exprValue_eq row e h_row h_e p0) (hK _ rfl)
  refine ⟨⟨show (2 : Nat) ≤ 37 by decide, show (2 : Nat) ≤ 1000000 by decide⟩, ann103, (L103 row e), (.dat TValue), (loopsN1 (i0 := 0) (by kernel_rfl) ?_), ?_⟩
  · clear h
    intro m_ s_ K_ h
    obtain ⟨hc0, i0, v0, rfl, hl0, rfl, hv0, h⟩ := (show LP103_0 row e m_ s_ K_ from h)
    rw [lvc103_0 row e i0 v0 _ K_]
    exact (loopE_step (t := TPart) hl0 h (fun ht0 h => ⟨hl0, ⟨ht0, ⟨(sm_nth h_e i0), ⟨(ok_guard h).1, have g_33 := (ok_guard h).1; have h := (ok_guard h).2; ⟨(ok_guard h).1, have g_34 := (ok_guard h).1; have h := (ok_guard h).2; ⟨(Int.le_refl _), ⟨rfl, ((fun (g1_0 : Sm (Ty.sl TValue) (cutList v0 (some (wrap64 ((v0.length : Int) - (M.takes (nth (t := TPart) e i0))), (v0.length : Int))))) => (fun (g1_1 : ((cutList v0 (some (wrap64 ((v0.length : Int) - (M.takes (nth (t := TPart) e i0))), (v0.length : Int)))).length : Int) = M.takes (nth (t := TPart) e i0)) => (fun (g1_2 : M.colIn (nth (t := TPart) e i0) row.length) => (fun (g1_3 : 1 ≤ (nth (t := TPart) e i0).1 ∧ (nth (t := TPart) e i0).1 ≤ 8) => ⟨⟨(sm_nth h_e i0), ⟨h_row, ⟨g1_0, have g_35 := g1_0; ⟨g1_1, have g_36 := g1_1; ⟨g1_2, have g_37 := g1_2; ⟨g1_3, have g_38 := g1_3; (fun r_6_5 e_r_6_5 => (have h := (ok_let (ok_guard (ok_guard (ok_guard (ok_guard h).2).2).2).2 r_6_5 e_r_6_5); ⟨(Int.natCast_nonneg 0), ⟨(ok_guard h).1, have g_39 := (ok_guard h).1; have h := (ok_guard h).2; ⟨g_34, ⟨rfl, ⟨rfl, ⟨(ok_guard h).1, have g_40 := (ok_guard h).1; have h := (ok_guard h).2; (loopE_next (t := TPart) (fun m hm => (show LP103_0 row e m _ _ from ⟨hc0, hm⟩)) (v0.take (wrap64 ((v0.length : Int) - (M.takes (nth (t := TPart) e i0)))).toNat ++ [r_6_5]) rfl hl0 ht0 (sm_len h_e) trivial (have h := ok_ret h; h))⟩⟩⟩⟩⟩⟩))⟩⟩⟩⟩⟩⟩, ⟨(sm_nth h_e i0), ⟨h_row, ⟨g1_0, have g_41 := g1_0; ⟨g1_1, have g_42 := g1_1; ⟨g1_2, have g_43 := g1_2; ⟨g1_3, have g_44 := g1_3; (fun r_6_5 e_r_6_5 => (have h := (ok_let (ok_guard (ok_guard (ok_guard (ok_guard h).2).2).2).2 r_6_5 e_r_6_5); ⟨(Int.natCast_nonneg 0), ⟨(ok_guard h).1, have g_45 := (ok_guard h).1; have h := (ok_guard h).2; ⟨g_34, ⟨rfl, ⟨rfl, ⟨(ok_guard h).1, have g_46 := (ok_guard h).1; have h := (ok_guard h).2; (loopE_next (t := TPart) (fun m hm => (show LP103_0 row e m _ _ from ⟨hc0, hm⟩)) (v0.take (wrap64 ((v0.length : Int) - (M.takes (nth (t := TPart) e i0)))).toNat ++ [r_6_5]) rfl hl0 ht0 (sm_len h_e) trivial (have h := ok_ret h; h))⟩⟩⟩⟩⟩⟩))⟩⟩⟩⟩⟩⟩⟩) (ok_guard (ok_guard (ok_guard (ok_guard h).2).2).2).1) (ok_guard (ok_guard (ok_guard h).2).2).1) (ok_guard (ok_guard h).2).1) (ok_guard h).1)⟩⟩⟩⟩⟩⟩⟩) (fun h => (h trivial)))
  · rw [vc103 row e K]
    exact (loopE_start (t := TPart) (fun m hm => ⟨trivial, hm⟩) [] rfl trivial (ok_then h (fun v0 h hv0 => ⟨(Int.natCast_nonneg 0), ⟨(ok_guard h).1, have g_47 := (ok_guard h).1; have h := (ok_guard h).2; (have h := ok_ret h; h)⟩⟩) (fun _ h => h.elim)))

/-! 192: (loop.example/tablehouse/impl.Bond).breaks$2 -/
def c192 : Con := ⟨[.dat (Ty.sl (Ty.int .i64)), .any], fun args hp K => args2 (fun a0 a1 => withD (Ty.sl (Ty.int .i64)) a0 fun list => withR (Ty.sl TValue) a1 fun key => (Sm (Ty.sl (Ty.int .i64)) list) ∧ (Sm (Ty.sl TValue) key) ∧ (∀ r : (List Int) × (List (TValue).D), r = ((list, key)) → K (.fn 193 [.ref (.data (Ty.sl (Ty.int .i64)) r.1), .ref (.data (Ty.sl TValue) r.2)]) [])) args hp⟩
def cons192 : Cons := [(193, c193)]
def inl192 : List (Nat × Inl) := []
@[reducible] def C192 : Ctx := ⟨tab, fun t => memN t cmps, cons192, 5, inl192, 0⟩
theorem consOk192 : ConsOk P C192 := by
  refine consOk_cons (enter_ok (fn := Go.Proofs.Tryz.f193) Go.Proofs.Tryz.func193 (by kernel_rfl) rfl) con193_ok ?_
  exact consOk_nil
def ann192 : Nat → List Dir
  | 0 => [.fixBox 2, .keep [1, 2]]
  | 1 => [.keep [3]]
  | _ => []
def L192 (list : (List Int)) (key : (List (TValue).D)) : Loops := fun id m st_ K => match id with
  | _ => False
theorem vc192 (list : (List Int)) (key : (List (TValue).D)) (K : AV → Hp → Prop) : awp C192 (L192 list key) ann192 (bodyOf Go.Proofs.Tryz.f192) ⟨argEnv 0 [.data (Ty.sl (Ty.int .i64)) list, .ref (.data (Ty.sl TValue) key)], []⟩ (outK tab Go.Proofs.Tryz.f192.results.toList (hasBox []) (resK .raw K)) =
  (K (.fn 193 [.ref (.data (Ty.sl (Ty.int .i64)) list), .ref (.data (Ty.sl TValue) key)]) []) := by kernel_rfl
theorem con192_ok : ConOk P 192 c192 := by
  refine con_okR (fn := Go.Proofs.Tryz.f192) (code := bodyOf Go.Proofs.Tryz.f192) (tab_ok tab_check cmp_check) consOk192 mixed Go.Proofs.Tryz.func192 rfl rfl fun args hp K h0 => ?_
  obtain ⟨a0, a1, rfl, rfl, h1⟩ := args2_elim h0
  obtain ⟨list, rfl, h2⟩ := withD_elim h1
  obtain ⟨key, rfl, h3⟩ := withR_elim h2
  obtain ⟨h_list, h_key, hK⟩ := h3
  have h : ok (F.impl_Bond_breaks_2 list key) (fun r => K (.fn 193 [.ref (.data (Ty.sl (Ty.int .i64)) r.1), .ref (.data (Ty.sl TValue) r.2)]) []) := ok_of_eq (F.impl_Bond_breaks_2_eq list key h_list h_key) (hK _ rfl)
  refine ⟨⟨show (2 : Nat) ≤ 5 by decide, show (2 : Nat) ≤ 1000000 by decide⟩, ann192, (L192 list key), .raw, (no_loops (by kernel_rfl)), ?_⟩
  · rw [vc192 list key K]
    exact (have h := ok_ret h; h)

/-! 148: (loop.example/tablehouse/impl.Bond).breaks -/
def c148 : Con := ⟨[.dat TBond, .dat (Ty.sl TTable), .dat (Ty.int .i64)], fun args hp K => args3 (fun a0 a1 a2 => withD TBond a0 fun b => withD (Ty.sl TTable) a1 fun tables => withD (Ty.int .i64) a2 fun n => (Sm TBond b) ∧ (Sm (Ty.sl TTable) tables) ∧ ((M.tablesOk tables && M.bondOk tables b) = true) ∧ (0 ≤ n ∧ n < ((M.rowsIn tables b).length : Int)) ∧ K (.data Ty.bool (M.breaks tables b n)) []) args hp⟩
def cons148 : Cons := [(103, c103), (104, c104), (151, c151), (174, c174), (190, c190), (192, c192)]
def inl148 : List (Nat × Inl) := []
@[reducible] def C148 : Ctx := ⟨tab, fun t => memN t cmps, cons148, 63, inl148, 0⟩
theorem consOk148 : ConsOk P C148 := by
  refine consOk_cons (enter_ok (fn := Go.Proofs.Tryz.f103) Go.Proofs.Tryz.func103 (by kernel_rfl) rfl) con103_ok ?_
  refine consOk_cons (enter_ok (fn := Go.Proofs.Tryz.f104) Go.Proofs.Tryz.func104 (by kernel_rfl) rfl) con104_ok ?_
  refine consOk_cons (enter_ok (fn := Go.Proofs.Tryz.f151) Go.Proofs.Tryz.func151 (by kernel_rfl) rfl) con151_ok ?_
  refine consOk_cons (enter_ok (fn := Go.Proofs.Tryz.f174) Go.Proofs.Tryz.func174 (by kernel_rfl) rfl) con174_ok ?_
  refine consOk_cons (enter_ok (fn := Go.Proofs.Tryz.f190) Go.Proofs.Tryz.func190 (by kernel_rfl) rfl) con190_ok ?_
  refine consOk_cons (enter_ok (fn := Go.Proofs.Tryz.f192) Go.Proofs.Tryz.func192 (by kernel_rfl) rfl) con192_ok ?_
  exact consOk_nil
def ann148 : Nat → List Dir
  | 0 => [.fixRow 3 TBond, .keep [1, 2, 3]]
  | 1 => [.keep [1, 2, 3, 7]]
  | 2 => [.keep [1, 2, 3, 7, 21]]
  | 3 => [.keep [6]]
  | 4 => [.fixBox 8, .keep [1, 2, 3, 8]]
  | 5 => [.keep [1, 2, 3, 8, 33]]
  | 6 => [.keep [6]]
  | 7 => [.keep [1, 2, 3, 9]]
  | 8 => [.keep [1, 2, 3, 9, 37]]
  | 9 => [.keep [6]]
  | 10 => [.keep [6]]
  | _ => []
def L148 (b : (TBond).D) (tables : (List (TTable).D)) (n : Int) : Loops := fun id m st_ K => match id with
  | _ => False
theorem vc148 (b : (TBond).D) (tables : (List (TTable).D)) (n : Int) (K : AV → Hp → Prop) : awp C148 (L148 b tables n) ann148 (bodyOf Go.Proofs.Tryz.f148) ⟨argEnv 0 [.data TBond b, .data (Ty.sl TTable) tables, .data (Ty.int .i64) n], []⟩ (outK tab Go.Proofs.Tryz.f148.results.toList (hasBox []) (resK (.dat Ty.bool) K)) =
  ((0 ≤ b.2.1) ∧ (b.2.1 < (tables.length : Int)) ∧ (0 ≤ n) ∧ (n < ((((nth (t := TTable) tables b.2.1).2).1).length : Int)) ∧ cond (decide (b.1 = (3 : Int))) ((Sm (Ty.sl TValue) (nth (t := (Ty.sl TValue)) (((nth (t := TTable) tables b.2.1).2).1) n)) ∧ (Sm (Ty.sl TPart) b.2.2.2.2.2.2.1) ∧ (M.exprSafe (nth (t := (Ty.sl TValue)) (((nth (t := TTable) tables b.2.1).2).1) n).length b.2.2.2.2.2.2.1) ∧ (∀ r_3_3 : (TValue).D, r_3_3 = (M.exprValue (nth (t := (Ty.sl TValue)) (((nth (t := TTable) tables b.2.1).2).1) n) b.2.2.2.2.2.2.1) → (∀ r_3_4 : (TValue).D, r_3_4 = (M.valueOf (0 : Int)) → K (.data Ty.bool (Ty.beq TValue r_3_3 r_3_4)) []))) ((Sm (Ty.sl TValue) (nth (t := (Ty.sl TValue)) (((nth (t := TTable) tables b.2.1).2).1) n)) ∧ (Sm (Ty.sl (Ty.int .i64)) b.2.2.1) ∧ (M.inRow (nth (t := (Ty.sl TValue)) (((nth (t := TTable) tables b.2.1).2).1) n) b.2.2.1) ∧ (∀ r_4_3 : (List (TValue).D), r_4_3 = (M.taken (nth (t := (Ty.sl TValue)) (((nth (t := TTable) tables b.2.1).2).1) n) b.2.2.1) → (((Sm (Ty.sl TValue) r_4_3) ∧ cond (List.any r_4_3 (fun e => decide (e.1 = 0))) (K (.data Ty.bool false) []) (cond (decide (b.1 = (1 : Int))) ((0 ≤ b.2.1) ∧ (b.2.1 < (tables.length : Int)) ∧ (0 ≤ (0 : Int)) ∧ ((0 : Int) ≤ n) ∧ (n ≤ ((((nth (t := TTable) tables b.2.1).2).1).length : Int)) ∧ (n = n) ∧ (Sm (Ty.sl (Ty.int .i64)) b.2.2.1) ∧ (Sm (Ty.sl TValue) r_4_3) ∧ (∀ r_9_11 : (List Int) × (List (TValue).D), r_9_11 = ((b.2.2.1, r_4_3)) → (False ∨ ((Sm (Ty.sl (Ty.sl TValue)) (cutList (((nth (t := TTable) tables b.2.1).2).1) (some ((0 : Int), n)))) ∧ (Sm (Ty.sl (Ty.int .i64)) r_9_11.1) ∧ (Sm (Ty.sl TValue) r_9_11.2) ∧ (∀ e ∈ (cutList (((nth (t := TTable) tables b.2.1).2).1) (some ((0 : Int), n))), M.inRow e r_9_11.1) ∧ K (.data Ty.bool (List.any (cutList (((nth (t := TTable) tables b.2.1).2).1) (some ((0 : Int), n))) (fun e => decide (M.taken e r_9_11.1 = r_9_11.2)))) [])))) ((0 ≤ b.2.2.2.1) ∧ (b.2.2.2.1 < (tables.length : Int)) ∧ (Sm (Ty.sl (Ty.int .i64)) b.2.2.2.2.1) ∧ (Sm (Ty.sl TValue) r_4_3) ∧ (∀ r_10_9 : (List Int) × (List (TValue).D), r_10_9 = ((b.2.2.2.2.1, r_4_3)) → (False ∨ ((Sm (Ty.sl (Ty.sl TValue)) (((nth (t := TTable) tables b.2.2.2.1).2).1)) ∧ (Sm (Ty.sl (Ty.int .i64)) r_10_9.1) ∧ (Sm (Ty.sl TValue) r_10_9.2) ∧ (∀ e ∈ (((nth (t := TTable) tables b.2.2.2.1).2).1), M.inRow e r_10_9.1) ∧ K (.data Ty.bool (!(List.any (((nth (t := TTable) tables b.2.2.2.1).2).1) (fun e => decide (M.taken e r_10_9.1 = r_10_9.2))))) [])))))) ∨ False)))) := by kernel_rfl
theorem con148_ok : ConOk P 148 c148 := by
  refine con_okR (fn := Go.Proofs.Tryz.f148) (code := bodyOf Go.Proofs.Tryz.f148) (tab_ok tab_check cmp_check) consOk148 mixed Go.Proofs.Tryz.func148 rfl rfl fun args hp K h0 => ?_
  obtain ⟨a0, a1, a2, rfl, rfl, h1⟩ := args3_elim h0
  obtain ⟨b, rfl, h2⟩ := withD_elim h1
  obtain ⟨tables, rfl, h3⟩ := withD_elim h2
  obtain ⟨n, rfl, h4⟩ := withD_elim h3
  obtain ⟨h_b, h_tables, p0, p1, hK⟩ := h4
  have h : ok (F.impl_Bond_breaks b tables n) (fun r => K (.data Ty.bool r) []) := ok_of_eq (F.impl_Bond_breaks_eq b tables n h_b h_tables p0 p1) hK
  refine ⟨⟨show (3 : Nat) ≤ 63 by decide, show (3 : Nat) ≤ 1000000 by decide⟩, ann148, (L148 b tables n), (.dat Ty.bool), (no_loops (by kernel_rfl)), ?_⟩
  · rw [vc148 b tables n K]
    exact ⟨(ok_guard h).1, have g_1 := (ok_guard h).1; have h := (ok_guard h).2; ⟨(ok_guard h).1, have g_2 := (ok_guard h).1; have h := (ok_guard h).2; ⟨(ok_guard h).1, have g_3 := (ok_guard h).1; have h := (ok_guard h).2; ⟨(ok_guard h).1, have g_4 := (ok_guard h).1; have h := (ok_guard h).2; (ok_cond h (fun b_5 h => ⟨(sm_nth (sm_nth h_tables b.2.1).2.1 n), ⟨h_b.2.2.2.2.2.2.1, ⟨(ok_guard h).1, have g_6 := (ok_guard h).1; have h := (ok_guard h).2; (fun r_3_3 e_r_3_3 => have h := ok_let h r_3_3 e_r_3_3; (fun r_3_4 e_r_3_4 => have h := ok_let h r_3_4 e_r_3_4; (have h := ok_ret h; h)))⟩⟩⟩) (fun b_5 h => ⟨(sm_nth (sm_nth h_tables b.2.1).2.1 n), ⟨h_b.2.2.1, ⟨(ok_guard h).1, have g_7 := (ok_guard h).1; have h := (ok_guard h).2; (fun r_4_3 e_r_4_3 => have h := ok_let h r_4_3 e_r_4_3; (Or.inl (⟨(sm_of_eq e_r_4_3 (M.taken_sm (sm_nth (sm_nth h_tables b.2.1).2.1 n) h_b.2.2.1)), (ok_cond h (fun b_8 h => (have h := ok_ret h; h)) (fun b_8 h => (ok_cond h (fun b_9 h => ⟨g_1, ⟨g_2, ⟨(Int.natCast_nonneg 0), ⟨(ok_guard h).1, have g_10 := (ok_guard h).1; have h := (ok_guard h).2; ⟨(ok_guard h).1, have g_11 := (ok_guard h).1; have h := (ok_guard h).2; ⟨rfl, ⟨h_b.2.2.1, ⟨(sm_of_eq e_r_4_3 (M.taken_sm (sm_nth (sm_nth h_tables b.2.1).2.1 n) h_b.2.2.1)), (fun r_9_11 e_r_9_11 => have h := ok_let h r_9_11 e_r_9_11; (Or.inr (⟨(sm_cut (sm_nth h_tables b.2.1).2.1 _), ⟨(by rw [e_r_9_11]; exact h_b.2.2.1), ⟨(by rw [e_r_9_11]; exact (sm_of_eq e_r_4_3 (M.taken_sm (sm_nth (sm_nth h_tables b.2.1).2.1 n) h_b.2.2.1))), ⟨(ok_guard h).1, have g_12 := (ok_guard h).1; have h := (ok_guard h).2; (have h := ok_ret h; h)⟩⟩⟩⟩)))⟩⟩⟩⟩⟩⟩⟩⟩) (fun b_9 h => ⟨(ok_guard h).1, have g_13 := (ok_guard h).1; have h := (ok_guard h).2; ⟨(ok_guard h).1, have g_14 := (ok_guard h).1; have h := (ok_guard h).2; ⟨h_b.2.2.2.2.1, ⟨(sm_of_eq e_r_4_3 (M.taken_sm (sm_nth (sm_nth h_tables b.2.1).2.1 n) h_b.2.2.1)), (fun r_10_9 e_r_10_9 => have h := ok_let h r_10_9 e_r_10_9; (Or.inr (⟨(sm_nth h_tables b.2.2.2.1).2.1, ⟨(by rw [e_r_10_9]; exact h_b.2.2.2.2.1), ⟨(by rw [e_r_10_9]; exact (sm_of_eq e_r_4_3 (M.taken_sm (sm_nth (sm_nth h_tables b.2.1).2.1 n) h_b.2.2.1))), ⟨(ok_guard h).1, have g_15 := (ok_guard h).1; have h := (ok_guard h).2; (have h := ok_ret h; h)⟩⟩⟩⟩)))⟩⟩⟩⟩))))⟩)))⟩⟩⟩))⟩⟩⟩⟩

/-! 111: (loop.example/tablehouse/impl.Bond).broken -/
def c111 : Con := ⟨[.dat TBond, .dat (Ty.sl TTable)], fun args hp K => args2 (fun a0 a1 => withD TBond a0 fun b => withD (Ty.sl TTable) a1 fun tables => (Sm TBond b) ∧ (Sm (Ty.sl TTable) tables) ∧ ((M.tablesOk tables && M.bondOk tables b) = true) ∧ K (.data (Ty.int .i64) (M.broken tables b)) []) args hp⟩
def cons111 : Cons := [(148, c148)]
def inl111 : List (Nat × Inl) := []
@[reducible] def C111 : Ctx := ⟨tab, fun t => memN t cmps, cons111, 22, inl111, 0⟩
theorem consOk111 : ConsOk P C111 := by
  refine consOk_cons (enter_ok (fn := Go.Proofs.Tryz.f148) Go.Proofs.Tryz.func148 (by kernel_rfl) rfl) con148_ok ?_
  exact consOk_nil
def ann111 : Nat → List Dir
  | 0 => [.fixRow 2 TBond, .keep [1, 2]]
  | 1 => [.keep [1, 2, 12, 13]]
  | 2 => [.keep [1, 2, 12, 13, 14]]
  | 3 => [.keep [1, 2, 5, 12, 13]]
  | 4 => [.keep [1, 2, 5, 12, 13, 19]]
  | 5 => [.keep [4]]
  | 6 => [.keep [1, 2, 12, 13]]
  | 7 => [.keep [4]]
  | 100000 => [.keep []]
  | _ => []
@[reducible] def LP111_0 (b : (TBond).D) (tables : (List (TTable).D)) (m : Nat) (st_ : St) (K : X → St → Prop) : Prop := (True) ∧ LoopI (fun (i0 : Int) (v0 : Unit) => (⟨[(1, .data (Ty.sl TTable) tables), (2, .adr TBond b), (12, .data (Ty.int .i64) ((((nth (t := TTable) tables b.2.1).2).1).length : Int)), (13, .data (Ty.int .i64) i0)], []⟩ : St)) (0 : Int) ((((nth (t := TTable) tables b.2.1).2).1).length : Int) (F.impl_Bond_broken_l0 b tables) (fun v0 : Unit => True) (outD (fun v0 : Unit => True → K (.exit 0) (⟨[], []⟩ : St)) (fun q0 : Int => K .ret (⟨[(4, .data (Ty.int .i64) q0)], []⟩ : St))) m st_
def L111 (b : (TBond).D) (tables : (List (TTable).D)) : Loops := fun id m st_ K => match id with
  | 0 => LP111_0 b tables m st_ K
  | _ => False
theorem vc111 (b : (TBond).D) (tables : (List (TTable).D)) (K : AV → Hp → Prop) : awp C111 (L111 b tables) ann111 (bodyOf Go.Proofs.Tryz.f111) ⟨argEnv 0 [.data TBond b, .data (Ty.sl TTable) tables], []⟩ (outK tab Go.Proofs.Tryz.f111.results.toList (hasBox []) (resK (.dat (Ty.int .i64)) K)) =
  ((0 ≤ b.2.1) ∧ (b.2.1 < (tables.length : Int)) ∧ (∃ m_, (True) ∧ LoopI (fun (i0 : Int) (v0 : Unit) => (⟨[(1, .data (Ty.sl TTable) tables), (2, .adr TBond b), (12, .data (Ty.int .i64) ((((nth (t := TTable) tables b.2.1).2).1).length : Int)), (13, .data (Ty.int .i64) i0)], []⟩ : St)) (0 : Int) ((((nth (t := TTable) tables b.2.1).2).1).length : Int) (F.impl_Bond_broken_l0 b tables) (fun v0 : Unit => True) (outD (fun v0 : Unit => True → K (.data (Ty.int .i64) (-1 : Int)) []) (fun q0 : Int => K (.data (Ty.int .i64) q0) [])) m_ (⟨[(1, .data (Ty.sl TTable) tables), (2, .adr TBond b), (12, .data (Ty.int .i64) ((((nth (t := TTable) tables b.2.1).2).1).length : Int)), (13, .data (Ty.int .i64) (0 : Int))], []⟩ : St))) := by kernel_rfl
theorem lvc111_0 (b : (TBond).D) (tables : (List (TTable).D))  (i0 : Int) (v0 : Unit) (m : Nat) (K : X → St → Prop) : awp C111 (L111 b tables) ann111 (loopAt (bodyOf Go.Proofs.Tryz.f111) 0) (⟨[(1, .data (Ty.sl TTable) tables), (2, .adr TBond b), (12, .data (Ty.int .i64) ((((nth (t := TTable) tables b.2.1).2).1).length : Int)), (13, .data (Ty.int .i64) i0)], []⟩ : St) (thenW (fun s' => ∃ m', m' < m ∧ (L111 b tables) 0 m' s' K) (exitN 0 (ann111 (behind 0)) K)) =
  (cond (decide (i0 < ((((nth (t := TTable) tables b.2.1).2).1).length : Int))) ((Sm TBond b) ∧ (Sm (Ty.sl TTable) tables) ∧ ((M.tablesOk tables && M.bondOk tables b) = true) ∧ (0 ≤ i0 ∧ i0 < ((M.rowsIn tables b).length : Int)) ∧ cond (M.breaks tables b i0) (K .ret (⟨[(4, .data (Ty.int .i64) i0)], []⟩ : St)) ((∃ m_, m_ < m ∧ (L111 b tables) 0 m_ (⟨[(1, .data (Ty.sl TTable) tables), (2, .adr TBond b), (12, .data (Ty.int .i64) ((((nth (t := TTable) tables b.2.1).2).1).length : Int)), (13, .data (Ty.int .i64) (wrap64 (i0 + (1 : Int))))], []⟩ : St) K))) (K (.exit 0) (⟨[], []⟩ : St))) := by kernel_rfl
theorem con111_ok : ConOk P 111 c111 := by
  refine con_okR (fn := Go.Proofs.Tryz.f111) (code := bodyOf Go.Proofs.Tryz.f111) (tab_ok tab_check cmp_check) consOk111 mixed Go.Proofs.Tryz.func111 rfl rfl fun args hp K h0 => ?_
  obtain ⟨a0, a1, rfl, rfl, h1⟩ := args2_elim h0
  obtain ⟨b, rfl, h2⟩ := withD_elim h1
  obtain ⟨tables, rfl, h3⟩ := withD_elim h2
  obtain ⟨h_b, h_tables, p0, hK⟩ := h3
  have h : ok (F.impl_Bond_broken b tables) (fun r => K (.data (Ty.int .i64) r) []) := ok_of_eq (F.impl_Bond_broken_eq b tables h_b h_tables p0) hK
  refine ⟨⟨show (2 : Nat) ≤ 22 by decide, show (2 : Nat) ≤ 1000000 by decide⟩, ann111, (L111 b tables), (.dat (Ty.int .i64)), (loopsN1 (i0 := 0) (by kernel_rfl) ?_), ?_⟩
  · clear h
    intro m_ s_ K_ h
    obtain ⟨hc0, i0, v0, rfl, hl0, rfl, hv0, h⟩ := (show LP111_0 b tables m_ s_ K_ from h)
    rw [lvc111_0 b tables i0 v0 _ K_]
    exact (loopI_step h (fun ht0 h => ⟨h_b, ⟨h_tables, ⟨(ok_guard h).1, have g_12 := (ok_guard h).1; have h := (ok_guard h).2; ⟨(ok_guard h).1, have g_13 := (ok_guard h).1; have h := (ok_guard h).2; (ok_cond h (fun b_14 h => (have h := ok_ret h; h)) (fun b_14 h => (loopI_next (fun m hm => (show LP111_0 b tables m _ _ from ⟨hc0, hm⟩)) () rfl hl0 low0 ht0 (sm_len (sm_nth h_tables b.2.1).2.1) trivial (have h := ok_ret h; h))))⟩⟩⟩⟩) (fun h => (h trivial)))
  · rw [vc111 b tables K]
    exact ⟨(ok_guard h).1, have g_1 := (ok_guard h).1; have h := (ok_guard h).2; ⟨(ok_guard h).1, have g_2 := (ok_guard h).1; have h := (ok_guard h).2; (loopI_start (fun m hm => ⟨trivial, hm⟩) (0 : Int) () rfl (Int.natCast_nonneg 0) trivial (ok_then h (fun v0 h hv0 => (have h := ok_ret h; h)) (fun q0 h => (have h := ok_ret h; h))))⟩⟩

/-! 110: loop.example/tablehouse/impl.hold$1 -/
def c110 : Con := ⟨[.dat TBond, .any], fun args hp K => args2 (fun a0 a1 => withD TBond a0 fun b => withR (Ty.sl TTable) a1 fun tables => (Sm TBond b) ∧ (Sm (Ty.sl TTable) tables) ∧ ((M.tablesOk tables && M.bondOk tables b) = true) ∧ K (.data Ty.bool (decide (0 ≤ M.broken tables b))) []) args hp⟩
def cons110 : Cons := [(111, c111)]
def inl110 : List (Nat × Inl) := []
@[reducible] def C110 : Ctx := ⟨tab, fun t => memN t cmps, cons110, 8, inl110, 0⟩
theorem consOk110 : ConsOk P C110 := by
  refine consOk_cons (enter_ok (fn := Go.Proofs.Tryz.f111) Go.Proofs.Tryz.func111 (by kernel_rfl) rfl) con111_ok ?_
  exact consOk_nil
def ann110 : Nat → List Dir
  | 0 => [.fixRow 2 TBond, .keep [1, 2]]
  | 1 => [.keep [3]]
  | _ => []
def L110 (b : (TBond).D) (tables : (List (TTable).D)) : Loops := fun id m st_ K => match id with
  | _ => False
theorem vc110 (b : (TBond).D) (tables : (List (TTable).D)) (K : AV → Hp → Prop) : awp C110 (L110 b tables) ann110 (bodyOf Go.Proofs.Tryz.f110) ⟨argEnv 0 [.data TBond b, .ref (.data (Ty.sl TTable) tables)], []⟩ (outK tab Go.Proofs.Tryz.f110.results.toList (hasBox []) (resK (.dat Ty.bool) K)) =
  ((Sm TBond b) ∧ (Sm (Ty.sl TTable) tables) ∧ ((M.tablesOk tables && M.bondOk tables b) = true) ∧ K (.data Ty.bool (decide ((0 : Int) ≤ (M.broken tables b)))) []) := by kernel_rfl
theorem con110_ok : ConOk P 110 c110 := by
  refine con_okR (fn := Go.Proofs.Tryz.f110) (code := bodyOf Go.Proofs.Tryz.f110) (tab_ok tab_check cmp_check) consOk110 mixed Go.Proofs.Tryz.func110 rfl rfl fun args hp K h0 => ?_
  obtain ⟨a0, a1, rfl, rfl, h1⟩ := args2_elim h0
  obtain ⟨b, rfl, h2⟩ := withD_elim h1
  obtain ⟨tables, rfl, h3⟩ := withR_elim h2
  obtain ⟨h_b, h_tables, p0, hK⟩ := h3
  have h : ok (F.impl_hold_1 b tables) (fun r => K (.data Ty.bool r) []) := ok_of_eq (F.impl_hold_1_eq b tables h_b h_tables p0) hK
  refine ⟨⟨show (2 : Nat) ≤ 8 by decide, show (2 : Nat) ≤ 1000000 by decide⟩, ann110, (L110 b tables), (.dat Ty.bool), (no_loops (by kernel_rfl)), ?_⟩
  · rw [vc110 b tables K]
    exact ⟨h_b, ⟨h_tables, ⟨p0, (have h := ok_ret h; h)⟩⟩⟩

/-! 146: slices.IndexFunc[[]loop.example/tablehouse/impl.Bond,loop.example/tablehouse/impl.Bond] -/
def c146 : Con := ⟨[.lent TBond, .any], fun args hp K => (args2 (fun a0 a1 => withB TBond a0 fun xs => withF 108 a1 (caps1 (fun b1_0 => withR (Ty.sl TTable) b1_0 fun k0 => (Sm (Ty.sl TBond) xs) ∧ (Sm (Ty.sl TTable) k0) ∧ K (.data (Ty.int .i64) (M.idx (t := TBond) (fun e => !M.bondOk k0 e) xs)) []))) args hp) ∨ (args2 (fun a0 a1 => withB TBond a0 fun xs => withF 110 a1 (caps1 (fun b1_0 => withR (Ty.sl TTable) b1_0 fun k0 => (Sm (Ty.sl TBond) xs) ∧ (Sm (Ty.sl TTable) k0) ∧ (∀ e ∈ xs, (M.tablesOk k0 && M.bondOk k0 e) = true) ∧ K (.data (Ty.int .i64) (M.idx (t := TBond) (fun e => decide (0 ≤ M.broken k0 e)) xs)) []))) args hp)⟩
def cons146 : Cons := [(108, c108), (110, c110)]
def inl146 : List (Nat × Inl) := []
@[reducible] def C146 : Ctx := ⟨tab, fun t => memN t cmps, cons146, 19, inl146, 0⟩
theorem consOk146 : ConsOk P C146 := by
  refine consOk_cons (enter_ok (fn := Go.Proofs.Tryz.f108) Go.Proofs.Tryz.func108 (by kernel_rfl) rfl) con108_ok ?_
  refine consOk_cons (enter_ok (fn := Go.Proofs.Tryz.f110) Go.Proofs.Tryz.func110 (by kernel_rfl) rfl) con110_ok ?_
  exact consOk_nil
def ann146_v0 : Nat → List Dir
  | 0 => [.keep [0, 1]]
  | 1 => [.keep [0, 1, 7, 8]]
  | 2 => [.keep [0, 1, 7, 8, 9]]
  | 3 => [.keep [0, 1, 5, 7, 8]]
  | 4 => [.keep [0, 1, 5, 7, 8, 16]]
  | 5 => [.keep [4]]
  | 6 => [.keep [0, 1, 7, 8]]
  | 7 => [.keep [4]]
  | 100000 => [.keep []]
  | _ => []
@[reducible] def LP146_0_v0 (xs : (List (TBond).D)) (k0 : (List (TTable).D)) (m : Nat) (st_ : St) (K : X → St → Prop) : Prop := (True) ∧ LoopI (fun (i0 : Int) (v0 : Unit) => (⟨[(0, .brw TBond xs), (1, .fn 108 [.ref (.data (Ty.sl TTable) k0)]), (7, .data (Ty.int .i64) (xs.length : Int)), (8, .data (Ty.int .i64) i0)], []⟩ : St)) (0 : Int) (xs.length : Int) (F.IndexFunc_impl_bondsOk_1_l0 xs k0) (fun v0 : Unit => True) (outD (fun v0 : Unit => True → K (.exit 0) (⟨[], []⟩ : St)) (fun q0 : Int => K .ret (⟨[(4, .data (Ty.int .i64) q0)], []⟩ : St))) m st_
def L146_v0 (xs : (List (TBond).D)) (k0 : (List (TTable).D)) : Loops := fun id m st_ K => match id with
  | 0 => LP146_0_v0 xs k0 m st_ K
  | _ => False
theorem vc146_v0 (xs : (List (TBond).D)) (k0 : (List (TTable).D)) (K : AV → Hp → Prop) : awp C146 (L146_v0 xs k0) ann146_v0 (bodyOf Go.Proofs.Tryz.f146) ⟨argEnv 0 [.brw TBond xs, .fn 108 [.ref (.data (Ty.sl TTable) k0)]], []⟩ (outK tab Go.Proofs.Tryz.f146.results.toList (hasBox []) (resK (.dat (Ty.int .i64)) K)) =
  ((∃ m_, (True) ∧ LoopI (fun (i0 : Int) (v0 : Unit) => (⟨[(0, .brw TBond xs), (1, .fn 108 [.ref (.data (Ty.sl TTable) k0)]), (7, .data (Ty.int .i64) (xs.length : Int)), (8, .data (Ty.int .i64) i0)], []⟩ : St)) (0 : Int) (xs.length : Int) (F.IndexFunc_impl_bondsOk_1_l0 xs k0) (fun v0 : Unit => True) (outD (fun v0 : Unit => True → K (.data (Ty.int .i64) (-1 : Int)) []) (fun q0 : Int => K (.data (Ty.int .i64) q0) [])) m_ (⟨[(0, .brw TBond xs), (1, .fn 108 [.ref (.data (Ty.sl TTable) k0)]), (7, .data (Ty.int .i64) (xs.length : Int)), (8, .data (Ty.int .i64) (0 : Int))], []⟩ : St))) := by kernel_rfl
theorem lvc146_0_v0 (xs : (List (TBond).D)) (k0 : (List (TTable).D))  (i0 : Int) (v0 : Unit) (m : Nat) (K : X → St → Prop) : awp C146 (L146_v0 xs k0) ann146_v0 (loopAt (bodyOf Go.Proofs.Tryz.f146) 0) (⟨[(0, .brw TBond xs), (1, .fn 108 [.ref (.data (Ty.sl TTable) k0)]), (7, .data (Ty.int .i64) (xs.length : Int)), (8, .data (Ty.int .i64) i0)], []⟩ : St) (thenW (fun s' => ∃ m', m' < m ∧ (L146_v0 xs k0) 0 m' s' K) (exitN 0 (ann146_v0 (behind 0)) K)) =
  (cond (decide (i0 < (xs.length : Int))) ((0 ≤ i0) ∧ (i0 < (xs.length : Int)) ∧ (Sm TBond (nth (t := TBond) xs i0)) ∧ (Sm (Ty.sl TTable) k0) ∧ cond (!M.bondOk k0 (nth (t := TBond) xs i0)) (K .ret (⟨[(4, .data (Ty.int .i64) i0)], []⟩ : St)) ((∃ m_, m_ < m ∧ (L146_v0 xs k0) 0 m_ (⟨[(0, .brw TBond xs), (1, .fn 108 [.ref (.data (Ty.sl TTable) k0)]), (7, .data (Ty.int .i64) (xs.length : Int)), (8, .data (Ty.int .i64) (wrap64 (i0 + (1 : Int))))], []⟩ : St) K))) (K (.exit 0) (⟨[], []⟩ : St))) := by kernel_rfl
def ann146_v1 : Nat → List Dir
  | 0 => [.keep [0, 1]]
  | 1 => [.keep [0, 1, 7, 8]]
  | 2 => [.keep [0, 1, 7, 8, 9]]
  | 3 => [.keep [0, 1, 5, 7, 8]]
  | 4 => [.keep [0, 1, 5, 7, 8, 16]]
  | 5 => [.keep [4]]
  | 6 => [.keep [0, 1, 7, 8]]
  | 7 => [.keep [4]]
  | 100000 => [.keep []]
  | _ => []
@[reducible] def LP146_0_v1 (xs : (List (TBond).D)) (k0 : (List (TTable).D)) (m : Nat) (st_ : St) (K : X → St → Prop) : Prop := (True) ∧ LoopI (fun (i0 : Int) (v0 : Unit) => (⟨[(0, .brw TBond xs), (1, .fn 110 [.ref (.data (Ty.sl TTable) k0)]), (7, .data (Ty.int .i64) (xs.length : Int)), (8, .data (Ty.int .i64) i0)], []⟩ : St)) (0 : Int) (xs.length : Int) (F.IndexFunc_impl_hold_1_l0 xs k0) (fun v0 : Unit => True) (outD (fun v0 : Unit => True → K (.exit 0) (⟨[], []⟩ : St)) (fun q0 : Int => K .ret (⟨[(4, .data (Ty.int .i64) q0)], []⟩ : St))) m st_
def L146_v1 (xs : (List (TBond).D)) (k0 : (List (TTable).D)) : Loops := fun id m st_ K => match id with
  | 0 => LP146_0_v1 xs k0 m st_ K
  | _ => False
theorem vc146_v1 (xs : (List (TBond).D)) (k0 : (List (TTable).D)) (K : AV → Hp → Prop) : awp C146 (L146_v1 xs k0) ann146_v1 (bodyOf Go.Proofs.Tryz.f146) ⟨argEnv 0 [.brw TBond xs, .fn 110 [.ref (.data (Ty.sl TTable) k0)]], []⟩ (outK tab Go.Proofs.Tryz.f146.results.toList (hasBox []) (resK (.dat (Ty.int .i64)) K)) =
  ((∃ m_, (True) ∧ LoopI (fun (i0 : Int) (v0 : Unit) => (⟨[(0, .brw TBond xs), (1, .fn 110 [.ref (.data (Ty.sl TTable) k0)]), (7, .data (Ty.int .i64) (xs.length : Int)), (8, .data (Ty.int .i64) i0)], []⟩ : St)) (0 : Int) (xs.length : Int) (F.IndexFunc_impl_hold_1_l0 xs k0) (fun v0 : Unit => True) (outD (fun v0 : Unit => True → K (.data (Ty.int .i64) (-1 : Int)) []) (fun q0 : Int => K (.data (Ty.int .i64) q0) [])) m_ (⟨[(0, .brw TBond xs), (1, .fn 110 [.ref (.data (Ty.sl TTable) k0)]), (7, .data (Ty.int .i64) (xs.length : Int)), (8, .data (Ty.int .i64) (0 : Int))], []⟩ : St))) := by kernel_rfl
theorem lvc146_0_v1 (xs : (List (TBond).D)) (k0 : (List (TTable).D))  (i0 : Int) (v0 : Unit) (m : Nat) (K : X → St → Prop) : awp C146 (L146_v1 xs k0) ann146_v1 (loopAt (bodyOf Go.Proofs.Tryz.f146) 0) (⟨[(0, .brw TBond xs), (1, .fn 110 [.ref (.data (Ty.sl TTable) k0)]), (7, .data (Ty.int .i64) (xs.length : Int)), (8, .data (Ty.int .i64) i0)], []⟩ : St) (thenW (fun s' => ∃ m', m' < m ∧ (L146_v1 xs k0) 0 m' s' K) (exitN 0 (ann146_v1 (behind 0)) K)) =
  (cond (decide (i0 < (xs.length : Int))) ((0 ≤ i0) ∧ (i0 < (xs.length : Int)) ∧ (Sm TBond (nth (t := TBond) xs i0)) ∧ (Sm (Ty.sl TTable) k0) ∧ ((M.tablesOk k0 && M.bondOk k0 (nth (t := TBond) xs i0)) = true) ∧ cond (decide (0 ≤ M.broken k0 (nth (t := TBond) xs i0))) (K .ret (⟨[(4, .data (Ty.int .i64) i0)], []⟩ : St)) ((∃ m_, m_ < m ∧ (L146_v1 xs k0) 0 m_ (⟨[(0, .brw TBond xs), (1, .fn 110 [.ref (.data (Ty.sl TTable) k0)]), (7, .data (Ty.int .i64) (xs.length : Int)), (8, .data (Ty.int .i64) (wrap64 (i0 + (1 : Int))))], []⟩ : St) K))) (K (.exit 0) (⟨[], []⟩ : St))) := by kernel_rfl
theorem con146_ok : ConOk P 146 c146 := by
  refine con_okR (fn := Go.Proofs.Tryz.f146) (code := bodyOf Go.Proofs.Tryz.f146) (tab_ok tab_check cmp_check) consOk146 mixed Go.Proofs.Tryz.func146 rfl rfl fun args hp K h0 => ?_
  rcases h0 with h0 | h0
  · obtain ⟨a0, a1, rfl, rfl, h1⟩ := args2_elim h0
    obtain ⟨xs, rfl, h2⟩ := withB_elim h1
    obtain ⟨cs1, rfl, h3⟩ := withF_elim h2
    obtain ⟨b1_0, rfl, h4⟩ := caps1_elim h3
    obtain ⟨k0, rfl, h5⟩ := withR_elim h4
    obtain ⟨h_xs, h_k0, hK⟩ := h5
    have h : ok (F.IndexFunc_impl_bondsOk_1 xs k0) (fun r => K (.data (Ty.int .i64) r) []) := ok_of_eq (F.IndexFunc_impl_bondsOk_1_eq xs k0 h_xs h_k0) hK
    refine ⟨⟨show (2 : Nat) ≤ 19 by decide, show (2 : Nat) ≤ 1000000 by decide⟩, ann146_v0, (L146_v0 xs k0), (.dat (Ty.int .i64)), (loopsN1 (i0 := 0) (by kernel_rfl) ?_), ?_⟩
    · clear h
      intro m_ s_ K_ h
      obtain ⟨hc0, i0, v0, rfl, hl0, rfl, hv0, h⟩ := (show LP146_0_v0 xs k0 m_ s_ K_ from h)
      rw [lvc146_0_v0 xs k0 i0 v0 _ K_]
      exact (loopI_step h (fun ht0 h => ⟨hl0, ⟨ht0, ⟨(sm_nth h_xs i0), ⟨h_k0, (ok_cond h (fun b_9 h => (have h := ok_ret h; h)) (fun b_9 h => (loopI_next (fun m hm => (show LP146_0_v0 xs k0 m _ _ from ⟨hc0, hm⟩)) () rfl hl0 low0 ht0 (sm_len h_xs) trivial (have h := ok_ret h; h))))⟩⟩⟩⟩) (fun h => (h trivial)))
    · rw [vc146_v0 xs k0 K]
      exact (loopI_start (fun m hm => ⟨trivial, hm⟩) (0 : Int) () rfl (Int.natCast_nonneg 0) trivial (ok_then h (fun v0 h hv0 => (have h := ok_ret h; h)) (fun q0 h => (have h := ok_ret h; h))))
  · obtain ⟨a0, a1, rfl, rfl, h1⟩ := args2_elim h0
    obtain ⟨xs, rfl, h2⟩ := withB_elim h1
    obtain ⟨cs1, rfl, h3⟩ := withF_elim h2
    obtain ⟨b1_0, rfl, h4⟩ := caps1_elim h3
    obtain ⟨k0, rfl, h5⟩ := withR_elim h4
    obtain ⟨h_xs, h_k0, p0, hK⟩ := h5
    have h : ok (F.IndexFunc_impl_hold_1 xs k0) (fun r => K (.data (Ty.int .i64) r) []) := ok_of_eq (F.IndexFunc_impl_hold_1_eq xs k0 h_xs h_k0 p0) hK
    refine ⟨⟨show (2 : Nat) ≤ 19 by decide, show (2 : Nat) ≤ 1000000 by decide⟩, ann146_v1, (L146_v1 xs k0), (.dat (Ty.int .i64)), (loopsN1 (i0 := 0) (by kernel_rfl) ?_), ?_⟩
    · clear h
      intro m_ s_ K_ h
      obtain ⟨hc0, i0, v0, rfl, hl0, rfl, hv0, h⟩ := (show LP146_0_v1 xs k0 m_ s_ K_ from h)
      rw [lvc146_0_v1 xs k0 i0 v0 _ K_]
      exact (loopI_step h (fun ht0 h => ⟨hl0, ⟨ht0, ⟨(sm_nth h_xs i0), ⟨h_k0, ⟨(ok_guard h).1, have g_11 := (ok_guard h).1; have h := (ok_guard h).2; (ok_cond h (fun b_12 h => (have h := ok_ret h; h)) (fun b_12 h => (loopI_next (fun m hm => (show LP146_0_v1 xs k0 m _ _ from ⟨hc0, hm⟩)) () rfl hl0 low0 ht0 (sm_len h_xs) trivial (have h := ok_ret h; h))))⟩⟩⟩⟩⟩) (fun h => (h trivial)))
    · rw [vc146_v1 xs k0 K]
      exact (loopI_start (fun m hm => ⟨trivial, hm⟩) (0 : Int) () rfl (Int.natCast_nonneg 0) trivial (ok_then h (fun v0 h hv0 => (have h := ok_ret h; h)) (fun q0 h => (have h := ok_ret h; h))))

/-! 107: slices.ContainsFunc[[]loop.example/tablehouse/impl.Bond,loop.example/tablehouse/impl.Bond] -/
def c107 : Con := ⟨[.lent TBond, .any], fun args hp K => (args2 (fun a0 a1 => withB TBond a0 fun xs => withF 108 a1 (caps1 (fun b1_0 => withR (Ty.sl TTable) b1_0 fun k0 => (Sm (Ty.sl TBond) xs) ∧ (Sm (Ty.sl TTable) k0) ∧ K (.data Ty.bool (List.any xs (fun e => !M.bondOk k0 e))) []))) args hp) ∨ (args2 (fun a0 a1 => withB TBond a0 fun xs => withF 110 a1 (caps1 (fun b1_0 => withR (Ty.sl TTable) b1_0 fun k0 => (Sm (Ty.sl TBond) xs) ∧ (Sm (Ty.sl TTable) k0) ∧ (∀ e ∈ xs, (M.tablesOk k0 && M.bondOk k0 e) = true) ∧ K (.data Ty.bool (List.any xs (fun e => decide (0 ≤ M.broken k0 e)))) []))) args hp)⟩
def cons107 : Cons := [(108, c108), (110, c110), (146, c146)]
def inl107 : List (Nat × Inl) := []
@[reducible] def C107 : Ctx := ⟨tab, fun t => memN t cmps, cons107, 9, inl107, 0⟩
theorem consOk107 : ConsOk P C107 := by
  refine consOk_cons (enter_ok (fn := Go.Proofs.Tryz.f108) Go.Proofs.Tryz.func108 (by kernel_rfl) rfl) con108_ok ?_
  refine consOk_cons (enter_ok (fn := Go.Proofs.Tryz.f110) Go.Proofs.Tryz.func110 (by kernel_rfl) rfl) con110_ok ?_
  refine consOk_cons (enter_ok (fn := Go.Proofs.Tryz.f146) Go.Proofs.Tryz.func146 (by kernel_rfl) rfl) con146_ok ?_
  exact consOk_nil
def ann107_v0 : Nat → List Dir
  | 0 => [.keep [0, 1]]
  | 1 => [.keep [4]]
  | _ => []
def L107_v0 (xs : (List (TBond).D)) (k0 : (List (TTable).D)) : Loops := fun id m st_ K => match id with
  | _ => False
theorem vc107_v0 (xs : (List (TBond).D)) (k0 : (List (TTable).D)) (K : AV → Hp → Prop) : awp C107 (L107_v0 xs k0) ann107_v0 (bodyOf Go.Proofs.Tryz.f107) ⟨argEnv 0 [.brw TBond xs, .fn 108 [.ref (.data (Ty.sl TTable) k0)]], []⟩ (outK tab Go.Proofs.Tryz.f107.results.toList (hasBox []) (resK (.dat Ty.bool) K)) =
  ((((Sm (Ty.sl TBond) xs) ∧ (Sm (Ty.sl TTable) k0) ∧ K (.data Ty.bool (decide ((0 : Int) ≤ (M.idx (t := TBond) (fun e => !M.bondOk k0 e) xs)))) []) ∨ False)) := by kernel_rfl
def ann107_v1 : Nat → List Dir
  | 0 => [.keep [0, 1]]
  | 1 => [.keep [4]]
  | _ => []
def L107_v1 (xs : (List (TBond).D)) (k0 : (List (TTable).D)) : Loops := fun id m st_ K => match id with
  | _ => False
theorem vc107_v1 (xs : (List (TBond).D)) (k0 : (List (TTable).D)) (K : AV → Hp → Prop) : awp C107 (L107_v1 xs k0) ann107_v1 (bodyOf Go.Proofs.Tryz.f107) ⟨argEnv 0 [.brw TBond xs, .fn 110 [.ref (.data (Ty.sl TTable) k0)]], []⟩ (outK tab Go.Proofs.Tryz.f107.results.toList (hasBox []) (resK (.dat Ty.bool) K)) =
  ((False ∨ ((Sm (Ty.sl TBond) xs) ∧ (Sm (Ty.sl TTable) k0) ∧ (∀ e ∈ xs, (M.tablesOk k0 && M.bondOk k0 e) = true) ∧ K (.data Ty.bool (decide ((0 : Int) ≤ (M.idx (t := TBond) (fun e => decide (0 ≤ M.broken k0 e)) xs)))) []))) := by kernel_rfl
theorem con107_ok : ConOk P 107 c107 := by
  refine con_okR (fn := Go.Proofs.Tryz.f107) (code := bodyOf Go.Proofs.Tryz.f107) (tab_ok tab_check cmp_check) consOk107 mixed Go.Proofs.Tryz.func107 rfl rfl fun args hp K h0 => ?_
  rcases h0 with h0 | h0
  · obtain ⟨a0, a1, rfl, rfl, h1⟩ := args2_elim h0
    obtain ⟨xs, rfl, h2⟩ := withB_elim h1
    obtain ⟨cs1, rfl, h3⟩ := withF_elim h2
    obtain ⟨b1_0, rfl, h4⟩ := caps1_elim h3
    obtain ⟨k0, rfl, h5⟩ := withR_elim h4
    obtain ⟨h_xs, h_k0, hK⟩ := h5
    have h : ok (F.ContainsFunc_impl_bondsOk_1 xs k0) (fun r => K (.data Ty.bool r) []) := ok_of_eq (F.ContainsFunc_impl_bondsOk_1_eq xs k0 h_xs h_k0) hK
    refine ⟨⟨show (2 : Nat) ≤ 9 by decide, show (2 : Nat) ≤ 1000000 by decide⟩, ann107_v0, (L107_v0 xs k0), (.dat Ty.bool), (no_loops (by kernel_rfl)), ?_⟩
    · rw [vc107_v0 xs k0 K]
      exact (Or.inl (⟨h_xs, ⟨h_k0, (have h := ok_ret h; h)⟩⟩))
  · obtain ⟨a0, a1, rfl, rfl, h1⟩ := args2_elim h0
    obtain ⟨xs, rfl, h2⟩ := withB_elim h1
    obtain ⟨cs1, rfl, h3⟩ := withF_elim h2
    obtain ⟨b1_0, rfl, h4⟩ := caps1_elim h3
    obtain ⟨k0, rfl, h5⟩ := withR_elim h4
    obtain ⟨h_xs, h_k0, p0, hK⟩ := h5
    have h : ok (F.ContainsFunc_impl_hold_1 xs k0) (fun r => K (.data Ty.bool r) []) := ok_of_eq (F.ContainsFunc_impl_hold_1_eq xs k0 h_xs h_k0 p0) hK
    refine ⟨⟨show (2 : Nat) ≤ 9 by decide, show (2 : Nat) ≤ 1000000 by decide⟩, ann107_v1, (L107_v1 xs k0), (.dat Ty.bool), (no_loops (by kernel_rfl)), ?_⟩
    · rw [vc107_v1 xs k0 K]
      exact (Or.inr (⟨h_xs, ⟨h_k0, ⟨p0, (have h := ok_ret h; h)⟩⟩⟩))

/-! 65: loop.example/tablehouse/impl.bondsOk -/
def c65 : Con := ⟨[.dat (Ty.sl TTable), .dat (Ty.sl TBond)], fun args hp K => args2 (fun a0 a1 => withD (Ty.sl TTable) a0 fun tables => withD (Ty.sl TBond) a1 fun bonds => (Sm (Ty.sl TTable) tables) ∧ (Sm (Ty.sl TBond) bonds) ∧ K (.data Ty.bool (M.tablesOk tables && List.all bonds (M.bondOk tables))) []) args hp⟩
def cons65 : Cons := [(97, c97), (107, c107), (108, c108)]
def inl65 : List (Nat × Inl) := []
@[reducible] def C65 : Ctx := ⟨tab, fun t => memN t cmps, cons65, 13, inl65, 0⟩
theorem consOk65 : ConsOk P C65 := by
  refine consOk_cons (enter_ok (fn := Go.Proofs.Tryz.f97) Go.Proofs.Tryz.func97 (by kernel_rfl) rfl) con97_ok ?_
  refine consOk_cons (enter_ok (fn := Go.Proofs.Tryz.f107) Go.Proofs.Tryz.func107 (by kernel_rfl) rfl) con107_ok ?_
  refine consOk_cons (enter_ok (fn := Go.Proofs.Tryz.f108) Go.Proofs.Tryz.func108 (by kernel_rfl) rfl) con108_ok ?_
  exact consOk_nil
def ann65 : Nat → List Dir
  | 0 => [.fixBox 2, .keep [1, 2]]
  | 1 => [.keep [4]]
  | _ => []
def L65 (tables : (List (TTable).D)) (bonds : (List (TBond).D)) : Loops := fun id m st_ K => match id with
  | _ => False
theorem vc65 (tables : (List (TTable).D)) (bonds : (List (TBond).D)) (K : AV → Hp → Prop) : awp C65 (L65 tables bonds) ann65 (bodyOf Go.Proofs.Tryz.f65) ⟨argEnv 0 [.data (Ty.sl TTable) tables, .data (Ty.sl TBond) bonds], []⟩ (outK tab Go.Proofs.Tryz.f65.results.toList (hasBox []) (resK (.dat Ty.bool) K)) =
  ((Sm (Ty.sl TTable) tables) ∧ cond ((M.tablesOk tables) == true) ((((Sm (Ty.sl TBond) bonds) ∧ (Sm (Ty.sl TTable) tables) ∧ K (.data Ty.bool (!(List.any bonds (fun e => !M.bondOk tables e)))) []) ∨ False)) (K (.data Ty.bool false) [])) := by kernel_rfl
theorem con65_ok : ConOk P 65 c65 := by
  refine con_okR (fn := Go.Proofs.Tryz.f65) (code := bodyOf Go.Proofs.Tryz.f65) (tab_ok tab_check cmp_check) consOk65 mixed Go.Proofs.Tryz.func65 rfl rfl fun args hp K h0 => ?_
  obtain ⟨a0, a1, rfl, rfl, h1⟩ := args2_elim h0
  obtain ⟨tables, rfl, h2⟩ := withD_elim h1
  obtain ⟨bonds, rfl, h3⟩ := withD_elim h2
  obtain ⟨h_tables, h_bonds, hK⟩ := h3
  have h : ok (F.impl_bondsOk tables bonds) (fun r => K (.data Ty.bool r) []) := ok_of_eq (F.impl_bondsOk_eq tables bonds h_tables h_bonds) hK
  refine ⟨⟨show (2 : Nat) ≤ 13 by decide, show (2 : Nat) ≤ 1000000 by decide⟩, ann65, (L65 tables bonds), (.dat Ty.bool), (no_loops (by kernel_rfl)), ?_⟩
  · rw [vc65 tables bonds K]
    exact ⟨h_tables, (ok_cond h (fun b_1 h => (Or.inl (⟨h_bonds, ⟨h_tables, (have h := ok_ret h; h)⟩⟩))) (fun b_1 h => (have h := ok_ret h; h)))⟩

/-! 66: loop.example/tablehouse/impl.hold -/
def c66 : Con := ⟨[.dat (Ty.sl TTable), .dat (Ty.sl TBond)], fun args hp K => args2 (fun a0 a1 => withD (Ty.sl TTable) a0 fun tables => withD (Ty.sl TBond) a1 fun bonds => (Sm (Ty.sl TTable) tables) ∧ (Sm (Ty.sl TBond) bonds) ∧ (∀ e ∈ bonds, (M.tablesOk tables && M.bondOk tables e) = true) ∧ K (.data Ty.bool (!List.any bonds (fun e => decide (0 ≤ M.broken tables e)))) []) args hp⟩
def cons66 : Cons := [(107, c107), (110, c110)]
def inl66 : List (Nat × Inl) := []
@[reducible] def C66 : Ctx := ⟨tab, fun t => memN t cmps, cons66, 9, inl66, 0⟩
theorem consOk66 : ConsOk P C66 := by
  refine consOk_cons (enter_ok (fn := Go.Proofs.Tryz.f107) Go.Proofs.Tryz.func107 (by kernel_rfl) rfl) con107_ok ?_
  refine consOk_cons (enter_ok (fn := Go.Proofs.Tryz.f110) Go.Proofs.Tryz.func110 (by kernel_rfl) rfl) con110_ok ?_
  exact consOk_nil
def ann66 : Nat → List Dir
  | 0 => [.fixBox 2, .keep [1, 2]]
  | 1 => [.keep [4]]
  | _ => []
def L66 (tables : (List (TTable).D)) (bonds : (List (TBond).D)) : Loops := fun id m st_ K => match id with
  | _ => False
theorem vc66 (tables : (List (TTable).D)) (bonds : (List (TBond).D)) (K : AV → Hp → Prop) : awp C66 (L66 tables bonds) ann66 (bodyOf Go.Proofs.Tryz.f66) ⟨argEnv 0 [.data (Ty.sl TTable) tables, .data (Ty.sl TBond) bonds], []⟩ (outK tab Go.Proofs.Tryz.f66.results.toList (hasBox []) (resK (.dat Ty.bool) K)) =
  ((False ∨ ((Sm (Ty.sl TBond) bonds) ∧ (Sm (Ty.sl TTable) tables) ∧ (∀ e ∈ bonds, (M.tablesOk tables && M.bondOk tables e) = true) ∧ K (.data Ty.bool (!(List.any bonds (fun e => decide (0 ≤ M.broken tables e))))) []))) := by kernel_rfl
theorem con66_ok : ConOk P 66 c66 := by
  refine con_okR (fn := Go.Proofs.Tryz.f66) (code := bodyOf Go.Proofs.Tryz.f66) (tab_ok tab_check cmp_check) consOk66 mixed Go.Proofs.Tryz.func66 rfl rfl fun args hp K h0 => ?_
  obtain ⟨a0, a1, rfl, rfl, h1⟩ := args2_elim h0
  obtain ⟨tables, rfl, h2⟩ := withD_elim h1
  obtain ⟨bonds, rfl, h3⟩ := withD_elim h2
  obtain ⟨h_tables, h_bonds, p0, hK⟩ := h3
  have h : ok (F.impl_hold tables bonds) (fun r => K (.data Ty.bool r) []) := ok_of_eq (F.impl_hold_eq tables bonds h_tables h_bonds p0) hK
  refine ⟨⟨show (2 : Nat) ≤ 9 by decide, show (2 : Nat) ≤ 1000000 by decide⟩, ann66, (L66 tables bonds), (.dat Ty.bool), (no_loops (by kernel_rfl)), ?_⟩
  · rw [vc66 tables bonds K]
    exact (Or.inr (⟨h_bonds, ⟨h_tables, ⟨p0, (have h := ok_ret h; h)⟩⟩⟩))

/-! 28: loop.example/tablehouse/impl.BondsHold -/
def c28 : Con := ⟨[.dat (Ty.sl TTable), .dat (Ty.sl TBond)], fun args hp K => args2 (fun a0 a1 => withD (Ty.sl TTable) a0 fun tables => withD (Ty.sl TBond) a1 fun bonds => (Sm (Ty.sl TTable) tables) ∧ (Sm (Ty.sl TBond) bonds) ∧ K (.data Ty.bool (M.bondsHold tables bonds)) []) args hp⟩
def cons28 : Cons := [(65, c65), (66, c66)]
def inl28 : List (Nat × Inl) := []
@[reducible] def C28 : Ctx := ⟨tab, fun t => memN t cmps, cons28, 23, inl28, 0⟩
theorem consOk28 : ConsOk P C28 := by
  refine consOk_cons (enter_ok (fn := Go.Proofs.Tryz.f65) Go.Proofs.Tryz.func65 (by kernel_rfl) rfl) con65_ok ?_
  refine consOk_cons (enter_ok (fn := Go.Proofs.Tryz.f66) Go.Proofs.Tryz.func66 (by kernel_rfl) rfl) con66_ok ?_
  exact consOk_nil
def ann28 : Nat → List Dir
  | 0 => [.keep [0, 1]]
  | 1 => [.keep [4]]
  | _ => []
def L28 (tables : (List (TTable).D)) (bonds : (List (TBond).D)) : Loops := fun id m st_ K => match id with
  | _ => False
theorem vc28 (tables : (List (TTable).D)) (bonds : (List (TBond).D)) (K : AV → Hp → Prop) : awp C28 (L28 tables bonds) ann28 (bodyOf Go.Proofs.Tryz.f28) ⟨argEnv 0 [.data (Ty.sl TTable) tables, .data (Ty.sl TBond) bonds], []⟩ (outK tab Go.Proofs.Tryz.f28.results.toList (hasBox []) (resK (.dat Ty.bool) K)) =
  (cond ((decide ((bonds.length : Int) = (0 : Int))) == false) (cond ((decide ((bonds.length : Int) ≤ (4 : Int))) == true) ((Sm (Ty.sl TTable) tables) ∧ (Sm (Ty.sl TBond) bonds) ∧ cond ((M.tablesOk tables && List.all bonds (M.bondOk tables)) == true) ((Sm (Ty.sl TTable) tables) ∧ (Sm (Ty.sl TBond) bonds) ∧ (∀ e ∈ bonds, (M.tablesOk tables && M.bondOk tables e) = true) ∧ K (.data Ty.bool (!List.any bonds (fun e => decide (0 ≤ M.broken tables e)))) []) (K (.data Ty.bool false) [])) (K (.data Ty.bool false) [])) (K (.data Ty.bool true) [])) := by kernel_rfl
theorem con28_ok : ConOk P 28 c28 := by
  refine con_okR (fn := Go.Proofs.Tryz.f28) (code := bodyOf Go.Proofs.Tryz.f28) (tab_ok tab_check cmp_check) consOk28 mixed Go.Proofs.Tryz.func28 rfl rfl fun args hp K h0 => ?_
  obtain ⟨a0, a1, rfl, rfl, h1⟩ := args2_elim h0
  obtain ⟨tables, rfl, h2⟩ := withD_elim h1
  obtain ⟨bonds, rfl, h3⟩ := withD_elim h2
  obtain ⟨h_tables, h_bonds, hK⟩ := h3
  have h : ok (F.impl_BondsHold tables bonds) (fun r => K (.data Ty.bool r) []) := ok_of_eq (F.impl_BondsHold_eq tables bonds h_tables h_bonds) hK
  refine ⟨⟨show (2 : Nat) ≤ 23 by decide, show (2 : Nat) ≤ 1000000 by decide⟩, ann28, (L28 tables bonds), (.dat Ty.bool), (no_loops (by kernel_rfl)), ?_⟩
  · rw [vc28 tables bonds K]
    exact (ok_cond h (fun b_1 h => (ok_cond h (fun b_2 h => ⟨h_tables, ⟨h_bonds, (ok_cond h (fun b_3 h => ⟨h_tables, ⟨h_bonds, ⟨(ok_guard h).1, have g_4 := (ok_guard h).1; have h := (ok_guard h).2; (have h := ok_ret h; h)⟩⟩⟩) (fun b_3 h => (have h := ok_ret h; h)))⟩⟩) (fun b_2 h => (have h := ok_ret h; h)))) (fun b_1 h => (have h := ok_ret h; h)))

/-! 126: loop.example/tablehouse/laws.eqPart -/
def c126 : Con := ⟨[.dat TPart, .dat TPart], fun args hp K => args2 (fun a0 a1 => withD TPart a0 fun x => withD TPart a1 fun y => (Sm TPart x) ∧ (Sm TPart y) ∧ (x = y) ∧ K (.data Ty.bool (true)) []) args hp⟩
def cons126 : Cons := [(114, c114)]
def inl126 : List (Nat × Inl) := []
@[reducible] def C126 : Ctx := ⟨tab, fun t => memN t cmps, cons126, 21, inl126, 0⟩
theorem consOk126 : ConsOk P C126 := by
  refine consOk_cons (enter_ok (fn := Go.Proofs.Tryz.f114) Go.Proofs.Tryz.func114 (by kernel_rfl) rfl) con114_ok ?_
  exact consOk_nil
def ann126 : Nat → List Dir
  | 0 => [.fixRow 2 TPart, .fixRow 3 TPart, .keep [2, 3]]
  | 1 => [.keep [2, 3, 9]]
  | 2 => [.keep [4]]
  | 3 => [.keep [2, 3, 14]]
  | 4 => [.keep [4]]
  | 5 => [.keep [20]]
  | 6 => [.keep [4]]
  | 7 => [.keep [4]]
  | _ => []
def L126 (x : (TPart).D) (y : (TPart).D) : Loops := fun id m st_ K => match id with
  | _ => False
theorem vc126 (x : (TPart).D) (y : (TPart).D) (K : AV → Hp → Prop) : awp C126 (L126 x y) ann126 (bodyOf Go.Proofs.Tryz.f126) ⟨argEnv 0 [.data TPart x, .data TPart y], []⟩ (outK tab Go.Proofs.Tryz.f126.results.toList (hasBox []) (resK (.dat Ty.bool) K)) =
  (cond (!decide (x.1 = y.1)) (K (.data Ty.bool false) []) (cond (!decide (x.2.1 = y.2.1)) (K (.data Ty.bool false) []) ((Sm TValue x.2.2.1) ∧ (Sm TValue y.2.2.1) ∧ (x.2.2.1 = y.2.2.1) ∧ cond (!(true)) (K (.data Ty.bool false) []) (K (.data Ty.bool true) [])))) := by kernel_rfl
theorem con126_ok : ConOk P 126 c126 := by
  refine con_okR (fn := Go.Proofs.Tryz.f126) (code := bodyOf Go.Proofs.Tryz.f126) (tab_ok tab_check cmp_check) consOk126 mixed Go.Proofs.Tryz.func126 rfl rfl fun args hp K h0 => ?_
  obtain ⟨a0, a1, rfl, rfl, h1⟩ := args2_elim h0
  obtain ⟨x, rfl, h2⟩ := withD_elim h1
  obtain ⟨y, rfl, h3⟩ := withD_elim h2
  obtain ⟨h_x, h_y, p0, hK⟩ := h3
  have h : ok (F.laws_eqPart x y) (fun r => K (.data Ty.bool r) []) := ok_of_eq (F.laws_eqPart_eq x y h_x h_y p0) hK
  refine ⟨⟨show (2 : Nat) ≤ 21 by decide, show (2 : Nat) ≤ 1000000 by decide⟩, ann126, (L126 x y), (.dat Ty.bool), (no_loops (by kernel_rfl)), ?_⟩
  · rw [vc126 x y K]
    exact (ok_cond h (fun b_1 h => (have h := ok_ret h; h)) (fun b_1 h => (ok_cond h (fun b_2 h => (have h := ok_ret h; h)) (fun b_2 h => ⟨h_x.2.2.1, ⟨h_y.2.2.1, ⟨(ok_guard h).1, have g_3 := (ok_guard h).1; have h := (ok_guard h).2; (ok_cond h (fun b_4 h => (have h := ok_ret h; h)) (fun b_4 h => (have h := ok_ret h; h)))⟩⟩⟩))))

/-! 89: loop.example/tablehouse/laws.eqPartS -/
def c89 : Con := ⟨[.dat (Ty.sl TPart), .dat (Ty.sl TPart)], fun args hp K => args2 (fun a0 a1 => withD (Ty.sl TPart) a0 fun x => withD (Ty.sl TPart) a1 fun y => (Sm (Ty.sl TPart) x) ∧ (Sm (Ty.sl TPart) y) ∧ (x = y) ∧ K (.data Ty.bool (true)) []) args hp⟩
def cons89 : Cons := [(126, c126)]
def inl89 : List (Nat × Inl) := []
@[reducible] def C89 : Ctx := ⟨tab, fun t => memN t cmps, cons89, 27, inl89, 0⟩
theorem consOk89 : ConsOk P C89 := by
  refine consOk_cons (enter_ok (fn := Go.Proofs.Tryz.f126) Go.Proofs.Tryz.func126 (by kernel_rfl) rfl) con126_ok ?_
  exact consOk_nil
def ann89 : Nat → List Dir
  | 0 => [.keep [0, 1]]
  | 1 => [.keep [0, 1, 10]]
  | 2 => [.keep [4]]
  | 3 => [.keep [0, 1, 5]]
  | 4 => [.keep [0, 1, 5, 14]]
  | 5 => [.keep [0, 1, 5]]
  | 6 => [.keep [0, 1, 5, 26]]
  | 7 => [.keep [4]]
  | 8 => [.keep [4]]
  | 100000 => [.keep []]
  | _ => []
@[reducible] def LP89_0 (x : (List (TPart).D)) (y : (List (TPart).D)) (m : Nat) (st_ : St) (K : X → St → Prop) : Prop := (True) ∧ LoopI (fun (i0 : Int) (v0 : Unit) => (⟨[(0, .data (Ty.sl TPart) x), (1, .data (Ty.sl TPart) y), (5, .data (Ty.int .i64) i0)], []⟩ : St)) (0 : Int) (x.length : Int) (F.laws_eqPartS_l0 x y) (fun v0 : Unit => True) (outD (fun v0 : Unit => True → K (.exit 0) (⟨[], []⟩ : St)) (fun q0 : Unit => K .ret (⟨[(4, .data Ty.bool false)], []⟩ : St))) m st_
def L89 (x : (List (TPart).D)) (y : (List (TPart).D)) : Loops := fun id m st_ K => match id with
  | 0 => LP89_0 x y m st_ K
  | _ => False
theorem vc89 (x : (List (TPart).D)) (y : (List (TPart).D)) (K : AV → Hp → Prop) : awp C89 (L89 x y) ann89 (bodyOf Go.Proofs.Tryz.f89) ⟨argEnv 0 [.data (Ty.sl TPart) x, .data (Ty.sl TPart) y], []⟩ (outK tab Go.Proofs.Tryz.f89.results.toList (hasBox []) (resK (.dat Ty.bool) K)) =
  (cond (!decide ((x.length : Int) = (y.length : Int))) (K (.data Ty.bool false) []) ((∃ m_, (True) ∧ LoopI (fun (i0 : Int) (v0 : Unit) => (⟨[(0, .data (Ty.sl TPart) x), (1, .data (Ty.sl TPart) y), (5, .data (Ty.int .i64) i0)], []⟩ : St)) (0 : Int) (x.length : Int) (F.laws_eqPartS_l0 x y) (fun v0 : Unit => True) (outD (fun v0 : Unit => True → K (.data Ty.bool true) []) (fun q0 : Unit => K (.data Ty.bool false) [])) m_ (⟨[(0, .data (Ty.sl TPart) x), (1, .data (Ty.sl TPart) y), (5, .data (Ty.int .i64) (0 : Int))], []⟩ : St)))) := by kernel_rfl
theorem lvc89_0 (x : (List (TPart).D)) (y : (List (TPart).D))  (i0 : Int) (v0 : Unit) (m : Nat) (K : X → St → Prop) : awp C89 (L89 x y) ann89 (loopAt (bodyOf Go.Proofs.Tryz.f89) 0) (⟨[(0, .data (Ty.sl TPart) x), (1, .data (Ty.sl TPart) y), (5, .data (Ty.int .i64) i0)], []⟩ : St) (thenW (fun s' => ∃ m', m' < m ∧ (L89 x y) 0 m' s' K) (exitN 0 (ann89 (behind 0)) K)) =
  (cond (decide (i0 < (x.length : Int))) ((0 ≤ i0) ∧ (i0 < (x.length : Int)) ∧ (0 ≤ i0) ∧ (i0 < (y.length : Int)) ∧ (Sm TPart (nth (t := TPart) x i0)) ∧ (Sm TPart (nth (t := TPart) y i0)) ∧ ((nth (t := TPart) x i0) = (nth (t := TPart) y i0)) ∧ cond (!(true)) (K .ret (⟨[(4, .data Ty.bool false)], []⟩ : St)) ((∃ m_, m_ < m ∧ (L89 x y) 0 m_ (⟨[(0, .data (Ty.sl TPart) x), (1, .data (Ty.sl TPart) y), (5, .data (Ty.int .i64) (wrap64 (i0 + (1 : Int))))], []⟩ : St) K))) (K (.exit 0) (⟨[], []⟩ : St))) := by kernel_rfl
theorem con89_ok : ConOk P 89 c89 := by
  refine con_okR (fn := Go.Proofs.Tryz.f89) (code := bodyOf Go.Proofs.Tryz.f89) (tab_ok tab_check cmp_check) consOk89 mixed Go.Proofs.Tryz.func89 rfl rfl fun args hp K h0 => ?_
  obtain ⟨a0, a1, rfl, rfl, h1⟩ := args2_elim h0
  obtain ⟨x, rfl, h2⟩ := withD_elim h1
  obtain ⟨y, rfl, h3⟩ := withD_elim h2
  obtain ⟨h_x, h_y, p0, hK⟩ := h3
  have h : ok (F.laws_eqPartS x y) (fun r => K (.data Ty.bool r) []) := ok_of_eq (F.laws_eqPartS_eq x y h_x h_y p0) hK
  refine ⟨⟨show (2 : Nat) ≤ 27 by decide, show (2 : Nat) ≤ 1000000 by decide⟩, ann89, (L89 x y), (.dat Ty.bool), (loopsN1 (i0 := 0) (by kernel_rfl) ?_), ?_⟩
  · clear h
    intro m_ s_ K_ h
    obtain ⟨hc0, i0, v0, rfl, hl0, rfl, hv0, h⟩ := (show LP89_0 x y m_ s_ K_ from h)
    rw [lvc89_0 x y i0 v0 _ K_]
    exact (loopI_step h (fun ht0 h => ⟨hl0, ⟨ht0, ⟨hl0, ⟨(ok_guard h).1, have g_14 := (ok_guard h).1; have h := (ok_guard h).2; ⟨(sm_nth h_x i0), ⟨(sm_nth h_y i0), ⟨(ok_guard h).1, have g_15 := (ok_guard h).1; have h := (ok_guard h).2; (ok_cond h (fun b_16 h => (have h := ok_ret h; h)) (fun b_16 h => (loopI_next (fun m hm => (show LP89_0 x y m _ _ from ⟨hc0, hm⟩)) () rfl hl0 low0 ht0 (sm_len h_x) trivial (have h := ok_ret h; h))))⟩⟩⟩⟩⟩⟩⟩) (fun h => (h trivial)))
  · rw [vc89 x y K]
    exact (ok_cond h (fun b_1 h => (have h := ok_ret h; h)) (fun b_1 h => (loopI_start (fun m hm => ⟨trivial, hm⟩) (0 : Int) () rfl (Int.natCast_nonneg 0) trivial (ok_then h (fun v0 h hv0 => (have h := ok_ret h; h)) (fun q0 h => (have h := ok_ret h; h))))))

/-! 90: loop.example/tablehouse/laws.eqIntS -/
def c90 : Con := ⟨[.dat (Ty.sl (Ty.int .i64)), .dat (Ty.sl (Ty.int .i64))], fun args hp K => args2 (fun a0 a1 => withD (Ty.sl (Ty.int .i64)) a0 fun x => withD (Ty.sl (Ty.int .i64)) a1 fun y => (Sm (Ty.sl (Ty.int .i64)) x) ∧ (Sm (Ty.sl (Ty.int .i64)) y) ∧ (x = y) ∧ K (.data Ty.bool (true)) []) args hp⟩
def cons90 : Cons := []
def inl90 : List (Nat × Inl) := []
@[reducible] def C90 : Ctx := ⟨tab, fun t => memN t cmps, cons90, 26, inl90, 0⟩
theorem consOk90 : ConsOk P C90 := by
  exact consOk_nil
def ann90 : Nat → List Dir
  | 0 => [.keep [0, 1]]
  | 1 => [.keep [0, 1, 10]]
  | 2 => [.keep [4]]
  | 3 => [.keep [0, 1, 5]]
  | 4 => [.keep [0, 1, 5, 14]]
  | 5 => [.keep [0, 1, 5]]
  | 6 => [.keep [0, 1, 5, 25]]
  | 7 => [.keep [4]]
  | 8 => [.keep [4]]
  | 100000 => [.keep []]
  | _ => []
@[reducible] def LP90_0 (x : (List Int)) (y : (List Int)) (m : Nat) (st_ : St) (K : X → St → Prop) : Prop := (True) ∧ LoopI (fun (i0 : Int) (v0 : Unit) => (⟨[(0, .data (Ty.sl (Ty.int .i64)) x), (1, .data (Ty.sl (Ty.int .i64)) y), (5, .data (Ty.int .i64) i0)], []⟩ : St)) (0 : Int) (x.length : Int) (F.laws_eqIntS_l0 x y) (fun v0 : Unit => True) (outD (fun v0 : Unit => True → K (.exit 0) (⟨[], []⟩ : St)) (fun q0 : Unit => K .ret (⟨[(4, .data Ty.bool false)], []⟩ : St))) m st_
def L90 (x : (List Int)) (y : (List Int)) : Loops := fun id m st_ K => match id with
  | 0 => LP90_0 x y m st_ K
  | _ => False
theorem vc90 (x : (List Int)) (y : (List Int)) (K : AV → Hp → Prop) : awp C90 (L90 x y) ann90 (bodyOf Go.Proofs.Tryz.f90) ⟨argEnv 0 [.data (Ty.sl (Ty.int .i64)) x, .data (Ty.sl (Ty.int .i64)) y], []⟩ (outK tab Go.Proofs.Tryz.f90.results.toList (hasBox []) (resK (.dat Ty.bool) K)) =
  (cond (!decide ((x.length : Int) = (y.length : Int))) (K (.data Ty.bool false) []) ((∃ m_, (True) ∧ LoopI (fun (i0 : Int) (v0 : Unit) => (⟨[(0, .data (Ty.sl (Ty.int .i64)) x), (1, .data (Ty.sl (Ty.int .i64)) y), (5, .data (Ty.int .i64) i0)], []⟩ : St)) (0 : Int) (x.length : Int) (F.laws_eqIntS_l0 x y) (fun v0 : Unit => True) (outD (fun v0 : Unit => True → K (.data Ty.bool true) []) (fun q0 : Unit => K (.data Ty.bool false) [])) m_ (⟨[(0, .data (Ty.sl (Ty.int .i64)) x), (1, .data (Ty.sl (Ty.int .i64)) y), (5, .data (Ty.int .i64) (0 : Int))], []⟩ : St)))) := by kernel_rfl
theorem lvc90_0 (x : (List Int)) (y : (List Int))  (i0 : Int) (v0 : Unit) (m : Nat) (K : X → St → Prop) : awp C90 (L90 x y) ann90 (loopAt (bodyOf Go.Proofs.Tryz.f90) 0) (⟨[(0, .data (Ty.sl (Ty.int .i64)) x), (1, .data (Ty.sl (Ty.int .i64)) y), (5, .data (Ty.int .i64) i0)], []⟩ : St) (thenW (fun s' => ∃ m', m' < m ∧ (L90 x y) 0 m' s' K) (exitN 0 (ann90 (behind 0)) K)) =
  (cond (decide (i0 < (x.length : Int))) ((0 ≤ i0) ∧ (i0 < (x.length : Int)) ∧ (0 ≤ i0) ∧ (i0 < (y.length : Int)) ∧ cond (!decide ((nth (t := (Ty.int .i64)) x i0) = (nth (t := (Ty.int .i64)) y i0))) (K .ret (⟨[(4, .data Ty.bool false)], []⟩ : St)) ((∃ m_, m_ < m ∧ (L90 x y) 0 m_ (⟨[(0, .data (Ty.sl (Ty.int .i64)) x), (1, .data (Ty.sl (Ty.int .i64)) y), (5, .data (Ty.int .i64) (wrap64 (i0 + (1 : Int))))], []⟩ : St) K))) (K (.exit 0) (⟨[], []⟩ : St))) := by kernel_rfl
theorem con90_ok : ConOk P 90 c90 := by
  refine con_okR (fn := Go.Proofs.Tryz.f90) (code := bodyOf Go.Proofs.Tryz.f90) (tab_ok tab_check cmp_check) consOk90 mixed Go.Proofs.Tryz.func90 rfl rfl fun args hp K h0 => ?_
  obtain ⟨a0, a1, rfl, rfl, h1⟩ := args2_elim h0
  obtain ⟨x, rfl, h2⟩ := withD_elim h1
  obtain ⟨y, rfl, h3⟩ := withD_elim h2
  obtain ⟨h_x, h_y, p0, hK⟩ := h3
  have h : ok (F.laws_eqIntS x y) (fun r => K (.data Ty.bool r) []) := ok_of_eq (F.laws_eqIntS_eq x y h_x h_y p0) hK
  refine ⟨⟨show (2 : Nat) ≤ 26 by decide, show (2 : Nat) ≤ 1000000 by decide⟩, ann90, (L90 x y), (.dat Ty.bool), (loopsN1 (i0 := 0) (by kernel_rfl) ?_), ?_⟩
  · clear h
    intro m_ s_ K_ h
    obtain ⟨hc0, i0, v0, rfl, hl0, rfl, hv0, h⟩ := (show LP90_0 x y m_ s_ K_ from h)
    rw [lvc90_0 x y i0 v0 _ K_]
    exact (loopI_step h (fun ht0 h => ⟨hl0, ⟨ht0, ⟨hl0, ⟨(ok_guard h).1, have g_12 := (ok_guard h).1; have h := (ok_guard h).2; (ok_cond h (fun b_13 h => (have h := ok_ret h; h)) (fun b_13 h => (loopI_next (fun m hm => (show LP90_0 x y m _ _ from ⟨hc0, hm⟩)) () rfl hl0 low0 ht0 (sm_len h_x) trivial (have h := ok_ret h; h))))⟩⟩⟩⟩) (fun h => (h trivial)))
  · rw [vc90 x y K]
    exact (ok_cond h (fun b_1 h => (have h := ok_ret h; h)) (fun b_1 h => (loopI_start (fun m hm => ⟨trivial, hm⟩) (0 : Int) () rfl (Int.natCast_nonneg 0) trivial (ok_then h (fun v0 h hv0 => (have h := ok_ret h; h)) (fun q0 h => (have h := ok_ret h; h))))))

/-! 67: loop.example/tablehouse/laws.eqBond -/
def c67 : Con := ⟨[.dat TBond, .dat TBond], fun args hp K => args2 (fun a0 a1 => withD TBond a0 fun x => withD TBond a1 fun y => (Sm TBond x) ∧ (Sm TBond y) ∧ (x = y) ∧ K (.data Ty.bool (true)) []) args hp⟩
def cons67 : Cons := [(89, c89), (90, c90)]
def inl67 : List (Nat × Inl) := []
@[reducible] def C67 : Ctx := ⟨tab, fun t => memN t cmps, cons67, 43, inl67, 0⟩
theorem consOk67 : ConsOk P C67 := by
  refine consOk_cons (enter_ok (fn := Go.Proofs.Tryz.f89) Go.Proofs.Tryz.func89 (by kernel_rfl) rfl) con89_ok ?_
  refine consOk_cons (enter_ok (fn := Go.Proofs.Tryz.f90) Go.Proofs.Tryz.func90 (by kernel_rfl) rfl) con90_ok ?_
  exact consOk_nil
def ann67 : Nat → List Dir
  | 0 => [.fixRow 2 TBond, .fixRow 3 TBond, .keep [2, 3]]
  | 1 => [.keep [2, 3, 9]]
  | 2 => [.keep [4]]
  | 3 => [.keep [2, 3, 14]]
  | 4 => [.keep [4]]
  | 5 => [.keep [2, 3, 20]]
  | 6 => [.keep [4]]
  | 7 => [.keep [2, 3, 25]]
  | 8 => [.keep [4]]
  | 9 => [.keep [2, 3, 31]]
  | 10 => [.keep [4]]
  | 11 => [.keep [2, 3, 36]]
  | 12 => [.keep [4]]
  | 13 => [.keep [42]]
  | 14 => [.keep [4]]
  | 15 => [.keep [4]]
  | _ => []
def L67 (x : (TBond).D) (y : (TBond).D) : Loops := fun id m st_ K => match id with
  | _ => False
theorem vc67 (x : (TBond).D) (y : (TBond).D) (K : AV → Hp → Prop) : awp C67 (L67 x y) ann67 (bodyOf Go.Proofs.Tryz.f67) ⟨argEnv 0 [.data TBond x, .data TBond y], []⟩ (outK tab Go.Proofs.Tryz.f67.results.toList (hasBox []) (resK (.dat Ty.bool) K)) =
  (cond (!decide (x.1 = y.1)) (K (.data Ty.bool false) []) (cond (!decide (x.2.1 = y.2.1)) (K (.data Ty.bool false) []) ((Sm (Ty.sl (Ty.int .i64)) x.2.2.1) ∧ (Sm (Ty.sl (Ty.int .i64)) y.2.2.1) ∧ (x.2.2.1 = y.2.2.1) ∧ cond (!(true)) (K (.data Ty.bool false) []) (cond (!decide (x.2.2.2.1 = y.2.2.2.1)) (K (.data Ty.bool false) []) ((Sm (Ty.sl (Ty.int .i64)) x.2.2.2.2.1) ∧ (Sm (Ty.sl (Ty.int .i64)) y.2.2.2.2.1) ∧ (x.2.2.2.2.1 = y.2.2.2.2.1) ∧ cond (!(true)) (K (.data Ty.bool false) []) (cond (!(Ty.beq Ty.bool x.2.2.2.2.2.1 y.2.2.2.2.2.1)) (K (.data Ty.bool false) []) ((Sm (Ty.sl TPart) x.2.2.2.2.2.2.1) ∧ (Sm (Ty.sl TPart) y.2.2.2.2.2.2.1) ∧ (x.2.2.2.2.2.2.1 = y.2.2.2.2.2.2.1) ∧ cond (!(true)) (K (.data Ty.bool false) []) (K (.data Ty.bool true) [])))))))) := by kernel_rfl
theorem con67_ok : ConOk P 67 c67 := by
  refine con_okR (fn := Go.Proofs.Tryz.f67) (code := bodyOf Go.Proofs.Tryz.f67) (tab_ok tab_check cmp_check) consOk67 mixed Go.Proofs.Tryz.func67 rfl rfl fun args hp K h0 => ?_
  obtain ⟨a0, a1, rfl, rfl, h1⟩ := args2_elim h0
  obtain ⟨x, rfl, h2⟩ := withD_elim h1
  obtain ⟨y, rfl, h3⟩ := withD_elim h2
  obtain ⟨h_x, h_y, p0, hK⟩ := h3
  have h : ok (F.laws_eqBond x y) (fun r => K (.data Ty.bool r) []) := ok_of_eq (F.laws_eqBond_eq x y h_x h_y p0) hK
  refine ⟨⟨show (2 : Nat) ≤ 43 by decide, show (2 : Nat) ≤ 1000000 by decide⟩, ann67, (L67 x y), (.dat Ty.bool), (no_loops (by kernel_rfl)), ?_⟩
  · rw [vc67 x y K]
    exact (ok_cond h (fun b_1 h => (have h := ok_ret h; h)) (fun b_1 h => (ok_cond h (fun b_2 h => (have h := ok_ret h; h)) (fun b_2 h => ⟨h_x.2.2.1, ⟨h_y.2.2.1, ⟨(ok_guard h).1, have g_3 := (ok_guard h).1; have h := (ok_guard h).2; (ok_cond h (fun b_4 h => (have h := ok_ret h; h)) (fun b_4 h => (ok_cond h (fun b_5 h => (have h := ok_ret h; h)) (fun b_5 h => ⟨h_x.2.2.2.2.1, ⟨h_y.2.2.2.2.1, ⟨(ok_guard h).1, have g_6 := (ok_guard h).1; have h := (ok_guard h).2; (cond_f (unf (bnf b_4)) (ok_cond h (fun b_8 h => (have h := ok_ret h; h)) (fun b_8 h => ⟨h_x.2.2.2.2.2.2.1, ⟨h_y.2.2.2.2.2.2.1, ⟨(ok_guard h).1, have g_9 := (ok_guard h).1; have h := (ok_guard h).2; (cond_f (unf (bnf b_4)) (have h := ok_ret h; h))⟩⟩⟩)))⟩⟩⟩))))⟩⟩⟩))))

/-! 29: loop.example/tablehouse/laws.eqBondS -/
def c29 : Con := ⟨[.dat (Ty.sl TBond), .dat (Ty.sl TBond)], fun args hp K => args2 (fun a0 a1 => withD (Ty.sl TBond) a0 fun x => withD (Ty.sl TBond) a1 fun y => (Sm (Ty.sl TBond) x) ∧ (Sm (Ty.sl TBond) y) ∧ (x = y) ∧ K (.data Ty.bool (true)) []) args hp⟩
def cons29 : Cons := [(67, c67)]
def inl29 : List (Nat × Inl) := []
@[reducible] def C29 : Ctx := ⟨tab, fun t => memN t cmps, cons29, 27, inl29, 0⟩
theorem consOk29 : ConsOk P C29 := by
  refine consOk_cons (enter_ok (fn := Go.Proofs.Tryz.f67) Go.Proofs.Tryz.func67 (by kernel_rfl) rfl) con67_ok ?_
  exact consOk_nil
def ann29 : Nat → List Dir
  | 0 => [.keep [0, 1]]
  | 1 => [.keep [0, 1, 10]]
  | 2 => [.keep [4]]
  | 3 => [.keep [0, 1, 5]]
  | 4 => [.keep [0, 1, 5, 14]]
  | 5 => [.keep [0, 1, 5]]
  | 6 => [.keep [0, 1, 5, 26]]
  | 7 => [.keep [4]]
  | 8 => [.keep [4]]
  | 100000 => [.keep []]
  | _ => []
@[reducible] def LP29_0 (x : (List (TBond).D)) (y : (List (TBond).D)) (m : Nat) (st_ : St) (K : X → St → Prop) : Prop := (True) ∧ LoopI (fun (i0 : Int) (v0 : Unit) => (⟨[(0, .data (Ty.sl TBond) x), (1, .data (Ty.sl TBond) y), (5, .data (Ty.int .i64) i0)], []⟩ : St)) (0 : Int) (x.length : Int) (F.laws_eqBondS_l0 x y) (fun v0 : Unit => True) (outD (fun v0 : Unit => True → K (.exit 0) (⟨[], []⟩ : St)) (fun q0 : Unit => K .ret (⟨[(4, .data Ty.bool false)], []⟩ : St))) m st_
def L29 (x : (List (TBond).D)) (y : (List (TBond).D)) : Loops := fun id m st_ K => match id with
  | 0 => LP29_0 x y m st_ K
  | _ => False
theorem vc29 (x : (List (TBond).D)) (y : (List (TBond).D)) (K : AV → Hp → Prop) : awp C29 (L29 x y) ann29 (bodyOf Go.Proofs.Tryz.f29) ⟨argEnv 0 [.data (Ty.sl TBond) x, .data (Ty.sl TBond) y], []⟩ (outK tab Go.Proofs.Tryz.f29.results.toList (hasBox []) (resK (.dat Ty.bool) K)) =
  (cond (!decide ((x.length : Int) = (y.length : Int))) (K (.data Ty.bool false) []) ((∃ m_, (True) ∧ LoopI (fun (i0 : Int) (v0 : Unit) => (⟨[(0, .data (Ty.sl TBond) x), (1, .data (Ty.sl TBond) y), (5, .data (Ty.int .i64) i0)], []⟩ : St)) (0 : Int) (x.length : Int) (F.laws_eqBondS_l0 x y) (fun v0 : Unit => True) (outD (fun v0 : Unit => True → K (.data Ty.bool true) []) (fun q0 : Unit => K (.data Ty.bool false) [])) m_ (⟨[(0, .data (Ty.sl TBond) x), (1, .data (Ty.sl TBond) y), (5, .data (Ty.int .i64) (0 : Int))], []⟩ : St)))) := by kernel_rfl
theorem lvc29_0 (x : (List (TBond).D)) (y : (List (TBond).D))  (i0 : Int) (v0 : Unit) (m : Nat) (K : X → St → Prop) : awp C29 (L29 x y) ann29 (loopAt (bodyOf Go.Proofs.Tryz.f29) 0) (⟨[(0, .data (Ty.sl TBond) x), (1, .data (Ty.sl TBond) y), (5, .data (Ty.int .i64) i0)], []⟩ : St) (thenW (fun s' => ∃ m', m' < m ∧ (L29 x y) 0 m' s' K) (exitN 0 (ann29 (behind 0)) K)) =
  (cond (decide (i0 < (x.length : Int))) ((0 ≤ i0) ∧ (i0 < (x.length : Int)) ∧ (0 ≤ i0) ∧ (i0 < (y.length : Int)) ∧ (Sm TBond (nth (t := TBond) x i0)) ∧ (Sm TBond (nth (t := TBond) y i0)) ∧ ((nth (t := TBond) x i0) = (nth (t := TBond) y i0)) ∧ cond (!(true)) (K .ret (⟨[(4, .data Ty.bool false)], []⟩ : St)) ((∃ m_, m_ < m ∧ (L29 x y) 0 m_ (⟨[(0, .data (Ty.sl TBond) x), (1, .data (Ty.sl TBond) y), (5, .data (Ty.int .i64) (wrap64 (i0 + (1 : Int))))], []⟩ : St) K))) (K (.exit 0) (⟨[], []⟩ : St))) := by kernel_rfl
theorem con29_ok : ConOk P 29 c29 := by
  refine con_okR (fn := Go.Proofs.Tryz.f29) (code := bodyOf Go.Proofs.Tryz.f29) (tab_ok tab_check cmp_check) consOk29 mixed Go.Proofs.Tryz.func29 rfl rfl fun args hp K h0 => ?_
  obtain ⟨a0, a1, rfl, rfl, h1⟩ := args2_elim h0
  obtain ⟨x, rfl, h2⟩ := withD_elim h1
  obtain ⟨y, rfl, h3⟩ := withD_elim h2
  obtain ⟨h_x, h_y, p0, hK⟩ := h3
  have h : ok (F.laws_eqBondS x y) (fun r => K (.data Ty.bool r) []) := ok_of_eq (F.laws_eqBondS_eq x y h_x h_y p0) hK
  refine ⟨⟨show (2 : Nat) ≤ 27 by decide, show (2 : Nat) ≤ 1000000 by decide⟩, ann29, (L29 x y), (.dat Ty.bool), (loopsN1 (i0 := 0) (by kernel_rfl) ?_), ?_⟩
  · clear h
    intro m_ s_ K_ h
    obtain ⟨hc0, i0, v0, rfl, hl0, rfl, hv0, h⟩ := (show LP29_0 x y m_ s_ K_ from h)
    rw [lvc29_0 x y i0 v0 _ K_]
    exact (loopI_step h (fun ht0 h => ⟨hl0, ⟨ht0, ⟨hl0, ⟨(ok_guard h).1, have g_14 := (ok_guard h).1; have h := (ok_guard h).2; ⟨(sm_nth h_x i0), ⟨(sm_nth h_y i0), ⟨(ok_guard h).1, have g_15 := (ok_guard h).1; have h := (ok_guard h).2; (ok_cond h (fun b_16 h => (have h := ok_ret h; h)) (fun b_16 h => (loopI_next (fun m hm => (show LP29_0 x y m _ _ from ⟨hc0, hm⟩)) () rfl hl0 low0 ht0 (sm_len h_x) trivial (have h := ok_ret h; h))))⟩⟩⟩⟩⟩⟩⟩) (fun h => (h trivial)))
  · rw [vc29 x y K]
    exact (ok_cond h (fun b_1 h => (have h := ok_ret h; h)) (fun b_1 h => (loopI_start (fun m hm => ⟨trivial, hm⟩) (0 : Int) () rfl (Int.natCast_nonneg 0) trivial (ok_then h (fun v0 h hv0 => (have h := ok_ret h; h)) (fun q0 h => (have h := ok_ret h; h))))))

/-! 5: loop.example/tablehouse/laws.FnExactBondsHold -/
def c5 : Con := ⟨[.dat (Ty.sl TTable), .dat (Ty.sl TBond)], fun args hp K => args2 (fun a0 a1 => withD (Ty.sl TTable) a0 fun aTables => withD (Ty.sl TBond) a1 fun aBonds => (Ln (Ty.sl TTable) aTables) ∧ (Ln (Ty.sl TBond) aBonds) ∧ K (.data Ty.bool (true)) []) args hp⟩
def cons5 : Cons := [(7, c7), (10, c10), (14, c14), (25, c25), (26, c26), (27, c27), (28, c28), (29, c29)]
def inl5 : List (Nat × Inl) := []
@[reducible] def C5 : Ctx := ⟨tab, fun t => memN t cmps, cons5, 45, inl5, 0⟩
theorem consOk5 : ConsOk P C5 := by
  refine consOk_cons (enter_ok (fn := Go.Proofs.Tryz.f7) Go.Proofs.Tryz.func7 (by kernel_rfl) rfl) con7_ok ?_
  refine consOk_cons (enter_ok (fn := Go.Proofs.Tryz.f10) Go.Proofs.Tryz.func10 (by kernel_rfl) rfl) con10_ok ?_
  refine consOk_cons (enter_ok (fn := Go.Proofs.Tryz.f14) Go.Proofs.Tryz.func14 (by kernel_rfl) rfl) con14_ok ?_
  refine consOk_cons (enter_ok (fn := Go.Proofs.Tryz.f25) Go.Proofs.Tryz.func25 (by kernel_rfl) rfl) con25_ok ?_
  refine consOk_cons (enter_ok (fn := Go.Proofs.Tryz.f26) Go.Proofs.Tryz.func26 (by kernel_rfl) rfl) con26_ok ?_
  refine consOk_cons (enter_ok (fn := Go.Proofs.Tryz.f27) Go.Proofs.Tryz.func27 (by kernel_rfl) rfl) con27_ok ?_
  refine consOk_cons (enter_ok (fn := Go.Proofs.Tryz.f28) Go.Proofs.Tryz.func28 (by kernel_rfl) rfl) con28_ok ?_
  refine consOk_cons (enter_ok (fn := Go.Proofs.Tryz.f29) Go.Proofs.Tryz.func29 (by kernel_rfl) rfl) con29_ok ?_
  exact consOk_nil
def ann5 : Nat → List Dir
  | 0 => [.keep [0, 1]]
  | 1 => [.keep [0, 1, 5]]
  | 2 => [.keep [0, 1, 5]]
  | 3 => [.keep [0, 1, 5, 14]]
  | 4 => [.keep [4]]
  | 5 => [.keep [0, 1, 5]]
  | 6 => [.keep [0, 1, 19]]
  | 7 => [.keep [4]]
  | 8 => [.keep [0, 1, 6]]
  | 9 => [.keep [0, 1, 6, 7]]
  | 10 => [.keep [0, 1, 6, 7, 8]]
  | 11 => [.keep [0, 1, 6, 7, 8, 9]]
  | 12 => [.keep [0, 1, 7, 8, 34]]
  | 13 => [.keep [4]]
  | 14 => [.keep [1, 8, 39]]
  | 15 => [.keep [4]]
  | 16 => [.keep [44]]
  | 17 => [.keep [4]]
  | 18 => [.keep [4]]
  | _ => []
def L5 (aTables : (List (TTable).D)) (aBonds : (List (TBond).D)) : Loops := fun id m st_ K => match id with
  | _ => False
theorem vc5 (aTables : (List (TTable).D)) (aBonds : (List (TBond).D)) (K : AV → Hp → Prop) : awp C5 (L5 aTables aBonds) ann5 (bodyOf Go.Proofs.Tryz.f5) ⟨argEnv 0 [.data (Ty.sl TTable) aTables, .data (Ty.sl TBond) aBonds], []⟩ (outK tab Go.Proofs.Tryz.f5.results.toList (hasBox []) (resK (.dat Ty.bool) K)) =
  ((Ln (Ty.sl TTable) aTables) ∧ (0 ≤ (1048576 : Int)) ∧ ((1048576 : Int) ≤ 1048576) ∧ cond (decide ((M.szS M.szTable aTables (1048576 : Int)) < (0 : Int))) (K (.data Ty.bool true) []) ((Ln (Ty.sl TBond) aBonds) ∧ (0 ≤ (M.szS M.szTable aTables (1048576 : Int))) ∧ ((M.szS M.szTable aTables (1048576 : Int)) ≤ 1048576) ∧ cond (decide ((M.szS M.szBond aBonds (M.szS M.szTable aTables (1048576 : Int))) < (0 : Int))) (K (.data Ty.bool true) []) ((Sm (Ty.sl TTable) aTables) ∧ (∀ r_8_1 : (List (TTable).D), r_8_1 = (aTables) → (Sm (Ty.sl TBond) aBonds) ∧ (∀ r_8_3 : (List (TBond).D), r_8_3 = (aBonds) → (Sm (Ty.sl TTable) r_8_1) ∧ (Sm (Ty.sl TBond) r_8_3) ∧ (Sm (Ty.sl TTable) aTables) ∧ (∀ r_9_1 : (List (TTable).D), r_9_1 = (aTables) → (Sm (Ty.sl TBond) aBonds) ∧ (∀ r_10_1 : (List (TBond).D), r_10_1 = (aBonds) → (Sm (Ty.sl TTable) r_9_1) ∧ (Sm (Ty.sl TBond) r_10_1) ∧ cond (!(Ty.beq Ty.bool (M.bondsHold r_9_1 r_10_1) (M.bondsHold r_8_1 r_8_3))) (K (.data Ty.bool false) []) ((Sm (Ty.sl TTable) aTables) ∧ (∀ r_14_2 : (List (TTable).D), r_14_2 = (aTables) → (Sm (Ty.sl TTable) r_9_1) ∧ (Sm (Ty.sl TTable) r_14_2) ∧ (r_9_1 = r_14_2) ∧ cond (!(true)) (K (.data Ty.bool false) []) ((Sm (Ty.sl TBond) aBonds) ∧ (∀ r_16_2 : (List (TBond).D), r_16_2 = (aBonds) → (Sm (Ty.sl TBond) r_10_1) ∧ (Sm (Ty.sl TBond) r_16_2) ∧ (r_10_1 = r_16_2) ∧ cond (!(true)) (K (.data Ty.bool false) []) (K (.data Ty.bool true) [])))))))))))) := by kernel_rfl
theorem con5_ok : ConOk P 5 c5 := by
  refine con_okR (fn := Go.Proofs.Tryz.f5) (code := bodyOf Go.Proofs.Tryz.f5) (tab_ok tab_check cmp_check) consOk5 mixed Go.Proofs.Tryz.func5 rfl rfl fun args hp K h0 => ?_
  obtain ⟨a0, a1, rfl, rfl, h1⟩ := args2_elim h0
  obtain ⟨aTables, rfl, h2⟩ := withD_elim h1
  obtain ⟨aBonds, rfl, h3⟩ := withD_elim h2
  obtain ⟨h_aTables, h_aBonds, hK⟩ := h3
  have h : ok (F.laws_FnExactBondsHold aTables aBonds) (fun r => K (.data Ty.bool r) []) := ok_of_eq (F.laws_FnExactBondsHold_eq aTables aBonds h_aTables h_aBonds) hK
  refine ⟨⟨show (2 : Nat) ≤ 45 by decide, show (2 : Nat) ≤ 1000000 by decide⟩, ann5, (L5 aTables aBonds), (.dat Ty.bool), (no_loops (by kernel_rfl)), ?_⟩
  · rw [vc5 aTables aBonds K]
    exact ⟨h_aTables, ⟨(ok_guard h).1, have g_1 := (ok_guard h).1; have h := (ok_guard h).2; ⟨(ok_guard h).1, have g_2 := (ok_guard h).1; have h := (ok_guard h).2; (ok_cond h (fun b_3 h => (have h := ok_ret h; h)) (fun b_3 h => ⟨h_aBonds, ⟨(ok_guard h).1, have g_4 := (ok_guard h).1; have h := (ok_guard h).2; ⟨(ok_guard h).1, have g_5 := (ok_guard h).1; have h := (ok_guard h).2; (ok_cond h (fun b_6 h => (have h := ok_ret h; h)) (fun b_6 h => ⟨(ok_guard h).1, have g_7 := (ok_guard h).1; have h := (ok_guard h).2; (fun r_8_1 e_r_8_1 => have h := ok_let h r_8_1 e_r_8_1; ⟨(ok_guard h).1, have g_8 := (ok_guard h).1; have h := (ok_guard h).2; (fun r_8_3 e_r_8_3 => have h := ok_let h r_8_3 e_r_8_3; ⟨(ok_guard h).1, have g_9 := (ok_guard h).1; have h := (ok_guard h).2; ⟨(ok_guard h).1, have g_10 := (ok_guard h).1; have h := (ok_guard h).2; ⟨g_7, (fun r_9_1 e_r_9_1 => have h := ok_let h r_9_1 e_r_9_1; ⟨g_8, (fun r_10_1 e_r_10_1 => have h := ok_let h r_10_1 e_r_10_1; ⟨(ok_guard h).1, have g_11 := (ok_guard h).1; have h := (ok_guard h).2; ⟨(ok_guard h).1, have g_12 := (ok_guard h).1; have h := (ok_guard h).2; (ok_cond h (fun b_13 h => (have h := ok_ret h; h)) (fun b_13 h => ⟨g_7, (fun r_14_2 e_r_14_2 => have h := ok_let h r_14_2 e_r_14_2; ⟨g_11, ⟨(ok_guard h).1, have g_14 := (ok_guard h).1; have h := (ok_guard h).2; ⟨(ok_guard h).1, have g_15 := (ok_guard h).1; have h := (ok_guard h).2; (ok_cond h (fun b_16 h => (have h := ok_ret h; h)) (fun b_16 h => ⟨g_8, (fun r_16_2 e_r_16_2 => have h := ok_let h r_16_2 e_r_16_2; ⟨g_12, ⟨(ok_guard h).1, have g_17 := (ok_guard h).1; have h := (ok_guard h).2; ⟨(ok_guard h).1, have g_18 := (ok_guard h).1; have h := (ok_guard h).2; (cond_f (unf (bnf b_16)) (have h := ok_ret h; h))⟩⟩⟩)⟩))⟩⟩⟩)⟩))⟩⟩)⟩)⟩⟩⟩)⟩)⟩))⟩⟩⟩))⟩⟩⟩

end Go.AE
