/- Contracts. -/
import Derived.Test.YtnhbbkkbpenlbaaGreatAeSeat
import Derived.Test.YtnhbbkkbpenlbaaGreatAeEq
import Derived.Test.YtnhbbkkbpenlbaaGreatAeInl
import Derived.Test.YtnhbbkkbpenlbaaGreatAeC0
namespace Go.AE
open Go Go.RowKit Go.Proofs.Tryz
set_option maxRecDepth 100000
set_option maxHeartbeats 2000000
set_option linter.unusedVariables false
def c82 : Con := ⟨[.dat TTb], fun args hp K => args1 (fun a0 => withD TTb a0 fun tables => (Sm TTb tables) ∧ K (dB (M.tablesOk tables)) []) args hp, .plain⟩
def cons82 : Cons := [(119, c119)]
@[reducible] def C82 : Ctx := ⟨tab, fun t => memN t cmps, cons82, 34, [], 0, false⟩
theorem consOk82 : ConsOk P C82 := by
 refine consOk_cons (enter_ok (fn := f119) func119 (by kernel_rfl) rfl) con119_ok ?_
 exact consOk_nil
def ann82 : Nat → List Dir
 | 0 => [.keep [0]]
 | 1 => [.keep [0, 3]]
 | 2 => [.keep [0, 3, 7]]
 | 3 => [.keep [0, 3]]
 | 4 => [.keep [0, 3, 30]]
 | 5 => [.keep [2]]
 | 6 => [.keep [2]]
 | 100000 => [.keep [0]]
 | _ => []
@[reducible] def LP82_0 (tables : LTb) (m : Nat) (st_ : St) (K : KX) : Prop := (True) ∧ LoopE (t := TTable) (fun (i0 : Int) (v0 : Unit) => (⟨[(0, .data TTb tables), (3, dI i0)], []⟩ : St)) tables (F.spec_TablesOk_l0 tables) (fun v0 : Unit => True) (outD (fun v0 : Unit => True → K (.exit 0) (⟨[(0, .data TTb tables)], []⟩ : St)) (fun q0 : Unit => K .ret (⟨[(2, dB false)], []⟩ : St))) m st_
def L82 (tables : LTb) : Loops := fun id m st_ K => match id with
 | 0 => LP82_0 tables m st_ K
 | _ => False
theorem vc82 (tables : LTb) (K : KA) : awp C82 (L82 tables) ann82 (bodyOf f82) ⟨argEnv 0 [.data TTb tables], []⟩ (outK tab false f82.results.toList (hasBox []) (resK (.dat Ty.bool) K)) =
 ((∃ m_, (True) ∧ LoopE (t := TTable) (fun (i0 : Int) (v0 : Unit) => (⟨[(0, .data TTb tables), (3, dI i0)], []⟩ : St)) tables (F.spec_TablesOk_l0 tables) (fun v0 : Unit => True) (outD (fun v0 : Unit => True → K (dB (decide ((tables.length : Int) ≤ Z3))) []) (fun q0 : Unit => K (dB false) [])) m_ (⟨[(0, .data TTb tables), (3, dI Z0)], []⟩ : St))) := by kernel_rfl
theorem lvc82_0 (tables : LTb)  (i0 : Int) (v0 : Unit) (m : Nat) (K : KX) : awp C82 (L82 tables) ann82 (loopAt (bodyOf f82) 0) (⟨[(0, .data TTb tables), (3, dI i0)], []⟩ : St) (thenW (fun s' => ∃ m', m' < m ∧ (L82 tables) 0 m' s' K) (exitN 0 (ann82 (behind 0)) K)) =
 (cond (decide (i0 < (tables.length : Int))) ((0 ≤ i0) ∧ (i0 < (tables.length : Int)) ∧ cond ((decide (Z6 < ((((nT tables i0).2).1).length : Int))) == false) ((0 ≤ i0) ∧ (i0 < (tables.length : Int)) ∧ (0 ≤ i0) ∧ (i0 < (tables.length : Int)) ∧ (Sm TCS ((nT tables i0).1)) ∧ (Sm (Ty.sl TVS) (((nT tables i0).2).1)) ∧ cond (!(M.rowsOk ((nT tables i0).1) (((nT tables i0).2).1))) (K .ret (⟨[(2, dB false)], []⟩ : St)) ((∃ m_, m_ < m ∧ (L82 tables) 0 m_ (⟨[(0, .data TTb tables), (3, dI (wrap64 (i0 + Z1)))], []⟩ : St) K))) (K .ret (⟨[(2, dB false)], []⟩ : St))) (K (.exit 0) (⟨[(0, .data TTb tables)], []⟩ : St))) := by kernel_rfl
theorem con82_ok : ConOk P 82 c82 := by
 refine con_okR (fn := f82) (code := bodyOf f82) (tab_ok tab_check cmp_check) consOk82 mixed func82 rfl rfl fun args hp K h0 => ?_
 obtain ⟨a0, rfl, rfl, h1⟩ := args1_elim h0
 obtain ⟨tables, rfl, h2⟩ := withD_elim h1
 obtain ⟨h_tables, hK⟩ := h2
 have h : ok (F.spec_TablesOk tables) (fun r => K (dB r) []) := ok_of_eq (F.spec_TablesOk_eq tables h_tables) hK
 refine ⟨⟨show (1 : Nat) ≤ 34 by decide, show (1 : Nat) ≤ 1000000 by decide⟩, ann82, (L82 tables), (.dat Ty.bool), (loopsN1 (i0 := 0) (by kernel_rfl) ?_), ?_⟩
 ·clear h
  intro m_ s_ K_ h
  obtain ⟨hc0, i0, v0, rfl, hl0, rfl, hv0, h⟩ := (show LP82_0 tables m_ s_ K_ from h)
  rw [lvc82_0 tables i0 v0 _ K_]
  exact (loopE_step (t := TTable) hl0 h (fun ht0 h => ⟨hl0, ⟨ht0, (ok_cond h (fun b_11 h => ⟨hl0, ⟨ht0, ⟨hl0, ⟨ht0, ⟨(sm_nth h_tables i0).1, ⟨(sm_nth h_tables i0).2.1, (ok_cond h (fun b_12 h => (ok_ret h :)) (fun b_12 h => (loopE_next (t := TTable) (fun m hm => (show LP82_0 tables m _ _ from ⟨hc0, hm⟩)) () rfl hl0 ht0 (sm_len h_tables) trivial (ok_ret h :))))⟩⟩⟩⟩⟩⟩) (fun b_11 h => (ok_ret h :)))⟩⟩) (fun h => (h trivial)))
 ·rw [vc82 tables K]
  exact (loopE_start (t := TTable) (fun m hm => ⟨trivial, hm⟩) () rfl trivial (ok_then h (fun v0 h hv0 => (ok_ret h :)) (fun q0 h => (ok_ret h :))))
def c37 : Con := ⟨[.dat TTb, .dat TSS], fun args hp K => args2 (fun a0 a1 => withD TTb a0 fun tables => withD TSS a1 fun plan => (Sm TTb tables) ∧ (Sm TSS plan) ∧ K (dB (M.planOk tables plan)) []) args hp, .plain⟩
def cons37 : Cons := [(62, c62), (63, c63), (82, c82)]
@[reducible] def C37 : Ctx := ⟨tab, fun t => memN t cmps, cons37, 23, [], 0, false⟩
theorem consOk37 : ConsOk P C37 := by
 refine consOk_cons (enter_ok (fn := f62) func62 (by kernel_rfl) rfl) con62_ok ?_
 refine consOk_cons (enter_ok (fn := f63) func63 (by kernel_rfl) rfl) con63_ok ?_
 refine consOk_cons (enter_ok (fn := f82) func82 (by kernel_rfl) rfl) con82_ok ?_
 exact consOk_nil
def ann37 : Nat → List Dir
 | 0 => [.keep [0, 1]]
 | 1 => [.keep [0, 1, 6]]
 | 2 => [.keep [4]]
 | _ => []
def L37 (tables : LTb) (plan : LS) : Loops := fun id m st_ K => match id with
 | _ => False
theorem vc37 (tables : LTb) (plan : LS) (K : KA) : awp C37 (L37 tables plan) ann37 (bodyOf f37) ⟨argEnv 0 [.data TTb tables, .data TSS plan], []⟩ (outK tab false f37.results.toList (hasBox []) (resK (.dat Ty.bool) K)) =
 ((Sm TTb tables) ∧ (Sm TSS plan) ∧ (∀ r_1_2 : (List LC) × Bool, r_1_2 = (M.planAll tables plan) → cond (r_1_2.2 == true) ((Sm TTb tables) ∧ cond ((M.tablesOk tables) == true) (K (dB (M.inR (plan.length : Int) Z1 Z6)) []) (K (dB false) [])) (K (dB false) []))) := by kernel_rfl
theorem con37_ok : ConOk P 37 c37 := by
 refine con_okR (fn := f37) (code := bodyOf f37) (tab_ok tab_check cmp_check) consOk37 mixed func37 rfl rfl fun args hp K h0 => ?_
 obtain ⟨a0, a1, rfl, rfl, h1⟩ := args2_elim h0
 obtain ⟨tables, rfl, h2⟩ := withD_elim h1
 obtain ⟨plan, rfl, h3⟩ := withD_elim h2
 obtain ⟨h_tables, h_plan, hK⟩ := h3
 have h : ok (F.spec_PlanOk tables plan) (fun r => K (dB r) []) := ok_of_eq (F.spec_PlanOk_eq tables plan h_tables h_plan) hK
 refine ⟨⟨show (2 : Nat) ≤ 23 by decide, show (2 : Nat) ≤ 1000000 by decide⟩, ann37, (L37 tables plan), (.dat Ty.bool), (no_loops (by kernel_rfl)), ?_⟩
 ·rw [vc37 tables plan K]
  exact ⟨h_tables, ⟨h_plan, (fun r_1_2 e_r_1_2 => have h := ok_let h r_1_2 e_r_1_2; (ok_cond h (fun b_1 h => ⟨h_tables, (ok_cond h (fun b_2 h => (ok_ret h :)) (fun b_2 h => (ok_ret h :)))⟩) (fun b_1 h => (ok_ret h :))))⟩⟩
def c38 : Con := ⟨[.dat TSS], fun args hp K => args1 (fun a0 => withD TSS a0 fun plan => (Sm TSS plan) ∧ (∀ r : LS, r = (plan) → K (.own 0 none) [(0, .arr false TStep r)])) args hp, .plain⟩
def cons38 : Cons := []
@[reducible] def C38 : Ctx := ⟨tab, fun t => memN t cmps, cons38, 32, [], 0, false⟩
theorem consOk38 : ConsOk P C38 := by
 exact consOk_nil
def ann38 : Nat → List Dir
 | 0 => [.keep [0]]
 | 1 => [.keep [0, 3]]
 | 2 => [.keep [0, 3, 4]]
 | 3 => [.keep [0, 3, 4, 10]]
 | 4 => [.keep [0, 3, 4]]
 | 5 => [.keep [0, 3, 4, 5]]
 | 6 => [.keep [0, 3, 4, 5]]
 | 7 => [.keep [0, 3, 4, 5]]
 | 8 => [.keep [0, 3, 4]]
 | 9 => [.keep [2]]
 | 100000 => [.keep [3]]
 | _ => []
@[reducible] def LP38_0 (plan : LS) (m : Nat) (st_ : St) (K : KX) : Prop := (True) ∧ LoopE (t := TStep) (fun (i0 : Int) (v0 : LS) => (⟨[(0, .data TSS plan), (3, .own 6 none), (4, dI i0)], [(6, .arr false TStep v0)]⟩ : St)) plan (F.spec_l7Own_l0 plan) (fun v0 : LS => True) (outD (fun v0 : LS => True → K (.exit 0) (⟨[(3, .own 6 none)], [(6, .arr false TStep v0)]⟩ : St)) (fun _ => False)) m st_
def L38 (plan : LS) : Loops := fun id m st_ K => match id with
 | 0 => LP38_0 plan m st_ K
 | _ => False
theorem vc38 (plan : LS) (K : KA) : awp C38 (L38 plan) ann38 (bodyOf f38) ⟨argEnv 0 [.data TSS plan], []⟩ (outK tab false f38.results.toList (hasBox []) (resK .raw K)) =
 ((∃ m_, (True) ∧ LoopE (t := TStep) (fun (i0 : Int) (v0 : LS) => (⟨[(0, .data TSS plan), (3, .own 6 none), (4, dI i0)], [(6, .arr false TStep v0)]⟩ : St)) plan (F.spec_l7Own_l0 plan) (fun v0 : LS => True) (outD (fun v0 : LS => True → K (.own 0 none) [(0, .arr false TStep v0)]) (fun _ => False)) m_ (⟨[(0, .data TSS plan), (3, .own 6 none), (4, dI Z0)], [(6, .arr false TStep [])]⟩ : St))) := by kernel_rfl
theorem lvc38_0 (plan : LS)  (i0 : Int) (v0 : LS) (m : Nat) (K : KX) : awp C38 (L38 plan) ann38 (loopAt (bodyOf f38) 0) (⟨[(0, .data TSS plan), (3, .own 6 none), (4, dI i0)], [(6, .arr false TStep v0)]⟩ : St) (thenW (fun s' => ∃ m', m' < m ∧ (L38 plan) 0 m' s' K) (exitN 0 (ann38 (behind 0)) K)) =
 (cond (decide (i0 < (plan.length : Int))) ((0 ≤ i0) ∧ (i0 < (plan.length : Int)) ∧ ((([] : List TPart.D).length + ((((((nS plan i0).2).2).2).2).1).length) * 48 ≤ lim) ∧ ((([] : List TInt.D).length + (((((((nS plan i0).2).2).2).2).2).1).length) * 8 ≤ lim) ∧ ((v0.length + ([((nS plan i0).1, (((nS plan i0).2).1, ((((nS plan i0).2).2).1, (((((nS plan i0).2).2).2).1, (([] ++ (((((nS plan i0).2).2).2).2).1), (([] ++ ((((((nS plan i0).2).2).2).2).2).1), ()))))))] : List TStep.D).length) * 80 ≤ lim) ∧ (∃ m_, m_ < m ∧ (L38 plan) 0 m_ (⟨[(0, .data TSS plan), (3, .own 6 none), (4, dI (wrap64 (i0 + Z1)))], [(6, .arr false TStep (v0 ++ [((nS plan i0).1, (((nS plan i0).2).1, ((((nS plan i0).2).2).1, (((((nS plan i0).2).2).2).1, (([] ++ (((((nS plan i0).2).2).2).2).1), (([] ++ ((((((nS plan i0).2).2).2).2).2).1), ()))))))]))]⟩ : St) K)) (K (.exit 0) (⟨[(3, .own 6 none)], [(6, .arr false TStep v0)]⟩ : St))) := by kernel_rfl
theorem con38_ok : ConOk P 38 c38 := by
 refine con_okR (fn := f38) (code := bodyOf f38) (tab_ok tab_check cmp_check) consOk38 mixed func38 rfl rfl fun args hp K h0 => ?_
 obtain ⟨a0, rfl, rfl, h1⟩ := args1_elim h0
 obtain ⟨plan, rfl, h2⟩ := withD_elim h1
 obtain ⟨h_plan, hK⟩ := h2
 have h : ok (F.spec_l7Own plan) (fun r => K (.own 0 none) [(0, .arr false TStep r)]) := ok_of_eq (F.spec_l7Own_eq plan h_plan) (hK _ rfl)
 refine ⟨⟨show (1 : Nat) ≤ 32 by decide, show (1 : Nat) ≤ 1000000 by decide⟩, ann38, (L38 plan), .raw, (loopsN1 (i0 := 0) (by kernel_rfl) ?_), ?_⟩
 ·clear h
  intro m_ s_ K_ h
  obtain ⟨hc0, i0, v0, rfl, hl0, rfl, hv0, h⟩ := (show LP38_0 plan m_ s_ K_ from h)
  rw [lvc38_0 plan i0 v0 _ K_]
  exact (loopE_step (t := TStep) hl0 h (fun ht0 h => ⟨hl0, ⟨ht0, ⟨(sm_lim2 (sm_nil TPart) (sm_nth h_plan i0).2.2.2.2.1 rfl), ⟨(sm_lim2 (sm_nil TInt) (sm_nth h_plan i0).2.2.2.2.2.1 rfl), ⟨(ok_guard h).1, have h := (ok_guard h).2; (loopE_next (t := TStep) (fun m hm => (show LP38_0 plan m _ _ from ⟨hc0, hm⟩)) (v0 ++ [((nS plan i0).1, (((nS plan i0).2).1, ((((nS plan i0).2).2).1, (((((nS plan i0).2).2).2).1, (([] ++ (((((nS plan i0).2).2).2).2).1), (([] ++ ((((((nS plan i0).2).2).2).2).2).1), ()))))))]) rfl hl0 ht0 (sm_len h_plan) trivial (ok_ret h :))⟩⟩⟩⟩⟩) (fun h => (h trivial)))
 ·rw [vc38 plan K]
  exact (loopE_start (t := TStep) (fun m hm => ⟨trivial, hm⟩) [] rfl trivial (ok_then h (fun v0 h hv0 => (ok_ret h :)) (fun _ h => h.elim)))
def c51 : Con := ⟨[.dat TTb, .dat TGS], fun args hp K => args2 (fun a0 a1 => withD TTb a0 fun tables => withD TGS a1 fun guards => (Sm TTb tables) ∧ (Sm TGS guards) ∧ K (dB (M.guardsOk tables guards)) []) args hp, .plain⟩
def cons51 : Cons := [(62, c62), (82, c82), (95, c95)]
@[reducible] def C51 : Ctx := ⟨tab, fun t => memN t cmps, cons51, 53, [], 0, false⟩
theorem consOk51 : ConsOk P C51 := by
 refine consOk_cons (enter_ok (fn := f62) func62 (by kernel_rfl) rfl) con62_ok ?_
 refine consOk_cons (enter_ok (fn := f82) func82 (by kernel_rfl) rfl) con82_ok ?_
 refine consOk_cons (enter_ok (fn := f95) func95 (by kernel_rfl) rfl) con95_ok ?_
 exact consOk_nil
def ann51 : Nat → List Dir
 | 0 => [.keep [0, 1]]
 | 1 => [.keep [0, 1, 5]]
 | 2 => [.keep [0, 1, 5, 10]]
 | 3 => [.keep [0, 1, 5]]
 | 4 => [.fixRow 6 TGuard, .keep [0, 1, 5, 6]]
 | 5 => [.keep [0, 1, 5, 50]]
 | 6 => [.keep [4]]
 | 7 => [.keep [4]]
 | 100000 => [.keep [0]]
 | _ => []
@[reducible] def LP51_0 (tables : LTb) (guards : LG) (m : Nat) (st_ : St) (K : KX) : Prop := (True) ∧ LoopI (fun (i0 : Int) (v0 : Unit) => (⟨[(0, .data TTb tables), (1, .data TGS guards), (5, dI i0)], []⟩ : St)) Z0 (guards.length : Int) (F.spec_GuardsOk_l0 tables guards) (fun v0 : Unit => True) (outD (fun v0 : Unit => True → K (.exit 0) (⟨[(0, .data TTb tables)], []⟩ : St)) (fun q0 : Unit => K .ret (⟨[(4, dB false)], []⟩ : St))) m st_
def L51 (tables : LTb) (guards : LG) : Loops := fun id m st_ K => match id with
 | 0 => LP51_0 tables guards m st_ K
 | _ => False
theorem vc51 (tables : LTb) (guards : LG) (K : KA) : awp C51 (L51 tables guards) ann51 (bodyOf f51) ⟨argEnv 0 [.data TTb tables, .data TGS guards], []⟩ (outK tab false f51.results.toList (hasBox []) (resK (.dat Ty.bool) K)) =
 ((∃ m_, (True) ∧ LoopI (fun (i0 : Int) (v0 : Unit) => (⟨[(0, .data TTb tables), (1, .data TGS guards), (5, dI i0)], []⟩ : St)) Z0 (guards.length : Int) (F.spec_GuardsOk_l0 tables guards) (fun v0 : Unit => True) (outD (fun v0 : Unit => True → (Sm TTb tables) ∧ K (dB (M.tablesOk tables)) []) (fun q0 : Unit => K (dB false) [])) m_ (⟨[(0, .data TTb tables), (1, .data TGS guards), (5, dI Z0)], []⟩ : St))) := by kernel_rfl
@[reducible] def S51l0_0 (tables : LTb) (guards : LG)  (i0 : Int) (v0 : Unit) (m : Nat) (K : KX) : Prop := (∃ m_, m_ < m ∧ (L51 tables guards) 0 m_ (⟨[(0, .data TTb tables), (1, .data TGS guards), (5, dI (wrap64 (i0 + Z1)))], []⟩ : St) K)
theorem lvc51_0 (tables : LTb) (guards : LG)  (i0 : Int) (v0 : Unit) (m : Nat) (K : KX) : awp C51 (L51 tables guards) ann51 (loopAt (bodyOf f51) 0) (⟨[(0, .data TTb tables), (1, .data TGS guards), (5, dI i0)], []⟩ : St) (thenW (fun s' => ∃ m', m' < m ∧ (L51 tables guards) 0 m' s' K) (exitN 0 (ann51 (behind 0)) K)) =
 (cond (decide (i0 < (guards.length : Int))) ((0 ≤ i0) ∧ (i0 < (guards.length : Int)) ∧ cond ((!(M.inR ((nG guards i0).1) Z0 (wrap64 ((tables.length : Int) - Z1)))) == false) ((0 ≤ (nG guards i0).1) ∧ ((nG guards i0).1 < (tables.length : Int)) ∧ (Sm TCS ((nT tables ((nG guards i0).1)).1)) ∧ (Sm TPS (((nG guards i0).2).1)) ∧ cond ((!decide ((M.exprKind ((nT tables ((nG guards i0).1)).1) (((nG guards i0).2).1)) = Z3)) == false) (cond ((decide (Z0 < i0)) == true) ((0 ≤ wrap64 (i0 - Z1)) ∧ (wrap64 (i0 - Z1) < (guards.length : Int)) ∧ cond (decide ((nG guards i0).1 ≤ (nG guards (wrap64 (i0 - Z1))).1)) (K .ret (⟨[(4, dB false)], []⟩ : St)) ((S51l0_0  tables guards i0 v0 m K))) ((S51l0_0  tables guards i0 v0 m K))) (K .ret (⟨[(4, dB false)], []⟩ : St))) (K .ret (⟨[(4, dB false)], []⟩ : St))) (K (.exit 0) (⟨[(0, .data TTb tables)], []⟩ : St))) := by kernel_rfl
theorem con51_ok : ConOk P 51 c51 := by
 refine con_okR (fn := f51) (code := bodyOf f51) (tab_ok tab_check cmp_check) consOk51 mixed func51 rfl rfl fun args hp K h0 => ?_
 obtain ⟨a0, a1, rfl, rfl, h1⟩ := args2_elim h0
 obtain ⟨tables, rfl, h2⟩ := withD_elim h1
 obtain ⟨guards, rfl, h3⟩ := withD_elim h2
 obtain ⟨h_tables, h_guards, hK⟩ := h3
 have h : ok (F.spec_GuardsOk tables guards) (fun r => K (dB r) []) := ok_of_eq (F.spec_GuardsOk_eq tables guards h_tables h_guards) hK
 refine ⟨⟨show (2 : Nat) ≤ 53 by decide, show (2 : Nat) ≤ 1000000 by decide⟩, ann51, (L51 tables guards), (.dat Ty.bool), (loopsN1 (i0 := 0) (by kernel_rfl) ?_), ?_⟩
 ·clear h
  intro m_ s_ K_ h
  obtain ⟨hc0, i0, v0, rfl, hl0, rfl, hv0, h⟩ := (show LP51_0 tables guards m_ s_ K_ from h)
  rw [lvc51_0 tables guards i0 v0 _ K_]
  exact (loopI_step h (fun ht0 h => ⟨hl0, ⟨ht0, (ok_cond h (fun b_19 h => ⟨(inR_lo (bnf (bgt b_19))), ⟨(inR_hi (bnf (bgt b_19))), ⟨(sm_nth h_tables ((nG guards i0).1)).1, ⟨(sm_nth h_guards i0).2.1, (ok_cond h (fun b_20 h => (ok_cond h (fun b_21 h => ⟨(ok_guard h).1, have h := (ok_guard h).2; ⟨(ok_guard h).1, have h := (ok_guard h).2; (ok_cond h (fun b_24 h => (ok_ret h :)) (fun b_24 h => (loopI_next (fun m hm => (show LP51_0 tables guards m _ _ from ⟨hc0, hm⟩)) () rfl hl0 low0 ht0 (sm_len h_guards) trivial (ok_ret h :))))⟩⟩) (fun b_21 h => (loopI_next (fun m hm => (show LP51_0 tables guards m _ _ from ⟨hc0, hm⟩)) () rfl hl0 low0 ht0 (sm_len h_guards) trivial (ok_ret h :))))) (fun b_20 h => (ok_ret h :)))⟩⟩⟩⟩) (fun b_19 h => (ok_ret h :)))⟩⟩) (fun h => (h trivial)))
 ·rw [vc51 tables guards K]
  exact (loopI_start (fun m hm => ⟨trivial, hm⟩) Z0 () rfl (Int.natCast_nonneg 0) trivial (ok_then h (fun v0 h hv0 => ⟨h_tables, (ok_ret h :)⟩) (fun q0 h => (ok_ret h :))))
def c68 : Con := ⟨[.dat TGS, .dat TInt], fun args hp K => args2 (fun a0 a1 => withD TGS a0 fun guards => withD TInt a1 fun table => (Sm TGS guards) ∧ K (dI (M.idx (t := TGuard) (fun g => decide (g.1 = table)) guards)) []) args hp, .plain⟩
def cons68 : Cons := []
@[reducible] def C68 : Ctx := ⟨tab, fun t => memN t cmps, cons68, 20, [], 0, false⟩
theorem consOk68 : ConsOk P C68 := by
 exact consOk_nil
def ann68 : Nat → List Dir
 | 0 => [.keep [0, 1]]
 | 1 => [.keep [0, 1, 5]]
 | 2 => [.keep [0, 1, 5, 9]]
 | 3 => [.keep [0, 1, 5]]
 | 4 => [.keep [0, 1, 5, 18]]
 | 5 => [.keep [4]]
 | 6 => [.keep [4]]
 | 100000 => [.keep []]
 | _ => []
@[reducible] def LP68_0 (guards : LG) (table : Int) (m : Nat) (st_ : St) (K : KX) : Prop := (True) ∧ LoopI (fun (i0 : Int) (v0 : Unit) => (⟨[(0, .data TGS guards), (1, dI table), (5, dI i0)], []⟩ : St)) Z0 (guards.length : Int) (F.spec_l27Guard_l0 guards table) (fun v0 : Unit => True) (outD (fun v0 : Unit => True → K (.exit 0) (⟨[], []⟩ : St)) (fun q0 : Int => K .ret (⟨[(4, dI q0)], []⟩ : St))) m st_
def L68 (guards : LG) (table : Int) : Loops := fun id m st_ K => match id with
 | 0 => LP68_0 guards table m st_ K
 | _ => False
theorem vc68 (guards : LG) (table : Int) (K : KA) : awp C68 (L68 guards table) ann68 (bodyOf f68) ⟨argEnv 0 [.data TGS guards, dI table], []⟩ (outK tab false f68.results.toList (hasBox []) (resK (.dat TInt) K)) =
 ((∃ m_, (True) ∧ LoopI (fun (i0 : Int) (v0 : Unit) => (⟨[(0, .data TGS guards), (1, dI table), (5, dI i0)], []⟩ : St)) Z0 (guards.length : Int) (F.spec_l27Guard_l0 guards table) (fun v0 : Unit => True) (outD (fun v0 : Unit => True → K (dI (-1 : Int)) []) (fun q0 : Int => K (dI q0) [])) m_ (⟨[(0, .data TGS guards), (1, dI table), (5, dI Z0)], []⟩ : St))) := by kernel_rfl
theorem lvc68_0 (guards : LG) (table : Int)  (i0 : Int) (v0 : Unit) (m : Nat) (K : KX) : awp C68 (L68 guards table) ann68 (loopAt (bodyOf f68) 0) (⟨[(0, .data TGS guards), (1, dI table), (5, dI i0)], []⟩ : St) (thenW (fun s' => ∃ m', m' < m ∧ (L68 guards table) 0 m' s' K) (exitN 0 (ann68 (behind 0)) K)) =
 (cond (decide (i0 < (guards.length : Int))) ((0 ≤ i0) ∧ (i0 < (guards.length : Int)) ∧ cond (decide ((nG guards i0).1 = table)) (K .ret (⟨[(4, dI i0)], []⟩ : St)) ((∃ m_, m_ < m ∧ (L68 guards table) 0 m_ (⟨[(0, .data TGS guards), (1, dI table), (5, dI (wrap64 (i0 + Z1)))], []⟩ : St) K))) (K (.exit 0) (⟨[], []⟩ : St))) := by kernel_rfl
theorem con68_ok : ConOk P 68 c68 := by
 refine con_okR (fn := f68) (code := bodyOf f68) (tab_ok tab_check cmp_check) consOk68 mixed func68 rfl rfl fun args hp K h0 => ?_
 obtain ⟨a0, a1, rfl, rfl, h1⟩ := args2_elim h0
 obtain ⟨guards, rfl, h2⟩ := withD_elim h1
 obtain ⟨table, rfl, h3⟩ := withD_elim h2
 obtain ⟨h_guards, hK⟩ := h3
 have h : ok (F.spec_l27Guard guards table) (fun r => K (dI r) []) := ok_of_eq (F.spec_l27Guard_eq guards table h_guards) hK
 refine ⟨⟨show (2 : Nat) ≤ 20 by decide, show (2 : Nat) ≤ 1000000 by decide⟩, ann68, (L68 guards table), (.dat TInt), (loopsN1 (i0 := 0) (by kernel_rfl) ?_), ?_⟩
 ·clear h
  intro m_ s_ K_ h
  obtain ⟨hc0, i0, v0, rfl, hl0, rfl, hv0, h⟩ := (show LP68_0 guards table m_ s_ K_ from h)
  rw [lvc68_0 guards table i0 v0 _ K_]
  exact (loopI_step h (fun ht0 h => ⟨hl0, ⟨ht0, (ok_cond h (fun b_9 h => (ok_ret h :)) (fun b_9 h => (loopI_next (fun m hm => (show LP68_0 guards table m _ _ from ⟨hc0, hm⟩)) () rfl hl0 low0 ht0 (sm_len h_guards) trivial (ok_ret h :))))⟩⟩) (fun h => (h trivial)))
 ·rw [vc68 guards table K]
  exact (loopI_start (fun m hm => ⟨trivial, hm⟩) Z0 () rfl (Int.natCast_nonneg 0) trivial (ok_then h (fun v0 h hv0 => (ok_ret h :)) (fun q0 h => (ok_ret h :))))
def c28 : Con := ⟨[.dat TTb, .dat TGS, .dat TSS], fun args hp K => args3 (fun a0 a1 a2 => withD TTb a0 fun tables => withD TGS a1 fun guards => withD TSS a2 fun plan => (Sm TTb tables) ∧ (Sm TGS guards) ∧ (Sm TSS plan) ∧ (∀ r : LS × Bool, r = (M.planGuarded tables guards plan) → K (.tup [.data TSS r.1, dB r.2]) [])) args hp, .plain⟩
def cons28 : Cons := [(37, c37), (38, c38), (51, c51), (68, c68)]
@[reducible] def C28 : Ctx := ⟨tab, fun t => memN t cmps, cons28, 105, [], 0, false⟩
theorem consOk28 : ConsOk P C28 := by
 refine consOk_cons (enter_ok (fn := f37) func37 (by kernel_rfl) rfl) con37_ok ?_
 refine consOk_cons (enter_ok (fn := f38) func38 (by kernel_rfl) rfl) con38_ok ?_
 refine consOk_cons (enter_ok (fn := f51) func51 (by kernel_rfl) rfl) con51_ok ?_
 refine consOk_cons (enter_ok (fn := f68) func68 (by kernel_rfl) rfl) con68_ok ?_
 exact consOk_nil
def ann28 : Nat → List Dir
 | 0 => [.keep [0, 1, 2]]
 | 1 => [.keep [0, 1, 2, 8]]
 | 2 => [.keep [0, 1, 2, 8, 24]]
 | 3 => [.keep [6, 7]]
 | 4 => [.keep [0, 1, 2, 8, 9]]
 | 5 => [.keep [0, 1, 8, 9, 10]]
 | 6 => [.keep [0, 1, 8, 9, 10, 11]]
 | 7 => [.keep [0, 1, 8, 9, 10, 11, 34]]
 | 8 => [.keep [0, 1, 8, 9, 10, 11]]
 | 9 => [.keep [0, 1, 8, 9, 10, 11, 12]]
 | 10 => [.keep [0, 1, 8, 9, 10, 11, 12, 43]]
 | 11 => [.keep [0, 1, 8, 9, 10, 11, 12]]
 | 12 => [.keep [0, 1, 8, 9, 10, 11, 12, 57]]
 | 13 => [.keep [0, 1, 8, 9, 10, 11, 12]]
 | 14 => [.keep [0, 1, 8, 9, 10, 11, 12]]
 | 15 => [.keep [0, 1, 8, 9, 10, 11, 12, 13]]
 | 16 => [.keep [0, 1, 8, 9, 10, 11, 13, 78]]
 | 17 => [.keep [0, 1, 8, 9, 10, 11]]
 | 18 => [.keep [0, 1, 8, 9, 10, 11]]
 | 19 => [.keep [8, 102]]
 | 20 => [.keep [6, 7]]
 | 21 => [.keep [6, 7]]
 | 100000 => [.keep [0, 8]]
 | _ => []
@[reducible] def LP28_0 (tables : LTb) (guards : LG) (plan : LS) (m : Nat) (st_ : St) (K : KX) : Prop := ∃ c0_0 : LS, ((c0_0.length : Int) ≤ top63 ∧ True) ∧ LoopI (fun (i0 : Int) (v0 : LS × (List Int)) => (⟨[(0, .data TTb tables), (1, .data TGS guards), (8, .own 14 none), (9, .own 28 none), (10, .own 30 none), (11, dI i0)], [(14, .arr false TStep v0.1), (28, .arr false TInt v0.2), (30, .arr false TStep c0_0)]⟩ : St)) Z0 (c0_0.length : Int) (F.spec_PlanGuarded_l0 tables guards plan c0_0) (fun v0 : LS × (List Int) => True) (outD (fun v0 : LS × (List Int) => True → K (.exit 0) (⟨[(0, .data TTb tables), (8, .own 14 none)], [(14, .arr false TStep v0.1)]⟩ : St)) (fun _ => False)) m st_
def L28 (tables : LTb) (guards : LG) (plan : LS) : Loops := fun id m st_ K => match id with
 | 0 => LP28_0 tables guards plan m st_ K
 | _ => False
theorem vc28 (tables : LTb) (guards : LG) (plan : LS) (K : KA) : awp C28 (L28 tables guards plan) ann28 (bodyOf f28) ⟨argEnv 0 [.data TTb tables, .data TGS guards, .data TSS plan], []⟩ (outK tab false f28.results.toList (hasBox []) (resK (.tup [TSS, Ty.bool]) K)) =
 ((Sm TTb tables) ∧ (Sm TGS guards) ∧ cond ((!(M.guardsOk tables guards)) == false) ((Sm TTb tables) ∧ (Sm TSS plan) ∧ cond (!(M.planOk tables plan)) (K (.tup [.data TSS [], dB false]) []) (((plan.length : Int) = (plan.length : Int)) ∧ (0 ≤ (plan.length : Int)) ∧ ((plan.length : Int) * 8 ≤ (lim : Int)) ∧ (Sm TSS plan) ∧ (∀ r_5_1 : LS, r_5_1 = (plan) → (∃ m_, ∃ c0_0 : LS, ((c0_0.length : Int) ≤ top63 ∧ True) ∧ LoopI (fun (i0 : Int) (v0 : LS × (List Int)) => (⟨[(0, .data TTb tables), (1, .data TGS guards), (8, .own 14 none), (9, .own 28 none), (10, .own 30 none), (11, dI i0)], [(14, .arr false TStep v0.1), (28, .arr false TInt v0.2), (30, .arr false TStep c0_0)]⟩ : St)) Z0 (c0_0.length : Int) (F.spec_PlanGuarded_l0 tables guards plan c0_0) (fun v0 : LS × (List Int) => True) (outD (fun v0 : LS × (List Int) => True → (Sm TTb tables) ∧ (Sm TSS v0.1) ∧ cond (!(M.planOk tables v0.1)) (K (.tup [.data TSS [], dB false]) []) (K (.tup [.data TSS v0.1, dB true]) [])) (fun _ => False)) m_ (⟨[(0, .data TTb tables), (1, .data TGS guards), (8, .own 14 none), (9, .own 28 none), (10, .own 30 none), (11, dI Z0)], [(14, .arr false TStep []), (28, .arr false TInt (List.replicate (plan.length : Int).toNat Z0)), (30, .arr false TStep r_5_1)]⟩ : St))))) (K (.tup [.data TSS [], dB false]) [])) := by kernel_rfl
@[reducible] def S28l0_0 (tables : LTb) (guards : LG) (plan : LS) (c0_0 : LS) (i0 : Int) (v0 : LS × (List Int)) (m : Nat) (K : KX) : Prop := (0 ≤ i0) ∧ (i0 < (v0.2.length : Int)) ∧ (let y_18_6 : (List Int) := (v0.2.set i0.toNat (wrap64 (((v0.1 ++ [((nS c0_0 i0).1, ((nI v0.2 (((nS c0_0 i0).2).1)), ((nI v0.2 ((((nS c0_0 i0).2).2).1)), (((nS c0_0 i0).2).2).2)))]).length : Int) - Z1))); (∃ m_, m_ < m ∧ (L28 tables guards plan) 0 m_ (⟨[(0, .data TTb tables), (1, .data TGS guards), (8, .own 14 none), (9, .own 28 none), (10, .own 30 none), (11, dI (wrap64 (i0 + Z1)))], [(14, .arr false TStep (v0.1 ++ [((nS c0_0 i0).1, ((nI v0.2 (((nS c0_0 i0).2).1)), ((nI v0.2 ((((nS c0_0 i0).2).2).1)), (((nS c0_0 i0).2).2).2)))])), (28, .arr false TInt y_18_6), (30, .arr false TStep c0_0)]⟩ : St) K))
@[reducible] def S28l0_1 (tables : LTb) (guards : LG) (plan : LS) (c0_0 : LS) (i0 : Int) (v0 : LS × (List Int)) (m : Nat) (K : KX) : Prop := (0 ≤ (((nS c0_0 i0).2).2).1) ∧ ((((nS c0_0 i0).2).2).1 < (v0.2.length : Int)) ∧ ((v0.1.length + [((nS c0_0 i0).1, ((nI v0.2 (((nS c0_0 i0).2).1)), ((nI v0.2 ((((nS c0_0 i0).2).2).1)), (((nS c0_0 i0).2).2).2)))].length) * 80 ≤ lim) ∧ (Sm TGS guards) ∧ cond ((decide ((nS c0_0 i0).1 = Z1)) == true) (cond (decide (Z0 ≤ (M.idx (t := TGuard) (fun g => decide (g.1 = (((((nS c0_0 i0).2).2).2).1))) guards))) ((0 ≤ (M.idx (t := TGuard) (fun g => decide (g.1 = (((((nS c0_0 i0).2).2).2).1))) guards)) ∧ ((M.idx (t := TGuard) (fun g => decide (g.1 = (((((nS c0_0 i0).2).2).2).1))) guards) < (guards.length : Int)) ∧ ((([] : List TPart.D).length + (((nG guards (M.idx (t := TGuard) (fun g => decide (g.1 = (((((nS c0_0 i0).2).2).2).1))) guards)).2).1).length) * 48 ≤ lim) ∧ (((v0.1 ++ [((nS c0_0 i0).1, ((nI v0.2 (((nS c0_0 i0).2).1)), ((nI v0.2 ((((nS c0_0 i0).2).2).1)), (((nS c0_0 i0).2).2).2)))]).length + ([(Z2, (wrap64 (((v0.1 ++ [((nS c0_0 i0).1, ((nI v0.2 (((nS c0_0 i0).2).1)), ((nI v0.2 ((((nS c0_0 i0).2).2).1)), (((nS c0_0 i0).2).2).2)))]).length : Int) - Z1), (Z0, (Z0, (([] ++ ((nG guards (M.idx (t := TGuard) (fun g => decide (g.1 = (((((nS c0_0 i0).2).2).2).1))) guards)).2).1), ([], ()))))))] : List TStep.D).length) * 80 ≤ lim) ∧ (0 ≤ i0) ∧ (i0 < (v0.2.length : Int)) ∧ (let y_18_6 : (List Int) := (v0.2.set i0.toNat (wrap64 ((((v0.1 ++ [((nS c0_0 i0).1, ((nI v0.2 (((nS c0_0 i0).2).1)), ((nI v0.2 ((((nS c0_0 i0).2).2).1)), (((nS c0_0 i0).2).2).2)))]) ++ [(Z2, (wrap64 (((v0.1 ++ [((nS c0_0 i0).1, ((nI v0.2 (((nS c0_0 i0).2).1)), ((nI v0.2 ((((nS c0_0 i0).2).2).1)), (((nS c0_0 i0).2).2).2)))]).length : Int) - Z1), (Z0, (Z0, (([] ++ ((nG guards (M.idx (t := TGuard) (fun g => decide (g.1 = (((((nS c0_0 i0).2).2).2).1))) guards)).2).1), ([], ()))))))]).length : Int) - Z1))); (∃ m_, m_ < m ∧ (L28 tables guards plan) 0 m_ (⟨[(0, .data TTb tables), (1, .data TGS guards), (8, .own 14 none), (9, .own 28 none), (10, .own 30 none), (11, dI (wrap64 (i0 + Z1)))], [(14, .arr false TStep ((v0.1 ++ [((nS c0_0 i0).1, ((nI v0.2 (((nS c0_0 i0).2).1)), ((nI v0.2 ((((nS c0_0 i0).2).2).1)), (((nS c0_0 i0).2).2).2)))]) ++ [(Z2, (wrap64 (((v0.1 ++ [((nS c0_0 i0).1, ((nI v0.2 (((nS c0_0 i0).2).1)), ((nI v0.2 ((((nS c0_0 i0).2).2).1)), (((nS c0_0 i0).2).2).2)))]).length : Int) - Z1), (Z0, (Z0, (([] ++ ((nG guards (M.idx (t := TGuard) (fun g => decide (g.1 = (((((nS c0_0 i0).2).2).2).1))) guards)).2).1), ([], ()))))))])), (28, .arr false TInt y_18_6), (30, .arr false TStep c0_0)]⟩ : St) K))) ((S28l0_0  tables guards plan c0_0 i0 v0 m K))) ((S28l0_0  tables guards plan c0_0 i0 v0 m K))
@[reducible] def S28l0_2 (tables : LTb) (guards : LG) (plan : LS) (c0_0 : LS) (i0 : Int) (v0 : LS × (List Int)) (m : Nat) (K : KX) : Prop := (0 ≤ i0) ∧ (i0 < (v0.2.length : Int)) ∧ (let y_18_6 : (List Int) := (v0.2.set i0.toNat (wrap64 (((v0.1 ++ [((nS c0_0 i0).1, ((nI v0.2 (((nS c0_0 i0).2).1)), ((nS c0_0 i0).2).2))]).length : Int) - Z1))); (∃ m_, m_ < m ∧ (L28 tables guards plan) 0 m_ (⟨[(0, .data TTb tables), (1, .data TGS guards), (8, .own 14 none), (9, .own 28 none), (10, .own 30 none), (11, dI (wrap64 (i0 + Z1)))], [(14, .arr false TStep (v0.1 ++ [((nS c0_0 i0).1, ((nI v0.2 (((nS c0_0 i0).2).1)), ((nS c0_0 i0).2).2))])), (28, .arr false TInt y_18_6), (30, .arr false TStep c0_0)]⟩ : St) K))
@[reducible] def S28l0_3 (tables : LTb) (guards : LG) (plan : LS) (c0_0 : LS) (i0 : Int) (v0 : LS × (List Int)) (m : Nat) (K : KX) : Prop := (0 ≤ i0) ∧ (i0 < (v0.2.length : Int)) ∧ (let y_18_6 : (List Int) := (v0.2.set i0.toNat (wrap64 (((v0.1 ++ [((nS c0_0 i0).1, (((nS c0_0 i0).2).1, ((nI v0.2 ((((nS c0_0 i0).2).2).1)), (((nS c0_0 i0).2).2).2)))]).length : Int) - Z1))); (∃ m_, m_ < m ∧ (L28 tables guards plan) 0 m_ (⟨[(0, .data TTb tables), (1, .data TGS guards), (8, .own 14 none), (9, .own 28 none), (10, .own 30 none), (11, dI (wrap64 (i0 + Z1)))], [(14, .arr false TStep (v0.1 ++ [((nS c0_0 i0).1, (((nS c0_0 i0).2).1, ((nI v0.2 ((((nS c0_0 i0).2).2).1)), (((nS c0_0 i0).2).2).2)))])), (28, .arr false TInt y_18_6), (30, .arr false TStep c0_0)]⟩ : St) K))
@[reducible] def S28l0_4 (tables : LTb) (guards : LG) (plan : LS) (c0_0 : LS) (i0 : Int) (v0 : LS × (List Int)) (m : Nat) (K : KX) : Prop := (0 ≤ (((nS c0_0 i0).2).2).1) ∧ ((((nS c0_0 i0).2).2).1 < (v0.2.length : Int)) ∧ ((v0.1.length + [((nS c0_0 i0).1, (((nS c0_0 i0).2).1, ((nI v0.2 ((((nS c0_0 i0).2).2).1)), (((nS c0_0 i0).2).2).2)))].length) * 80 ≤ lim) ∧ (Sm TGS guards) ∧ cond ((decide ((nS c0_0 i0).1 = Z1)) == true) (cond (decide (Z0 ≤ (M.idx (t := TGuard) (fun g => decide (g.1 = (((((nS c0_0 i0).2).2).2).1))) guards))) ((0 ≤ (M.idx (t := TGuard) (fun g => decide (g.1 = (((((nS c0_0 i0).2).2).2).1))) guards)) ∧ ((M.idx (t := TGuard) (fun g => decide (g.1 = (((((nS c0_0 i0).2).2).2).1))) guards) < (guards.length : Int)) ∧ ((([] : List TPart.D).length + (((nG guards (M.idx (t := TGuard) (fun g => decide (g.1 = (((((nS c0_0 i0).2).2).2).1))) guards)).2).1).length) * 48 ≤ lim) ∧ (((v0.1 ++ [((nS c0_0 i0).1, (((nS c0_0 i0).2).1, ((nI v0.2 ((((nS c0_0 i0).2).2).1)), (((nS c0_0 i0).2).2).2)))]).length + ([(Z2, (wrap64 (((v0.1 ++ [((nS c0_0 i0).1, (((nS c0_0 i0).2).1, ((nI v0.2 ((((nS c0_0 i0).2).2).1)), (((nS c0_0 i0).2).2).2)))]).length : Int) - Z1), (Z0, (Z0, (([] ++ ((nG guards (M.idx (t := TGuard) (fun g => decide (g.1 = (((((nS c0_0 i0).2).2).2).1))) guards)).2).1), ([], ()))))))] : List TStep.D).length) * 80 ≤ lim) ∧ (0 ≤ i0) ∧ (i0 < (v0.2.length : Int)) ∧ (let y_18_6 : (List Int) := (v0.2.set i0.toNat (wrap64 ((((v0.1 ++ [((nS c0_0 i0).1, (((nS c0_0 i0).2).1, ((nI v0.2 ((((nS c0_0 i0).2).2).1)), (((nS c0_0 i0).2).2).2)))]) ++ [(Z2, (wrap64 (((v0.1 ++ [((nS c0_0 i0).1, (((nS c0_0 i0).2).1, ((nI v0.2 ((((nS c0_0 i0).2).2).1)), (((nS c0_0 i0).2).2).2)))]).length : Int) - Z1), (Z0, (Z0, (([] ++ ((nG guards (M.idx (t := TGuard) (fun g => decide (g.1 = (((((nS c0_0 i0).2).2).2).1))) guards)).2).1), ([], ()))))))]).length : Int) - Z1))); (∃ m_, m_ < m ∧ (L28 tables guards plan) 0 m_ (⟨[(0, .data TTb tables), (1, .data TGS guards), (8, .own 14 none), (9, .own 28 none), (10, .own 30 none), (11, dI (wrap64 (i0 + Z1)))], [(14, .arr false TStep ((v0.1 ++ [((nS c0_0 i0).1, (((nS c0_0 i0).2).1, ((nI v0.2 ((((nS c0_0 i0).2).2).1)), (((nS c0_0 i0).2).2).2)))]) ++ [(Z2, (wrap64 (((v0.1 ++ [((nS c0_0 i0).1, (((nS c0_0 i0).2).1, ((nI v0.2 ((((nS c0_0 i0).2).2).1)), (((nS c0_0 i0).2).2).2)))]).length : Int) - Z1), (Z0, (Z0, (([] ++ ((nG guards (M.idx (t := TGuard) (fun g => decide (g.1 = (((((nS c0_0 i0).2).2).2).1))) guards)).2).1), ([], ()))))))])), (28, .arr false TInt y_18_6), (30, .arr false TStep c0_0)]⟩ : St) K))) ((S28l0_3  tables guards plan c0_0 i0 v0 m K))) ((S28l0_3  tables guards plan c0_0 i0 v0 m K))
@[reducible] def S28l0_5 (tables : LTb) (guards : LG) (plan : LS) (c0_0 : LS) (i0 : Int) (v0 : LS × (List Int)) (m : Nat) (K : KX) : Prop := (0 ≤ i0) ∧ (i0 < (v0.2.length : Int)) ∧ (let y_18_6 : (List Int) := (v0.2.set i0.toNat (wrap64 (((v0.1 ++ [(nS c0_0 i0)]).length : Int) - Z1))); (∃ m_, m_ < m ∧ (L28 tables guards plan) 0 m_ (⟨[(0, .data TTb tables), (1, .data TGS guards), (8, .own 14 none), (9, .own 28 none), (10, .own 30 none), (11, dI (wrap64 (i0 + Z1)))], [(14, .arr false TStep (v0.1 ++ [(nS c0_0 i0)])), (28, .arr false TInt y_18_6), (30, .arr false TStep c0_0)]⟩ : St) K))
theorem lvc28_0 (tables : LTb) (guards : LG) (plan : LS) (c0_0 : LS) (i0 : Int) (v0 : LS × (List Int)) (m : Nat) (K : KX) : awp C28 (L28 tables guards plan) ann28 (loopAt (bodyOf f28) 0) (⟨[(0, .data TTb tables), (1, .data TGS guards), (8, .own 14 none), (9, .own 28 none), (10, .own 30 none), (11, dI i0)], [(14, .arr false TStep v0.1), (28, .arr false TInt v0.2), (30, .arr false TStep c0_0)]⟩ : St) (thenW (fun s' => ∃ m', m' < m ∧ (L28 tables guards plan) 0 m' s' K) (exitN 0 (ann28 (behind 0)) K)) =
 (cond (decide (i0 < (c0_0.length : Int))) ((0 ≤ i0) ∧ (i0 < (c0_0.length : Int)) ∧ cond (!decide ((nS c0_0 i0).1 = Z1)) ((0 ≤ ((nS c0_0 i0).2).1) ∧ (((nS c0_0 i0).2).1 < (v0.2.length : Int)) ∧ cond ((decide ((nS c0_0 i0).1 = Z4)) == false) (cond (decide ((nS c0_0 i0).1 = Z5)) ((S28l0_1  tables guards plan c0_0 i0 v0 m K)) (((v0.1.length + [((nS c0_0 i0).1, ((nI v0.2 (((nS c0_0 i0).2).1)), ((nS c0_0 i0).2).2))].length) * 80 ≤ lim) ∧ (Sm TGS guards) ∧ cond ((decide ((nS c0_0 i0).1 = Z1)) == true) (cond (decide (Z0 ≤ (M.idx (t := TGuard) (fun g => decide (g.1 = (((((nS c0_0 i0).2).2).2).1))) guards))) ((0 ≤ (M.idx (t := TGuard) (fun g => decide (g.1 = (((((nS c0_0 i0).2).2).2).1))) guards)) ∧ ((M.idx (t := TGuard) (fun g => decide (g.1 = (((((nS c0_0 i0).2).2).2).1))) guards) < (guards.length : Int)) ∧ ((([] : List TPart.D).length + (((nG guards (M.idx (t := TGuard) (fun g => decide (g.1 = (((((nS c0_0 i0).2).2).2).1))) guards)).2).1).length) * 48 ≤ lim) ∧ (((v0.1 ++ [((nS c0_0 i0).1, ((nI v0.2 (((nS c0_0 i0).2).1)), ((nS c0_0 i0).2).2))]).length + ([(Z2, (wrap64 (((v0.1 ++ [((nS c0_0 i0).1, ((nI v0.2 (((nS c0_0 i0).2).1)), ((nS c0_0 i0).2).2))]).length : Int) - Z1), (Z0, (Z0, (([] ++ ((nG guards (M.idx (t := TGuard) (fun g => decide (g.1 = (((((nS c0_0 i0).2).2).2).1))) guards)).2).1), ([], ()))))))] : List TStep.D).length) * 80 ≤ lim) ∧ (0 ≤ i0) ∧ (i0 < (v0.2.length : Int)) ∧ (let y_18_6 : (List Int) := (v0.2.set i0.toNat (wrap64 ((((v0.1 ++ [((nS c0_0 i0).1, ((nI v0.2 (((nS c0_0 i0).2).1)), ((nS c0_0 i0).2).2))]) ++ [(Z2, (wrap64 (((v0.1 ++ [((nS c0_0 i0).1, ((nI v0.2 (((nS c0_0 i0).2).1)), ((nS c0_0 i0).2).2))]).length : Int) - Z1), (Z0, (Z0, (([] ++ ((nG guards (M.idx (t := TGuard) (fun g => decide (g.1 = (((((nS c0_0 i0).2).2).2).1))) guards)).2).1), ([], ()))))))]).length : Int) - Z1))); (∃ m_, m_ < m ∧ (L28 tables guards plan) 0 m_ (⟨[(0, .data TTb tables), (1, .data TGS guards), (8, .own 14 none), (9, .own 28 none), (10, .own 30 none), (11, dI (wrap64 (i0 + Z1)))], [(14, .arr false TStep ((v0.1 ++ [((nS c0_0 i0).1, ((nI v0.2 (((nS c0_0 i0).2).1)), ((nS c0_0 i0).2).2))]) ++ [(Z2, (wrap64 (((v0.1 ++ [((nS c0_0 i0).1, ((nI v0.2 (((nS c0_0 i0).2).1)), ((nS c0_0 i0).2).2))]).length : Int) - Z1), (Z0, (Z0, (([] ++ ((nG guards (M.idx (t := TGuard) (fun g => decide (g.1 = (((((nS c0_0 i0).2).2).2).1))) guards)).2).1), ([], ()))))))])), (28, .arr false TInt y_18_6), (30, .arr false TStep c0_0)]⟩ : St) K))) ((S28l0_2  tables guards plan c0_0 i0 v0 m K))) ((S28l0_2  tables guards plan c0_0 i0 v0 m K)))) ((S28l0_1  tables guards plan c0_0 i0 v0 m K))) (cond ((decide ((nS c0_0 i0).1 = Z4)) == false) (cond (decide ((nS c0_0 i0).1 = Z5)) ((S28l0_4  tables guards plan c0_0 i0 v0 m K)) (((v0.1.length + [(nS c0_0 i0)].length) * 80 ≤ lim) ∧ (Sm TGS guards) ∧ cond ((decide ((nS c0_0 i0).1 = Z1)) == true) (cond (decide (Z0 ≤ (M.idx (t := TGuard) (fun g => decide (g.1 = (((((nS c0_0 i0).2).2).2).1))) guards))) ((0 ≤ (M.idx (t := TGuard) (fun g => decide (g.1 = (((((nS c0_0 i0).2).2).2).1))) guards)) ∧ ((M.idx (t := TGuard) (fun g => decide (g.1 = (((((nS c0_0 i0).2).2).2).1))) guards) < (guards.length : Int)) ∧ ((([] : List TPart.D).length + (((nG guards (M.idx (t := TGuard) (fun g => decide (g.1 = (((((nS c0_0 i0).2).2).2).1))) guards)).2).1).length) * 48 ≤ lim) ∧ (((v0.1 ++ [(nS c0_0 i0)]).length + ([(Z2, (wrap64 (((v0.1 ++ [(nS c0_0 i0)]).length : Int) - Z1), (Z0, (Z0, (([] ++ ((nG guards (M.idx (t := TGuard) (fun g => decide (g.1 = (((((nS c0_0 i0).2).2).2).1))) guards)).2).1), ([], ()))))))] : List TStep.D).length) * 80 ≤ lim) ∧ (0 ≤ i0) ∧ (i0 < (v0.2.length : Int)) ∧ (let y_18_6 : (List Int) := (v0.2.set i0.toNat (wrap64 ((((v0.1 ++ [(nS c0_0 i0)]) ++ [(Z2, (wrap64 (((v0.1 ++ [(nS c0_0 i0)]).length : Int) - Z1), (Z0, (Z0, (([] ++ ((nG guards (M.idx (t := TGuard) (fun g => decide (g.1 = (((((nS c0_0 i0).2).2).2).1))) guards)).2).1), ([], ()))))))]).length : Int) - Z1))); (∃ m_, m_ < m ∧ (L28 tables guards plan) 0 m_ (⟨[(0, .data TTb tables), (1, .data TGS guards), (8, .own 14 none), (9, .own 28 none), (10, .own 30 none), (11, dI (wrap64 (i0 + Z1)))], [(14, .arr false TStep ((v0.1 ++ [(nS c0_0 i0)]) ++ [(Z2, (wrap64 (((v0.1 ++ [(nS c0_0 i0)]).length : Int) - Z1), (Z0, (Z0, (([] ++ ((nG guards (M.idx (t := TGuard) (fun g => decide (g.1 = (((((nS c0_0 i0).2).2).2).1))) guards)).2).1), ([], ()))))))])), (28, .arr false TInt y_18_6), (30, .arr false TStep c0_0)]⟩ : St) K))) ((S28l0_5  tables guards plan c0_0 i0 v0 m K))) ((S28l0_5  tables guards plan c0_0 i0 v0 m K)))) ((S28l0_4  tables guards plan c0_0 i0 v0 m K)))) (K (.exit 0) (⟨[(0, .data TTb tables), (8, .own 14 none)], [(14, .arr false TStep v0.1)]⟩ : St))) := by kernel_rfl
theorem con28_ok : ConOk P 28 c28 := by
 refine con_okR (fn := f28) (code := bodyOf f28) (tab_ok tab_check cmp_check) consOk28 mixed func28 rfl rfl fun args hp K h0 => ?_
 obtain ⟨a0, a1, a2, rfl, rfl, h1⟩ := args3_elim h0
 obtain ⟨tables, rfl, h2⟩ := withD_elim h1
 obtain ⟨guards, rfl, h3⟩ := withD_elim h2
 obtain ⟨plan, rfl, h4⟩ := withD_elim h3
 obtain ⟨h_tables, h_guards, h_plan, hK⟩ := h4
 have h : ok (F.spec_PlanGuarded tables guards plan) (fun r => K (.tup [.data TSS r.1, dB r.2]) []) := ok_of_eq (F.spec_PlanGuarded_eq tables guards plan h_tables h_guards h_plan) (hK _ rfl)
 refine ⟨⟨show (3 : Nat) ≤ 105 by decide, show (3 : Nat) ≤ 1000000 by decide⟩, ann28, (L28 tables guards plan), (.tup [TSS, Ty.bool]), (loopsN1 (i0 := 0) (by kernel_rfl) ?_), ?_⟩
 ·clear h
  intro m_ s_ K_ h
  obtain ⟨c0_0, hc0, i0, v0, rfl, hl0, rfl, hv0, h⟩ := (show LP28_0 tables guards plan m_ s_ K_ from h)
  rw [lvc28_0 tables guards plan c0_0 i0 v0 _ K_]
  exact (loopI_step h (fun ht0 h => ⟨hl0, ⟨ht0, (ok_cond h (fun b_76 h => ⟨(ok_guard h).1, have h := (ok_guard h).2; ⟨(ok_guard h).1, have h := (ok_guard h).2; (ok_cond h (fun b_79 h => (ok_cond h (fun b_80 h => ⟨(ok_guard h).1, have h := (ok_guard h).2; ⟨(ok_guard h).1, have h := (ok_guard h).2; ⟨(ok_guard h).1, have h := (ok_guard h).2; ⟨h_guards, (cond_f (uef (bnt b_76)) ⟨hl0, ⟨(ok_guard h).1, have h := (ok_guard h).2; (let y_18_6 : (List Int) := (v0.2.set i0.toNat (wrap64 (((v0.1 ++ [((nS c0_0 i0).1, ((nI v0.2 (((nS c0_0 i0).2).1)), ((nI v0.2 ((((nS c0_0 i0).2).2).1)), (((nS c0_0 i0).2).2).2)))]).length : Int) - Z1))); have h := ok_let h y_18_6 rfl; (loopI_next (fun m hm => (show LP28_0 tables guards plan m _ _ from ⟨c0_0, hc0, hm⟩)) ((v0.1 ++ [((nS c0_0 i0).1, ((nI v0.2 (((nS c0_0 i0).2).1)), ((nI v0.2 ((((nS c0_0 i0).2).2).1)), (((nS c0_0 i0).2).2).2)))]), y_18_6) rfl hl0 low0 ht0 hc0.1 trivial (ok_ret h :)))⟩⟩)⟩⟩⟩⟩) (fun b_80 h => ⟨(ok_guard h).1, have h := (ok_guard h).2; ⟨h_guards, (cond_f (uef (bnt b_76)) ⟨hl0, ⟨(ok_guard h).1, have h := (ok_guard h).2; (let y_18_6 : (List Int) := (v0.2.set i0.toNat (wrap64 (((v0.1 ++ [((nS c0_0 i0).1, ((nI v0.2 (((nS c0_0 i0).2).1)), ((nS c0_0 i0).2).2))]).length : Int) - Z1))); have h := ok_let h y_18_6 rfl; (loopI_next (fun m hm => (show LP28_0 tables guards plan m _ _ from ⟨c0_0, hc0, hm⟩)) ((v0.1 ++ [((nS c0_0 i0).1, ((nI v0.2 (((nS c0_0 i0).2).1)), ((nS c0_0 i0).2).2))]), y_18_6) rfl hl0 low0 ht0 hc0.1 trivial (ok_ret h :)))⟩⟩)⟩⟩))) (fun b_79 h => ⟨(ok_guard h).1, have h := (ok_guard h).2; ⟨(ok_guard h).1, have h := (ok_guard h).2; ⟨(ok_guard h).1, have h := (ok_guard h).2; ⟨h_guards, (cond_f (uef (bnt b_76)) ⟨hl0, ⟨(ok_guard h).1, have h := (ok_guard h).2; (let y_18_6 : (List Int) := (v0.2.set i0.toNat (wrap64 (((v0.1 ++ [((nS c0_0 i0).1, ((nI v0.2 (((nS c0_0 i0).2).1)), ((nI v0.2 ((((nS c0_0 i0).2).2).1)), (((nS c0_0 i0).2).2).2)))]).length : Int) - Z1))); have h := ok_let h y_18_6 rfl; (loopI_next (fun m hm => (show LP28_0 tables guards plan m _ _ from ⟨c0_0, hc0, hm⟩)) ((v0.1 ++ [((nS c0_0 i0).1, ((nI v0.2 (((nS c0_0 i0).2).1)), ((nI v0.2 ((((nS c0_0 i0).2).2).1)), (((nS c0_0 i0).2).2).2)))]), y_18_6) rfl hl0 low0 ht0 hc0.1 trivial (ok_ret h :)))⟩⟩)⟩⟩⟩⟩))⟩⟩) (fun b_76 h => (cond_t (ugt (dec_ne (bnf b_76) (by decide))) (cond_f (dec_ne (bnf b_76) (by decide)) ⟨(ok_guard h).1, have h := (ok_guard h).2; ⟨h_guards, (cond_t (uet (bnf b_76)) (ok_cond h (fun b_127 h => ⟨(ok_guard h).1, have h := (ok_guard h).2; ⟨(ok_guard h).1, have h := (ok_guard h).2; ⟨(sm_lim2 (sm_nil TPart) (sm_nth h_guards (M.idx (t := TGuard) (fun g => decide (g.1 = (((((nS c0_0 i0).2).2).2).1))) guards)).2.1 rfl), ⟨(ok_guard h).1, have h := (ok_guard h).2; ⟨hl0, ⟨(ok_guard h).1, have h := (ok_guard h).2; (let y_18_6 : (List Int) := (v0.2.set i0.toNat (wrap64 ((((v0.1 ++ [(nS c0_0 i0)]) ++ [(Z2, (wrap64 (((v0.1 ++ [(nS c0_0 i0)]).length : Int) - Z1), (Z0, (Z0, (([] ++ ((nG guards (M.idx (t := TGuard) (fun g => decide (g.1 = (((((nS c0_0 i0).2).2).2).1))) guards)).2).1), ([], ()))))))]).length : Int) - Z1))); have h := ok_let h y_18_6 rfl; (loopI_next (fun m hm => (show LP28_0 tables guards plan m _ _ from ⟨c0_0, hc0, hm⟩)) (((v0.1 ++ [(nS c0_0 i0)]) ++ [(Z2, (wrap64 (((v0.1 ++ [(nS c0_0 i0)]).length : Int) - Z1), (Z0, (Z0, (([] ++ ((nG guards (M.idx (t := TGuard) (fun g => decide (g.1 = (((((nS c0_0 i0).2).2).2).1))) guards)).2).1), ([], ()))))))]), y_18_6) rfl hl0 low0 ht0 hc0.1 trivial (ok_ret h :)))⟩⟩⟩⟩⟩⟩) (fun b_127 h => ⟨hl0, ⟨(ok_guard h).1, have h := (ok_guard h).2; (let y_18_6 : (List Int) := (v0.2.set i0.toNat (wrap64 (((v0.1 ++ [(nS c0_0 i0)]).length : Int) - Z1))); have h := ok_let h y_18_6 rfl; (loopI_next (fun m hm => (show LP28_0 tables guards plan m _ _ from ⟨c0_0, hc0, hm⟩)) ((v0.1 ++ [(nS c0_0 i0)]), y_18_6) rfl hl0 low0 ht0 hc0.1 trivial (ok_ret h :)))⟩⟩)))⟩⟩))))⟩⟩) (fun h => (h trivial)))
 ·rw [vc28 tables guards plan K]
  exact ⟨h_tables, ⟨h_guards, (ok_cond h (fun b_1 h => ⟨h_tables, ⟨h_plan, (ok_cond h (fun b_2 h => (ok_ret h :)) (fun b_2 h => ⟨rfl, ⟨(Int.natCast_nonneg _), ⟨(sm_limI h_plan rfl), ⟨h_plan, (fun r_5_1 e_r_5_1 => have h := ok_let h r_5_1 e_r_5_1; (have hi_0 := (ok_guard h).1; have h := (ok_guard h).2; (loopI_start (fun m hm => ⟨r_5_1, ⟨hi_0, trivial⟩, hm⟩) Z0 ([], (List.replicate (plan.length : Int).toNat Z0)) rfl (Int.natCast_nonneg 0) trivial (ok_then h (fun v0 h hv0 => ⟨h_tables, ⟨(ok_guard h).1, have h := (ok_guard h).2; (ok_cond h (fun b_146 h => (ok_ret h :)) (fun b_146 h => (ok_ret h :)))⟩⟩) (fun _ h => h.elim)))))⟩⟩⟩⟩))⟩⟩) (fun b_1 h => (ok_ret h :)))⟩⟩
def c66 : Con := ⟨[.dat TInt, .dat TInt, .dat TInt], fun args hp K => args3 (fun a0 a1 a2 => withD TInt a0 fun n => withD TInt a1 fun low => withD TInt a2 fun high => K (dB (M.inR n low high)) []) args hp, .plain⟩
def cons66 : Cons := []
@[reducible] def C66 : Ctx := ⟨tab, fun t => memN t cmps, cons66, 15, [], 0, false⟩
theorem consOk66 : ConsOk P C66 := by
 exact consOk_nil
def ann66 : Nat → List Dir
 | 0 => [.keep [0, 1, 2]]
 | 1 => [.keep [6]]
 | _ => []
def L66 (n : Int) (low : Int) (high : Int) : Loops := fun id m st_ K => match id with
 | _ => False
theorem vc66 (n : Int) (low : Int) (high : Int) (K : KA) : awp C66 (L66 n low high) ann66 (bodyOf f66) ⟨argEnv 0 [dI n, dI low, dI high], []⟩ (outK tab false f66.results.toList (hasBox []) (resK (.dat Ty.bool) K)) =
 (cond ((decide (low ≤ n)) == true) (K (dB (decide (n ≤ high))) []) (K (dB false) [])) := by kernel_rfl
theorem con66_ok : ConOk P 66 c66 := by
 refine con_okR (fn := f66) (code := bodyOf f66) (tab_ok tab_check cmp_check) consOk66 mixed func66 rfl rfl fun args hp K h0 => ?_
 obtain ⟨a0, a1, a2, rfl, rfl, h1⟩ := args3_elim h0
 obtain ⟨n, rfl, h2⟩ := withD_elim h1
 obtain ⟨low, rfl, h3⟩ := withD_elim h2
 obtain ⟨high, rfl, h4⟩ := withD_elim h3
 have hK := h4
 have h : ok (F.impl_between n low high) (fun r => K (dB r) []) := ok_of_eq (F.impl_between_eq n low high) hK
 refine ⟨⟨show (3 : Nat) ≤ 15 by decide, show (3 : Nat) ≤ 1000000 by decide⟩, ann66, (L66 n low high), (.dat Ty.bool), (no_loops (by kernel_rfl)), ?_⟩
 ·rw [vc66 n low high K]
  exact (ok_cond h (fun b_1 h => (ok_ret h :)) (fun b_1 h => (ok_ret h :)))
def c167 : Con := ⟨[.dat TColumn], fun args hp K => args1 (fun a0 => withD TColumn a0 fun c => K (dB (!M.columnOk c)) []) args hp, .plain⟩
def cons167 : Cons := [(66, c66)]
@[reducible] def C167 : Ctx := ⟨tab, fun t => memN t cmps, cons167, 7, [], 0, false⟩
theorem consOk167 : ConsOk P C167 := by
 refine consOk_cons (enter_ok (fn := f66) func66 (by kernel_rfl) rfl) con66_ok ?_
 exact consOk_nil
def ann167 : Nat → List Dir
 | 0 => [.fixRow 1 TColumn, .keep [1]]
 | 1 => [.keep [2]]
 | _ => []
def L167 (c : (TColumn).D) : Loops := fun id m st_ K => match id with
 | _ => False
theorem vc167 (c : (TColumn).D) (K : KA) : awp C167 (L167 c) ann167 (bodyOf f167) ⟨argEnv 0 [.data TColumn c], []⟩ (outK tab false f167.results.toList (hasBox []) (resK (.dat Ty.bool) K)) =
 (K (dB (!(M.inR c.1 Z1 Z3))) []) := by kernel_rfl
theorem con167_ok : ConOk P 167 c167 := by
 refine con_okR (fn := f167) (code := bodyOf f167) (tab_ok tab_check cmp_check) consOk167 mixed func167 rfl rfl fun args hp K h0 => ?_
 obtain ⟨a0, rfl, rfl, h1⟩ := args1_elim h0
 obtain ⟨c, rfl, h2⟩ := withD_elim h1
 have hK := h2
 have h : ok (F.impl_ColumnsOk_1 c) (fun r => K (dB r) []) := ok_of_eq (F.impl_ColumnsOk_1_eq c) hK
 refine ⟨⟨show (1 : Nat) ≤ 7 by decide, show (1 : Nat) ≤ 1000000 by decide⟩, ann167, (L167 c), (.dat Ty.bool), (no_loops (by kernel_rfl)), ?_⟩
 ·rw [vc167 c K]
  exact (ok_ret h :)
def c196 : Con := ⟨[.lent TColumn, .any], fun args hp K => args2 (fun a0 a1 => withB TColumn a0 fun xs => withF 167 a1 (caps0 ((Sm TCS xs) ∧ K (dI (M.idx (t := TColumn) (fun e => !M.columnOk e) xs)) []))) args hp, .plain⟩
def cons196 : Cons := [(167, c167)]
@[reducible] def C196 : Ctx := ⟨tab, fun t => memN t cmps, cons196, 19, [], 0, false⟩
theorem consOk196 : ConsOk P C196 := by
 refine consOk_cons (enter_ok (fn := f167) func167 (by kernel_rfl) rfl) con167_ok ?_
 exact consOk_nil
def ann196 : Nat → List Dir
 | 0 => [.keep [0, 1]]
 | 1 => [.keep [0, 1, 7, 8]]
 | 2 => [.keep [0, 1, 7, 8, 9]]
 | 3 => [.keep [0, 1, 5, 7, 8]]
 | 4 => [.keep [0, 1, 5, 7, 8, 16]]
 | 5 => [.keep [4]]
 | 6 => [.keep [0, 1, 7, 8]]
 | 7 => [.keep [4]]
 | 100000 => [.keep []]
 | _ => []
@[reducible] def LP196_0 (xs : LC) (m : Nat) (st_ : St) (K : KX) : Prop := (True) ∧ LoopI (fun (i0 : Int) (v0 : Unit) => (⟨[(0, .brw TColumn xs), (1, .fn 167 []), (7, dI (xs.length : Int)), (8, dI i0)], []⟩ : St)) Z0 (xs.length : Int) (F.IndexFunc_impl_ColumnsOk_1_l0 xs) (fun v0 : Unit => True) (outD (fun v0 : Unit => True → K (.exit 0) (⟨[], []⟩ : St)) (fun q0 : Int => K .ret (⟨[(4, dI q0)], []⟩ : St))) m st_
def L196 (xs : LC) : Loops := fun id m st_ K => match id with
 | 0 => LP196_0 xs m st_ K
 | _ => False
theorem vc196 (xs : LC) (K : KA) : awp C196 (L196 xs) ann196 (bodyOf f196) ⟨argEnv 0 [.brw TColumn xs, .fn 167 []], []⟩ (outK tab false f196.results.toList (hasBox []) (resK (.dat TInt) K)) =
 ((∃ m_, (True) ∧ LoopI (fun (i0 : Int) (v0 : Unit) => (⟨[(0, .brw TColumn xs), (1, .fn 167 []), (7, dI (xs.length : Int)), (8, dI i0)], []⟩ : St)) Z0 (xs.length : Int) (F.IndexFunc_impl_ColumnsOk_1_l0 xs) (fun v0 : Unit => True) (outD (fun v0 : Unit => True → K (dI (-1 : Int)) []) (fun q0 : Int => K (dI q0) [])) m_ (⟨[(0, .brw TColumn xs), (1, .fn 167 []), (7, dI (xs.length : Int)), (8, dI Z0)], []⟩ : St))) := by kernel_rfl
theorem lvc196_0 (xs : LC)  (i0 : Int) (v0 : Unit) (m : Nat) (K : KX) : awp C196 (L196 xs) ann196 (loopAt (bodyOf f196) 0) (⟨[(0, .brw TColumn xs), (1, .fn 167 []), (7, dI (xs.length : Int)), (8, dI i0)], []⟩ : St) (thenW (fun s' => ∃ m', m' < m ∧ (L196 xs) 0 m' s' K) (exitN 0 (ann196 (behind 0)) K)) =
 (cond (decide (i0 < (xs.length : Int))) ((0 ≤ i0) ∧ (i0 < (xs.length : Int)) ∧ cond (!M.columnOk (nC xs i0)) (K .ret (⟨[(4, dI i0)], []⟩ : St)) ((∃ m_, m_ < m ∧ (L196 xs) 0 m_ (⟨[(0, .brw TColumn xs), (1, .fn 167 []), (7, dI (xs.length : Int)), (8, dI (wrap64 (i0 + Z1)))], []⟩ : St) K))) (K (.exit 0) (⟨[], []⟩ : St))) := by kernel_rfl
theorem con196_ok : ConOk P 196 c196 := by
 refine con_okR (fn := f196) (code := bodyOf f196) (tab_ok tab_check cmp_check) consOk196 mixed func196 rfl rfl fun args hp K h0 => ?_
 obtain ⟨a0, a1, rfl, rfl, h1⟩ := args2_elim h0
 obtain ⟨xs, rfl, h2⟩ := withB_elim h1
 obtain ⟨cs1, rfl, h3⟩ := withF_elim h2
 obtain ⟨rfl, h4⟩ := caps0_elim h3
 obtain ⟨h_xs, hK⟩ := h4
 have h : ok (F.IndexFunc_impl_ColumnsOk_1 xs) (fun r => K (dI r) []) := ok_of_eq (F.IndexFunc_impl_ColumnsOk_1_eq xs h_xs) hK
 refine ⟨⟨show (2 : Nat) ≤ 19 by decide, show (2 : Nat) ≤ 1000000 by decide⟩, ann196, (L196 xs), (.dat TInt), (loopsN1 (i0 := 0) (by kernel_rfl) ?_), ?_⟩
 ·clear h
  intro m_ s_ K_ h
  obtain ⟨hc0, i0, v0, rfl, hl0, rfl, hv0, h⟩ := (show LP196_0 xs m_ s_ K_ from h)
  rw [lvc196_0 xs i0 v0 _ K_]
  exact (loopI_step h (fun ht0 h => ⟨hl0, ⟨ht0, (ok_cond h (fun b_9 h => (ok_ret h :)) (fun b_9 h => (loopI_next (fun m hm => (show LP196_0 xs m _ _ from ⟨hc0, hm⟩)) () rfl hl0 low0 ht0 (sm_len h_xs) trivial (ok_ret h :))))⟩⟩) (fun h => (h trivial)))
 ·rw [vc196 xs K]
  exact (loopI_start (fun m hm => ⟨trivial, hm⟩) Z0 () rfl (Int.natCast_nonneg 0) trivial (ok_then h (fun v0 h hv0 => (ok_ret h :)) (fun q0 h => (ok_ret h :))))
def c166 : Con := ⟨[.lent TColumn, .any], fun args hp K => args2 (fun a0 a1 => withB TColumn a0 fun xs => withF 167 a1 (caps0 ((Sm TCS xs) ∧ K (dB (List.any xs (fun e => !M.columnOk e))) []))) args hp, .plain⟩
def cons166 : Cons := [(167, c167), (196, c196)]
@[reducible] def C166 : Ctx := ⟨tab, fun t => memN t cmps, cons166, 9, [], 0, false⟩
theorem consOk166 : ConsOk P C166 := by
 refine consOk_cons (enter_ok (fn := f167) func167 (by kernel_rfl) rfl) con167_ok ?_
 refine consOk_cons (enter_ok (fn := f196) func196 (by kernel_rfl) rfl) con196_ok ?_
 exact consOk_nil
def ann166 : Nat → List Dir
 | 0 => [.keep [0, 1]]
 | 1 => [.keep [4]]
 | _ => []
def L166 (xs : LC) : Loops := fun id m st_ K => match id with
 | _ => False
theorem vc166 (xs : LC) (K : KA) : awp C166 (L166 xs) ann166 (bodyOf f166) ⟨argEnv 0 [.brw TColumn xs, .fn 167 []], []⟩ (outK tab false f166.results.toList (hasBox []) (resK (.dat Ty.bool) K)) =
 ((Sm TCS xs) ∧ K (dB (decide (Z0 ≤ (M.idx (t := TColumn) (fun e => !M.columnOk e) xs)))) []) := by kernel_rfl
theorem con166_ok : ConOk P 166 c166 := by
 refine con_okR (fn := f166) (code := bodyOf f166) (tab_ok tab_check cmp_check) consOk166 mixed func166 rfl rfl fun args hp K h0 => ?_
 obtain ⟨a0, a1, rfl, rfl, h1⟩ := args2_elim h0
 obtain ⟨xs, rfl, h2⟩ := withB_elim h1
 obtain ⟨cs1, rfl, h3⟩ := withF_elim h2
 obtain ⟨rfl, h4⟩ := caps0_elim h3
 obtain ⟨h_xs, hK⟩ := h4
 have h : ok (F.ContainsFunc_impl_ColumnsOk_1 xs) (fun r => K (dB r) []) := ok_of_eq (F.ContainsFunc_impl_ColumnsOk_1_eq xs h_xs) hK
 refine ⟨⟨show (2 : Nat) ≤ 9 by decide, show (2 : Nat) ≤ 1000000 by decide⟩, ann166, (L166 xs), (.dat Ty.bool), (no_loops (by kernel_rfl)), ?_⟩
 ·rw [vc166 xs K]
  exact ⟨h_xs, (ok_ret h :)⟩
def c131 : Con := ⟨[.dat TCS], fun args hp K => args1 (fun a0 => withD TCS a0 fun columns => (Sm TCS columns) ∧ K (dB (M.columnsOk columns)) []) args hp, .plain⟩
def cons131 : Cons := [(166, c166)]
@[reducible] def C131 : Ctx := ⟨tab, fun t => memN t cmps, cons131, 11, [], 0, false⟩
theorem consOk131 : ConsOk P C131 := by
 refine consOk_cons (enter_ok (fn := f166) func166 (by kernel_rfl) rfl) con166_ok ?_
 exact consOk_nil
def ann131 : Nat → List Dir
 | 0 => [.keep [0]]
 | 1 => [.keep [2]]
 | _ => []
def L131 (columns : LC) : Loops := fun id m st_ K => match id with
 | _ => False
theorem vc131 (columns : LC) (K : KA) : awp C131 (L131 columns) ann131 (bodyOf f131) ⟨argEnv 0 [.data TCS columns], []⟩ (outK tab false f131.results.toList (hasBox []) (resK (.dat Ty.bool) K)) =
 (cond ((decide ((columns.length : Int) ≤ Z4)) == true) ((Sm TCS columns) ∧ K (dB (!(List.any columns (fun e => !M.columnOk e)))) []) (K (dB false) [])) := by kernel_rfl
theorem con131_ok : ConOk P 131 c131 := by
 refine con_okR (fn := f131) (code := bodyOf f131) (tab_ok tab_check cmp_check) consOk131 mixed func131 rfl rfl fun args hp K h0 => ?_
 obtain ⟨a0, rfl, rfl, h1⟩ := args1_elim h0
 obtain ⟨columns, rfl, h2⟩ := withD_elim h1
 obtain ⟨h_columns, hK⟩ := h2
 have h : ok (F.impl_ColumnsOk columns) (fun r => K (dB r) []) := ok_of_eq (F.impl_ColumnsOk_eq columns h_columns) hK
 refine ⟨⟨show (1 : Nat) ≤ 11 by decide, show (1 : Nat) ≤ 1000000 by decide⟩, ann131, (L131 columns), (.dat Ty.bool), (no_loops (by kernel_rfl)), ?_⟩
 ·rw [vc131 columns K]
  exact (ok_cond h (fun b_1 h => ⟨h_columns, (ok_ret h :)⟩) (fun b_1 h => (ok_ret h :)))
def c199 : Con := ⟨[.dat Ty.str], fun args hp K => args1 (fun a0 => withD Ty.str a0 fun s => (Sm Ty.str s) ∧ K (dB (M.lower (byteInts s))) []) args hp, .plain⟩
def cons199 : Cons := [(66, c66)]
@[reducible] def C199 : Ctx := ⟨tab, fun t => memN t cmps, cons199, 17, [], 0, false⟩
theorem consOk199 : ConsOk P C199 := by
 refine consOk_cons (enter_ok (fn := f66) func66 (by kernel_rfl) rfl) con66_ok ?_
 exact consOk_nil
def ann199 : Nat → List Dir
 | 0 => [.keep [0]]
 | 1 => [.keep [6, 7, 8]]
 | 2 => [.keep [6, 7, 8, 9]]
 | 3 => [.keep [4, 6, 7, 8]]
 | 4 => [.keep [6, 7, 8, 15]]
 | 5 => [.keep [2]]
 | 6 => [.keep [6, 7, 8]]
 | 7 => [.keep [2]]
 | 100000 => [.keep []]
 | _ => []
@[reducible] def LP199_0 (s : ByteArray) (m : Nat) (st_ : St) (K : KX) : Prop := (True) ∧ LoopE (t := (Ty.int .u8)) (fun (i0 : Int) (v0 : Unit) => (⟨[(6, .data (Ty.sl (Ty.int .u8)) (byteInts s)), (7, dI ((byteInts s).length : Int)), (8, dI i0)], []⟩ : St)) (byteInts s) (F.impl_letters_l0 s) (fun v0 : Unit => True) (outD (fun v0 : Unit => True → K (.exit 0) (⟨[], []⟩ : St)) (fun q0 : Unit => K .ret (⟨[(2, dB false)], []⟩ : St))) m st_
def L199 (s : ByteArray) : Loops := fun id m st_ K => match id with
 | 0 => LP199_0 s m st_ K
 | _ => False
theorem vc199 (s : ByteArray) (K : KA) : awp C199 (L199 s) ann199 (bodyOf f199) ⟨argEnv 0 [.data Ty.str s], []⟩ (outK tab false f199.results.toList (hasBox []) (resK (.dat Ty.bool) K)) =
 ((∃ m_, (True) ∧ LoopE (t := (Ty.int .u8)) (fun (i0 : Int) (v0 : Unit) => (⟨[(6, .data (Ty.sl (Ty.int .u8)) (byteInts s)), (7, dI ((byteInts s).length : Int)), (8, dI i0)], []⟩ : St)) (byteInts s) (F.impl_letters_l0 s) (fun v0 : Unit => True) (outD (fun v0 : Unit => True → K (dB true) []) (fun q0 : Unit => K (dB false) [])) m_ (⟨[(6, .data (Ty.sl (Ty.int .u8)) (byteInts s)), (7, dI ((byteInts s).length : Int)), (8, dI Z0)], []⟩ : St))) := by kernel_rfl
theorem lvc199_0 (s : ByteArray)  (i0 : Int) (v0 : Unit) (m : Nat) (K : KX) : awp C199 (L199 s) ann199 (loopAt (bodyOf f199) 0) (⟨[(6, .data (Ty.sl (Ty.int .u8)) (byteInts s)), (7, dI ((byteInts s).length : Int)), (8, dI i0)], []⟩ : St) (thenW (fun s' => ∃ m', m' < m ∧ (L199 s) 0 m' s' K) (exitN 0 (ann199 (behind 0)) K)) =
 (cond (decide (i0 < ((byteInts s).length : Int))) ((0 ≤ i0) ∧ (i0 < ((byteInts s).length : Int)) ∧ cond (!(M.inR (wrap64 ((nth (t := (Ty.int .u8)) (byteInts s) i0))) (97 : Int) (122 : Int))) (K .ret (⟨[(2, dB false)], []⟩ : St)) ((∃ m_, m_ < m ∧ (L199 s) 0 m_ (⟨[(6, .data (Ty.sl (Ty.int .u8)) (byteInts s)), (7, dI ((byteInts s).length : Int)), (8, dI (wrap64 (i0 + Z1)))], []⟩ : St) K))) (K (.exit 0) (⟨[], []⟩ : St))) := by kernel_rfl
theorem con199_ok : ConOk P 199 c199 := by
 refine con_okR (fn := f199) (code := bodyOf f199) (tab_ok tab_check cmp_check) consOk199 mixed func199 rfl rfl fun args hp K h0 => ?_
 obtain ⟨a0, rfl, rfl, h1⟩ := args1_elim h0
 obtain ⟨s, rfl, h2⟩ := withD_elim h1
 obtain ⟨h_s, hK⟩ := h2
 have h : ok (F.impl_letters s) (fun r => K (dB r) []) := ok_of_eq (F.impl_letters_eq s h_s) hK
 refine ⟨⟨show (1 : Nat) ≤ 17 by decide, show (1 : Nat) ≤ 1000000 by decide⟩, ann199, (L199 s), (.dat Ty.bool), (loopsN1 (i0 := 0) (by kernel_rfl) ?_), ?_⟩
 ·clear h
  intro m_ s_ K_ h
  obtain ⟨hc0, i0, v0, rfl, hl0, rfl, hv0, h⟩ := (show LP199_0 s m_ s_ K_ from h)
  rw [lvc199_0 s i0 v0 _ K_]
  exact (loopE_step (t := (Ty.int .u8)) hl0 h (fun ht0 h => ⟨hl0, ⟨ht0, (ok_cond h (fun b_9 h => (ok_ret h :)) (fun b_9 h => (loopE_next (t := (Ty.int .u8)) (fun m hm => (show LP199_0 s m _ _ from ⟨hc0, hm⟩)) () rfl hl0 ht0 (sm_len (sm_bytes h_s)) trivial (ok_ret h :))))⟩⟩) (fun h => (h trivial)))
 ·rw [vc199 s K]
  exact (loopE_start (t := (Ty.int .u8)) (fun m hm => ⟨trivial, hm⟩) () rfl trivial (ok_then h (fun v0 h hv0 => (ok_ret h :)) (fun q0 h => (ok_ret h :))))
def c171 : Con := ⟨[.dat TValue], fun args hp K => args1 (fun a0 => withD TValue a0 fun v => (Sm TValue v) ∧ K (dB (M.valueOk v)) []) args hp, .plain⟩
def cons171 : Cons := [(66, c66), (199, c199)]
@[reducible] def C171 : Ctx := ⟨tab, fun t => memN t cmps, cons171, 46, [], 0, false⟩
theorem consOk171 : ConsOk P C171 := by
 refine consOk_cons (enter_ok (fn := f66) func66 (by kernel_rfl) rfl) con66_ok ?_
 refine consOk_cons (enter_ok (fn := f199) func199 (by kernel_rfl) rfl) con199_ok ?_
 exact consOk_nil
def ann171 : Nat → List Dir
 | 0 => [.fixRow 1 TValue, .keep [1]]
 | 1 => [.keep [1, 4]]
 | 2 => [.keep [1, 4, 5]]
 | 3 => [.keep [2]]
 | 4 => [.keep [1, 4, 10]]
 | 5 => [.keep [2]]
 | 6 => [.keep [1, 4, 20]]
 | 7 => [.keep [2]]
 | 8 => [.keep [1, 36]]
 | 9 => [.keep [2]]
 | 10 => [.keep [2]]
 | _ => []
def L171 (v : (TValue).D) : Loops := fun id m st_ K => match id with
 | _ => False
theorem vc171 (v : (TValue).D) (K : KA) : awp C171 (L171 v) ann171 (bodyOf f171) ⟨argEnv 0 [.data TValue v], []⟩ (outK tab false f171.results.toList (hasBox []) (resK (.dat Ty.bool) K)) =
 (cond (decide (v.1 = Z0)) (K (dB (Ty.beq TValue v (Z0, (Z0, ((⟨#[]⟩ : ByteArray), ()))))) []) (cond (decide (v.1 = Z1)) (cond ((decide (v.2.2.1 = (⟨#[]⟩ : ByteArray))) == true) (K (dB (M.inR v.2.1 (-9999 : Int) (9999 : Int))) []) (K (dB false) [])) (cond (decide (v.1 = Z2)) (cond ((decide (v.2.1 = Z0)) == true) (cond ((decide ((v.2.2.1.size : Int) ≤ Z6)) == true) ((Sm Ty.str v.2.2.1) ∧ K (dB (M.lower (byteInts v.2.2.1))) []) (K (dB false) [])) (K (dB false) [])) (cond (decide (v.1 = Z3)) (cond ((decide (v.2.2.1 = (⟨#[]⟩ : ByteArray))) == true) (K (dB (M.inR v.2.1 Z0 Z1)) []) (K (dB false) [])) (K (dB false) []))))) := by kernel_rfl
theorem con171_ok : ConOk P 171 c171 := by
 refine con_okR (fn := f171) (code := bodyOf f171) (tab_ok tab_check cmp_check) consOk171 mixed func171 rfl rfl fun args hp K h0 => ?_
 obtain ⟨a0, rfl, rfl, h1⟩ := args1_elim h0
 obtain ⟨v, rfl, h2⟩ := withD_elim h1
 obtain ⟨h_v, hK⟩ := h2
 have h : ok (F.impl_Value_ok v) (fun r => K (dB r) []) := ok_of_eq (F.impl_Value_ok_eq v h_v) hK
 refine ⟨⟨show (1 : Nat) ≤ 46 by decide, show (1 : Nat) ≤ 1000000 by decide⟩, ann171, (L171 v), (.dat Ty.bool), (no_loops (by kernel_rfl)), ?_⟩
 ·rw [vc171 v K]
  exact (ok_cond h (fun b_1 h => (ok_ret h :)) (fun b_1 h => (ok_cond h (fun b_2 h => (ok_cond h (fun b_3 h => (ok_ret h :)) (fun b_3 h => (ok_ret h :)))) (fun b_2 h => (ok_cond h (fun b_4 h => (ok_cond h (fun b_5 h => (ok_cond h (fun b_6 h => ⟨h_v.2.2.1, (ok_ret h :)⟩) (fun b_6 h => (ok_ret h :)))) (fun b_5 h => (ok_ret h :)))) (fun b_4 h => (ok_cond h (fun b_7 h => (ok_cond h (fun b_8 h => (ok_ret h :)) (fun b_8 h => (ok_ret h :)))) (fun b_7 h => (ok_ret h :)))))))))
def c210 : Con := ⟨[.dat TValue], fun args hp K => args1 (fun a0 => withD TValue a0 fun v => (Sm TValue v) ∧ K (dB (!M.valueOk v)) []) args hp, .plain⟩
def cons210 : Cons := [(171, c171)]
@[reducible] def C210 : Ctx := ⟨tab, fun t => memN t cmps, cons210, 6, [], 0, false⟩
theorem consOk210 : ConsOk P C210 := by
 refine consOk_cons (enter_ok (fn := f171) func171 (by kernel_rfl) rfl) con171_ok ?_
 exact consOk_nil
def ann210 : Nat → List Dir
 | 0 => [.fixRow 1 TValue, .keep [1]]
 | 1 => [.keep [2]]
 | _ => []
def L210 (v : (TValue).D) : Loops := fun id m st_ K => match id with
 | _ => False
theorem vc210 (v : (TValue).D) (K : KA) : awp C210 (L210 v) ann210 (bodyOf f210) ⟨argEnv 0 [.data TValue v], []⟩ (outK tab false f210.results.toList (hasBox []) (resK (.dat Ty.bool) K)) =
 ((Sm TValue v) ∧ K (dB (!(M.valueOk v))) []) := by kernel_rfl
theorem con210_ok : ConOk P 210 c210 := by
 refine con_okR (fn := f210) (code := bodyOf f210) (tab_ok tab_check cmp_check) consOk210 mixed func210 rfl rfl fun args hp K h0 => ?_
 obtain ⟨a0, rfl, rfl, h1⟩ := args1_elim h0
 obtain ⟨v, rfl, h2⟩ := withD_elim h1
 obtain ⟨h_v, hK⟩ := h2
 have h : ok (F.impl_RowOk_1 v) (fun r => K (dB r) []) := ok_of_eq (F.impl_RowOk_1_eq v h_v) hK
 refine ⟨⟨show (1 : Nat) ≤ 6 by decide, show (1 : Nat) ≤ 1000000 by decide⟩, ann210, (L210 v), (.dat Ty.bool), (no_loops (by kernel_rfl)), ?_⟩
 ·rw [vc210 v K]
  exact ⟨h_v, (ok_ret h :)⟩
def c216 : Con := ⟨[.lent TValue, .any], fun args hp K => args2 (fun a0 a1 => withB TValue a0 fun xs => withF 210 a1 (caps0 ((Sm TVS xs) ∧ K (dI (M.idx (t := TValue) (fun e => !M.valueOk e) xs)) []))) args hp, .plain⟩
def cons216 : Cons := [(210, c210)]
@[reducible] def C216 : Ctx := ⟨tab, fun t => memN t cmps, cons216, 19, [], 0, false⟩
theorem consOk216 : ConsOk P C216 := by
 refine consOk_cons (enter_ok (fn := f210) func210 (by kernel_rfl) rfl) con210_ok ?_
 exact consOk_nil
def ann216 : Nat → List Dir
 | 0 => [.keep [0, 1]]
 | 1 => [.keep [0, 1, 7, 8]]
 | 2 => [.keep [0, 1, 7, 8, 9]]
 | 3 => [.keep [0, 1, 5, 7, 8]]
 | 4 => [.keep [0, 1, 5, 7, 8, 16]]
 | 5 => [.keep [4]]
 | 6 => [.keep [0, 1, 7, 8]]
 | 7 => [.keep [4]]
 | 100000 => [.keep []]
 | _ => []
@[reducible] def LP216_0 (xs : LV) (m : Nat) (st_ : St) (K : KX) : Prop := (True) ∧ LoopI (fun (i0 : Int) (v0 : Unit) => (⟨[(0, .brw TValue xs), (1, .fn 210 []), (7, dI (xs.length : Int)), (8, dI i0)], []⟩ : St)) Z0 (xs.length : Int) (F.IndexFunc_impl_RowOk_1_l0 xs) (fun v0 : Unit => True) (outD (fun v0 : Unit => True → K (.exit 0) (⟨[], []⟩ : St)) (fun q0 : Int => K .ret (⟨[(4, dI q0)], []⟩ : St))) m st_
def L216 (xs : LV) : Loops := fun id m st_ K => match id with
 | 0 => LP216_0 xs m st_ K
 | _ => False
theorem vc216 (xs : LV) (K : KA) : awp C216 (L216 xs) ann216 (bodyOf f216) ⟨argEnv 0 [.brw TValue xs, .fn 210 []], []⟩ (outK tab false f216.results.toList (hasBox []) (resK (.dat TInt) K)) =
 ((∃ m_, (True) ∧ LoopI (fun (i0 : Int) (v0 : Unit) => (⟨[(0, .brw TValue xs), (1, .fn 210 []), (7, dI (xs.length : Int)), (8, dI i0)], []⟩ : St)) Z0 (xs.length : Int) (F.IndexFunc_impl_RowOk_1_l0 xs) (fun v0 : Unit => True) (outD (fun v0 : Unit => True → K (dI (-1 : Int)) []) (fun q0 : Int => K (dI q0) [])) m_ (⟨[(0, .brw TValue xs), (1, .fn 210 []), (7, dI (xs.length : Int)), (8, dI Z0)], []⟩ : St))) := by kernel_rfl
theorem lvc216_0 (xs : LV)  (i0 : Int) (v0 : Unit) (m : Nat) (K : KX) : awp C216 (L216 xs) ann216 (loopAt (bodyOf f216) 0) (⟨[(0, .brw TValue xs), (1, .fn 210 []), (7, dI (xs.length : Int)), (8, dI i0)], []⟩ : St) (thenW (fun s' => ∃ m', m' < m ∧ (L216 xs) 0 m' s' K) (exitN 0 (ann216 (behind 0)) K)) =
 (cond (decide (i0 < (xs.length : Int))) ((0 ≤ i0) ∧ (i0 < (xs.length : Int)) ∧ (Sm TValue (nV xs i0)) ∧ cond (!M.valueOk (nV xs i0)) (K .ret (⟨[(4, dI i0)], []⟩ : St)) ((∃ m_, m_ < m ∧ (L216 xs) 0 m_ (⟨[(0, .brw TValue xs), (1, .fn 210 []), (7, dI (xs.length : Int)), (8, dI (wrap64 (i0 + Z1)))], []⟩ : St) K))) (K (.exit 0) (⟨[], []⟩ : St))) := by kernel_rfl
theorem con216_ok : ConOk P 216 c216 := by
 refine con_okR (fn := f216) (code := bodyOf f216) (tab_ok tab_check cmp_check) consOk216 mixed func216 rfl rfl fun args hp K h0 => ?_
 obtain ⟨a0, a1, rfl, rfl, h1⟩ := args2_elim h0
 obtain ⟨xs, rfl, h2⟩ := withB_elim h1
 obtain ⟨cs1, rfl, h3⟩ := withF_elim h2
 obtain ⟨rfl, h4⟩ := caps0_elim h3
 obtain ⟨h_xs, hK⟩ := h4
 have h : ok (F.IndexFunc_impl_RowOk_1 xs) (fun r => K (dI r) []) := ok_of_eq (F.IndexFunc_impl_RowOk_1_eq xs h_xs) hK
 refine ⟨⟨show (2 : Nat) ≤ 19 by decide, show (2 : Nat) ≤ 1000000 by decide⟩, ann216, (L216 xs), (.dat TInt), (loopsN1 (i0 := 0) (by kernel_rfl) ?_), ?_⟩
 ·clear h
  intro m_ s_ K_ h
  obtain ⟨hc0, i0, v0, rfl, hl0, rfl, hv0, h⟩ := (show LP216_0 xs m_ s_ K_ from h)
  rw [lvc216_0 xs i0 v0 _ K_]
  exact (loopI_step h (fun ht0 h => ⟨hl0, ⟨ht0, ⟨(sm_nth h_xs i0), (ok_cond h (fun b_9 h => (ok_ret h :)) (fun b_9 h => (loopI_next (fun m hm => (show LP216_0 xs m _ _ from ⟨hc0, hm⟩)) () rfl hl0 low0 ht0 (sm_len h_xs) trivial (ok_ret h :))))⟩⟩⟩) (fun h => (h trivial)))
 ·rw [vc216 xs K]
  exact (loopI_start (fun m hm => ⟨trivial, hm⟩) Z0 () rfl (Int.natCast_nonneg 0) trivial (ok_then h (fun v0 h hv0 => (ok_ret h :)) (fun q0 h => (ok_ret h :))))
def c209 : Con := ⟨[.lent TValue, .any], fun args hp K => args2 (fun a0 a1 => withB TValue a0 fun xs => withF 210 a1 (caps0 ((Sm TVS xs) ∧ K (dB (List.any xs (fun e => !M.valueOk e))) []))) args hp, .plain⟩
def cons209 : Cons := [(210, c210), (216, c216)]
@[reducible] def C209 : Ctx := ⟨tab, fun t => memN t cmps, cons209, 9, [], 0, false⟩
theorem consOk209 : ConsOk P C209 := by
 refine consOk_cons (enter_ok (fn := f210) func210 (by kernel_rfl) rfl) con210_ok ?_
 refine consOk_cons (enter_ok (fn := f216) func216 (by kernel_rfl) rfl) con216_ok ?_
 exact consOk_nil
def ann209 : Nat → List Dir
 | 0 => [.keep [0, 1]]
 | 1 => [.keep [4]]
 | _ => []
def L209 (xs : LV) : Loops := fun id m st_ K => match id with
 | _ => False
theorem vc209 (xs : LV) (K : KA) : awp C209 (L209 xs) ann209 (bodyOf f209) ⟨argEnv 0 [.brw TValue xs, .fn 210 []], []⟩ (outK tab false f209.results.toList (hasBox []) (resK (.dat Ty.bool) K)) =
 ((Sm TVS xs) ∧ K (dB (decide (Z0 ≤ (M.idx (t := TValue) (fun e => !M.valueOk e) xs)))) []) := by kernel_rfl
theorem con209_ok : ConOk P 209 c209 := by
 refine con_okR (fn := f209) (code := bodyOf f209) (tab_ok tab_check cmp_check) consOk209 mixed func209 rfl rfl fun args hp K h0 => ?_
 obtain ⟨a0, a1, rfl, rfl, h1⟩ := args2_elim h0
 obtain ⟨xs, rfl, h2⟩ := withB_elim h1
 obtain ⟨cs1, rfl, h3⟩ := withF_elim h2
 obtain ⟨rfl, h4⟩ := caps0_elim h3
 obtain ⟨h_xs, hK⟩ := h4
 have h : ok (F.ContainsFunc_impl_RowOk_1 xs) (fun r => K (dB r) []) := ok_of_eq (F.ContainsFunc_impl_RowOk_1_eq xs h_xs) hK
 refine ⟨⟨show (2 : Nat) ≤ 9 by decide, show (2 : Nat) ≤ 1000000 by decide⟩, ann209, (L209 xs), (.dat Ty.bool), (no_loops (by kernel_rfl)), ?_⟩
 ·rw [vc209 xs K]
  exact ⟨h_xs, (ok_ret h :)⟩
def c198 : Con := ⟨[.dat TVS], fun args hp K => args1 (fun a0 => withD TVS a0 fun row => (Sm TVS row) ∧ K (dB (M.rowOk row)) []) args hp, .plain⟩
def cons198 : Cons := [(209, c209)]
@[reducible] def C198 : Ctx := ⟨tab, fun t => memN t cmps, cons198, 11, [], 0, false⟩
theorem consOk198 : ConsOk P C198 := by
 refine consOk_cons (enter_ok (fn := f209) func209 (by kernel_rfl) rfl) con209_ok ?_
 exact consOk_nil
def ann198 : Nat → List Dir
 | 0 => [.keep [0]]
 | 1 => [.keep [2]]
 | _ => []
def L198 (row : LV) : Loops := fun id m st_ K => match id with
 | _ => False
theorem vc198 (row : LV) (K : KA) : awp C198 (L198 row) ann198 (bodyOf f198) ⟨argEnv 0 [.data TVS row], []⟩ (outK tab false f198.results.toList (hasBox []) (resK (.dat Ty.bool) K)) =
 (cond ((decide ((row.length : Int) ≤ Z4)) == true) ((Sm TVS row) ∧ K (dB (!(List.any row (fun e => !M.valueOk e)))) []) (K (dB false) [])) := by kernel_rfl
theorem con198_ok : ConOk P 198 c198 := by
 refine con_okR (fn := f198) (code := bodyOf f198) (tab_ok tab_check cmp_check) consOk198 mixed func198 rfl rfl fun args hp K h0 => ?_
 obtain ⟨a0, rfl, rfl, h1⟩ := args1_elim h0
 obtain ⟨row, rfl, h2⟩ := withD_elim h1
 obtain ⟨h_row, hK⟩ := h2
 have h : ok (F.impl_RowOk row) (fun r => K (dB r) []) := ok_of_eq (F.impl_RowOk_eq row h_row) hK
 refine ⟨⟨show (1 : Nat) ≤ 11 by decide, show (1 : Nat) ≤ 1000000 by decide⟩, ann198, (L198 row), (.dat Ty.bool), (no_loops (by kernel_rfl)), ?_⟩
 ·rw [vc198 row K]
  exact (ok_cond h (fun b_1 h => ⟨h_row, (ok_ret h :)⟩) (fun b_1 h => (ok_ret h :)))
def c170 : Con := ⟨[.dat TCS, .dat TVS], fun args hp K => args2 (fun a0 a1 => withD TCS a0 fun columns => withD TVS a1 fun row => (Sm TCS columns) ∧ (Sm TVS row) ∧ K (dB (M.rowFits columns row)) []) args hp, .plain⟩
def cons170 : Cons := [(131, c131), (198, c198)]
@[reducible] def C170 : Ctx := ⟨tab, fun t => memN t cmps, cons170, 51, [], 0, false⟩
theorem consOk170 : ConsOk P C170 := by
 refine consOk_cons (enter_ok (fn := f131) func131 (by kernel_rfl) rfl) con131_ok ?_
 refine consOk_cons (enter_ok (fn := f198) func198 (by kernel_rfl) rfl) con198_ok ?_
 exact consOk_nil
def ann170 : Nat → List Dir
 | 0 => [.keep [0, 1]]
 | 1 => [.keep [0, 1, 21]]
 | 2 => [.keep [4]]
 | 3 => [.keep [0, 22, 23, 24]]
 | 4 => [.keep [0, 22, 23, 24, 25]]
 | 5 => [.fixRow 6 TValue, .keep [0, 5, 6, 22, 23, 24]]
 | 6 => [.keep [0, 22, 23, 24, 49]]
 | 7 => [.keep [4]]
 | 8 => [.keep [0, 22, 23, 24]]
 | 9 => [.keep [4]]
 | 100000 => [.keep []]
 | _ => []
@[reducible] def LP170_0 (columns : LC) (row : LV) (m : Nat) (st_ : St) (K : KX) : Prop := (True) ∧ LoopI (fun (i0 : Int) (v0 : Unit) => (⟨[(0, .data TCS columns), (22, .data TVS row), (23, dI (row.length : Int)), (24, dI i0)], []⟩ : St)) Z0 (row.length : Int) (F.impl_RowFits_l0 columns row) (fun v0 : Unit => True) (outD (fun v0 : Unit => True → K (.exit 0) (⟨[], []⟩ : St)) (fun q0 : Unit => K .ret (⟨[(4, dB false)], []⟩ : St))) m st_
def L170 (columns : LC) (row : LV) : Loops := fun id m st_ K => match id with
 | 0 => LP170_0 columns row m st_ K
 | _ => False
theorem vc170 (columns : LC) (row : LV) (K : KA) : awp C170 (L170 columns row) ann170 (bodyOf f170) ⟨argEnv 0 [.data TCS columns, .data TVS row], []⟩ (outK tab false f170.results.toList (hasBox []) (resK (.dat Ty.bool) K)) =
 ((Sm TCS columns) ∧ cond ((!(M.columnsOk columns)) == false) ((Sm TVS row) ∧ cond ((!(M.rowOk row)) == false) (cond (!decide ((row.length : Int) = (columns.length : Int))) (K (dB false) []) ((∃ m_, (True) ∧ LoopI (fun (i0 : Int) (v0 : Unit) => (⟨[(0, .data TCS columns), (22, .data TVS row), (23, dI (row.length : Int)), (24, dI i0)], []⟩ : St)) Z0 (row.length : Int) (F.impl_RowFits_l0 columns row) (fun v0 : Unit => True) (outD (fun v0 : Unit => True → K (dB true) []) (fun q0 : Unit => K (dB false) [])) m_ (⟨[(0, .data TCS columns), (22, .data TVS row), (23, dI (row.length : Int)), (24, dI Z0)], []⟩ : St)))) (K (dB false) [])) (K (dB false) [])) := by kernel_rfl
@[reducible] def S170l0_0 (columns : LC) (row : LV)  (i0 : Int) (v0 : Unit) (m : Nat) (K : KX) : Prop := (∃ m_, m_ < m ∧ (L170 columns row) 0 m_ (⟨[(0, .data TCS columns), (22, .data TVS row), (23, dI (row.length : Int)), (24, dI (wrap64 (i0 + Z1)))], []⟩ : St) K)
theorem lvc170_0 (columns : LC) (row : LV)  (i0 : Int) (v0 : Unit) (m : Nat) (K : KX) : awp C170 (L170 columns row) ann170 (loopAt (bodyOf f170) 0) (⟨[(0, .data TCS columns), (22, .data TVS row), (23, dI (row.length : Int)), (24, dI i0)], []⟩ : St) (thenW (fun s' => ∃ m', m' < m ∧ (L170 columns row) 0 m' s' K) (exitN 0 (ann170 (behind 0)) K)) =
 (cond (decide (i0 < (row.length : Int))) ((0 ≤ i0) ∧ (i0 < (row.length : Int)) ∧ (0 ≤ i0) ∧ (i0 < (columns.length : Int)) ∧ cond ((!decide ((nV row i0).1 = (nC columns i0).1)) == true) (cond ((!decide ((nV row i0).1 = Z0)) == false) ((0 ≤ i0) ∧ (i0 < (columns.length : Int)) ∧ cond (!(((nC columns i0).2).1)) (K .ret (⟨[(4, dB false)], []⟩ : St)) ((S170l0_0  columns row i0 v0 m K))) (K .ret (⟨[(4, dB false)], []⟩ : St))) ((S170l0_0  columns row i0 v0 m K))) (K (.exit 0) (⟨[], []⟩ : St))) := by kernel_rfl
theorem con170_ok : ConOk P 170 c170 := by
 refine con_okR (fn := f170) (code := bodyOf f170) (tab_ok tab_check cmp_check) consOk170 mixed func170 rfl rfl fun args hp K h0 => ?_
 obtain ⟨a0, a1, rfl, rfl, h1⟩ := args2_elim h0
 obtain ⟨columns, rfl, h2⟩ := withD_elim h1
 obtain ⟨row, rfl, h3⟩ := withD_elim h2
 obtain ⟨h_columns, h_row, hK⟩ := h3
 have h : ok (F.impl_RowFits columns row) (fun r => K (dB r) []) := ok_of_eq (F.impl_RowFits_eq columns row h_columns h_row) hK
 refine ⟨⟨show (2 : Nat) ≤ 51 by decide, show (2 : Nat) ≤ 1000000 by decide⟩, ann170, (L170 columns row), (.dat Ty.bool), (loopsN1 (i0 := 0) (by kernel_rfl) ?_), ?_⟩
 ·clear h
  intro m_ s_ K_ h
  obtain ⟨hc0, i0, v0, rfl, hl0, rfl, hv0, h⟩ := (show LP170_0 columns row m_ s_ K_ from h)
  rw [lvc170_0 columns row i0 v0 _ K_]
  exact (loopI_step h (fun ht0 h => ⟨hl0, ⟨ht0, ⟨hl0, ⟨(ok_guard h).1, have g_18 := (ok_guard h).1; have h := (ok_guard h).2; (ok_cond h (fun b_19 h => (ok_cond h (fun b_20 h => ⟨hl0, ⟨g_18, (ok_cond h (fun b_21 h => (ok_ret h :)) (fun b_21 h => (loopI_next (fun m hm => (show LP170_0 columns row m _ _ from ⟨hc0, hm⟩)) () rfl hl0 low0 ht0 (sm_len h_row) trivial (ok_ret h :))))⟩⟩) (fun b_20 h => (ok_ret h :)))) (fun b_19 h => (loopI_next (fun m hm => (show LP170_0 columns row m _ _ from ⟨hc0, hm⟩)) () rfl hl0 low0 ht0 (sm_len h_row) trivial (ok_ret h :))))⟩⟩⟩⟩) (fun h => (h trivial)))
 ·rw [vc170 columns row K]
  exact ⟨h_columns, (ok_cond h (fun b_1 h => ⟨h_row, (ok_cond h (fun b_2 h => (ok_cond h (fun b_3 h => (ok_ret h :)) (fun b_3 h => (loopI_start (fun m hm => ⟨trivial, hm⟩) Z0 () rfl (Int.natCast_nonneg 0) trivial (ok_then h (fun v0 h hv0 => (ok_ret h :)) (fun q0 h => (ok_ret h :))))))) (fun b_2 h => (ok_ret h :)))⟩) (fun b_1 h => (ok_ret h :)))⟩
def c169 : Con := ⟨[.dat TVS, .any], fun args hp K => args2 (fun a0 a1 => withD TVS a0 fun r => withR TCS a1 fun columns => (Sm TVS r) ∧ (Sm TCS columns) ∧ K (dB (!M.rowFits columns r)) []) args hp, .plain⟩
def cons169 : Cons := [(170, c170)]
@[reducible] def C169 : Ctx := ⟨tab, fun t => memN t cmps, cons169, 8, [], 0, false⟩
theorem consOk169 : ConsOk P C169 := by
 refine consOk_cons (enter_ok (fn := f170) func170 (by kernel_rfl) rfl) con170_ok ?_
 exact consOk_nil
def ann169 : Nat → List Dir
 | 0 => [.keep [0, 1]]
 | 1 => [.keep [3]]
 | _ => []
def L169 (r : LV) (columns : LC) : Loops := fun id m st_ K => match id with
 | _ => False
theorem vc169 (r : LV) (columns : LC) (K : KA) : awp C169 (L169 r columns) ann169 (bodyOf f169) ⟨argEnv 0 [.data TVS r, .ref (.data TCS columns)], []⟩ (outK tab false f169.results.toList (hasBox []) (resK (.dat Ty.bool) K)) =
 ((Sm TCS columns) ∧ (Sm TVS r) ∧ K (dB (!(M.rowFits columns r))) []) := by kernel_rfl
theorem con169_ok : ConOk P 169 c169 := by
 refine con_okR (fn := f169) (code := bodyOf f169) (tab_ok tab_check cmp_check) consOk169 mixed func169 rfl rfl fun args hp K h0 => ?_
 obtain ⟨a0, a1, rfl, rfl, h1⟩ := args2_elim h0
 obtain ⟨r, rfl, h2⟩ := withD_elim h1
 obtain ⟨columns, rfl, h3⟩ := withR_elim h2
 obtain ⟨h_r, h_columns, hK⟩ := h3
 have h : ok (F.impl_RowsOk_1 r columns) (fun r => K (dB r) []) := ok_of_eq (F.impl_RowsOk_1_eq r columns h_r h_columns) hK
 refine ⟨⟨show (2 : Nat) ≤ 8 by decide, show (2 : Nat) ≤ 1000000 by decide⟩, ann169, (L169 r columns), (.dat Ty.bool), (no_loops (by kernel_rfl)), ?_⟩
 ·rw [vc169 r columns K]
  exact ⟨h_columns, ⟨h_r, (ok_ret h :)⟩⟩
def c197 : Con := ⟨[.lent TVS, .any], fun args hp K => args2 (fun a0 a1 => withB TVS a0 fun xs => withF 169 a1 (caps1 (fun b1_0 => withR TCS b1_0 fun k0 => (Sm (Ty.sl TVS) xs) ∧ (Sm TCS k0) ∧ K (dI (M.idx (t := TVS) (fun e => !M.rowFits k0 e) xs)) []))) args hp, .plain⟩
def cons197 : Cons := [(169, c169)]
@[reducible] def C197 : Ctx := ⟨tab, fun t => memN t cmps, cons197, 19, [], 0, false⟩
theorem consOk197 : ConsOk P C197 := by
 refine consOk_cons (enter_ok (fn := f169) func169 (by kernel_rfl) rfl) con169_ok ?_
 exact consOk_nil
def ann197 : Nat → List Dir
 | 0 => [.keep [0, 1]]
 | 1 => [.keep [0, 1, 7, 8]]
 | 2 => [.keep [0, 1, 7, 8, 9]]
 | 3 => [.keep [0, 1, 5, 7, 8]]
 | 4 => [.keep [0, 1, 5, 7, 8, 16]]
 | 5 => [.keep [4]]
 | 6 => [.keep [0, 1, 7, 8]]
 | 7 => [.keep [4]]
 | 100000 => [.keep []]
 | _ => []
@[reducible] def LP197_0 (xs : (List LV)) (k0 : LC) (m : Nat) (st_ : St) (K : KX) : Prop := (True) ∧ LoopI (fun (i0 : Int) (v0 : Unit) => (⟨[(0, .brw TVS xs), (1, .fn 169 [.ref (.data TCS k0)]), (7, dI (xs.length : Int)), (8, dI i0)], []⟩ : St)) Z0 (xs.length : Int) (F.IndexFunc_impl_RowsOk_1_l0 xs k0) (fun v0 : Unit => True) (outD (fun v0 : Unit => True → K (.exit 0) (⟨[], []⟩ : St)) (fun q0 : Int => K .ret (⟨[(4, dI q0)], []⟩ : St))) m st_
def L197 (xs : (List LV)) (k0 : LC) : Loops := fun id m st_ K => match id with
 | 0 => LP197_0 xs k0 m st_ K
 | _ => False
theorem vc197 (xs : (List LV)) (k0 : LC) (K : KA) : awp C197 (L197 xs k0) ann197 (bodyOf f197) ⟨argEnv 0 [.brw TVS xs, .fn 169 [.ref (.data TCS k0)]], []⟩ (outK tab false f197.results.toList (hasBox []) (resK (.dat TInt) K)) =
 ((∃ m_, (True) ∧ LoopI (fun (i0 : Int) (v0 : Unit) => (⟨[(0, .brw TVS xs), (1, .fn 169 [.ref (.data TCS k0)]), (7, dI (xs.length : Int)), (8, dI i0)], []⟩ : St)) Z0 (xs.length : Int) (F.IndexFunc_impl_RowsOk_1_l0 xs k0) (fun v0 : Unit => True) (outD (fun v0 : Unit => True → K (dI (-1 : Int)) []) (fun q0 : Int => K (dI q0) [])) m_ (⟨[(0, .brw TVS xs), (1, .fn 169 [.ref (.data TCS k0)]), (7, dI (xs.length : Int)), (8, dI Z0)], []⟩ : St))) := by kernel_rfl
theorem lvc197_0 (xs : (List LV)) (k0 : LC)  (i0 : Int) (v0 : Unit) (m : Nat) (K : KX) : awp C197 (L197 xs k0) ann197 (loopAt (bodyOf f197) 0) (⟨[(0, .brw TVS xs), (1, .fn 169 [.ref (.data TCS k0)]), (7, dI (xs.length : Int)), (8, dI i0)], []⟩ : St) (thenW (fun s' => ∃ m', m' < m ∧ (L197 xs k0) 0 m' s' K) (exitN 0 (ann197 (behind 0)) K)) =
 (cond (decide (i0 < (xs.length : Int))) ((0 ≤ i0) ∧ (i0 < (xs.length : Int)) ∧ (Sm TVS (nth (t := TVS) xs i0)) ∧ (Sm TCS k0) ∧ cond (!M.rowFits k0 (nth (t := TVS) xs i0)) (K .ret (⟨[(4, dI i0)], []⟩ : St)) ((∃ m_, m_ < m ∧ (L197 xs k0) 0 m_ (⟨[(0, .brw TVS xs), (1, .fn 169 [.ref (.data TCS k0)]), (7, dI (xs.length : Int)), (8, dI (wrap64 (i0 + Z1)))], []⟩ : St) K))) (K (.exit 0) (⟨[], []⟩ : St))) := by kernel_rfl
theorem con197_ok : ConOk P 197 c197 := by
 refine con_okR (fn := f197) (code := bodyOf f197) (tab_ok tab_check cmp_check) consOk197 mixed func197 rfl rfl fun args hp K h0 => ?_
 obtain ⟨a0, a1, rfl, rfl, h1⟩ := args2_elim h0
 obtain ⟨xs, rfl, h2⟩ := withB_elim h1
 obtain ⟨cs1, rfl, h3⟩ := withF_elim h2
 obtain ⟨b1_0, rfl, h4⟩ := caps1_elim h3
 obtain ⟨k0, rfl, h5⟩ := withR_elim h4
 obtain ⟨h_xs, h_k0, hK⟩ := h5
 have h : ok (F.IndexFunc_impl_RowsOk_1 xs k0) (fun r => K (dI r) []) := ok_of_eq (F.IndexFunc_impl_RowsOk_1_eq xs k0 h_xs h_k0) hK
 refine ⟨⟨show (2 : Nat) ≤ 19 by decide, show (2 : Nat) ≤ 1000000 by decide⟩, ann197, (L197 xs k0), (.dat TInt), (loopsN1 (i0 := 0) (by kernel_rfl) ?_), ?_⟩
 ·clear h
  intro m_ s_ K_ h
  obtain ⟨hc0, i0, v0, rfl, hl0, rfl, hv0, h⟩ := (show LP197_0 xs k0 m_ s_ K_ from h)
  rw [lvc197_0 xs k0 i0 v0 _ K_]
  exact (loopI_step h (fun ht0 h => ⟨hl0, ⟨ht0, ⟨(sm_nth h_xs i0), ⟨h_k0, (ok_cond h (fun b_9 h => (ok_ret h :)) (fun b_9 h => (loopI_next (fun m hm => (show LP197_0 xs k0 m _ _ from ⟨hc0, hm⟩)) () rfl hl0 low0 ht0 (sm_len h_xs) trivial (ok_ret h :))))⟩⟩⟩⟩) (fun h => (h trivial)))
 ·rw [vc197 xs k0 K]
  exact (loopI_start (fun m hm => ⟨trivial, hm⟩) Z0 () rfl (Int.natCast_nonneg 0) trivial (ok_then h (fun v0 h hv0 => (ok_ret h :)) (fun q0 h => (ok_ret h :))))
def c168 : Con := ⟨[.lent TVS, .any], fun args hp K => args2 (fun a0 a1 => withB TVS a0 fun xs => withF 169 a1 (caps1 (fun b1_0 => withR TCS b1_0 fun k0 => (Sm (Ty.sl TVS) xs) ∧ (Sm TCS k0) ∧ K (dB (List.any xs (fun e => !M.rowFits k0 e))) []))) args hp, .plain⟩
def cons168 : Cons := [(169, c169), (197, c197)]
@[reducible] def C168 : Ctx := ⟨tab, fun t => memN t cmps, cons168, 9, [], 0, false⟩
theorem consOk168 : ConsOk P C168 := by
 refine consOk_cons (enter_ok (fn := f169) func169 (by kernel_rfl) rfl) con169_ok ?_
 refine consOk_cons (enter_ok (fn := f197) func197 (by kernel_rfl) rfl) con197_ok ?_
 exact consOk_nil
def ann168 : Nat → List Dir
 | 0 => [.keep [0, 1]]
 | 1 => [.keep [4]]
 | _ => []
def L168 (xs : (List LV)) (k0 : LC) : Loops := fun id m st_ K => match id with
 | _ => False
theorem vc168 (xs : (List LV)) (k0 : LC) (K : KA) : awp C168 (L168 xs k0) ann168 (bodyOf f168) ⟨argEnv 0 [.brw TVS xs, .fn 169 [.ref (.data TCS k0)]], []⟩ (outK tab false f168.results.toList (hasBox []) (resK (.dat Ty.bool) K)) =
 ((Sm (Ty.sl TVS) xs) ∧ (Sm TCS k0) ∧ K (dB (decide (Z0 ≤ (M.idx (t := TVS) (fun e => !M.rowFits k0 e) xs)))) []) := by kernel_rfl
theorem con168_ok : ConOk P 168 c168 := by
 refine con_okR (fn := f168) (code := bodyOf f168) (tab_ok tab_check cmp_check) consOk168 mixed func168 rfl rfl fun args hp K h0 => ?_
 obtain ⟨a0, a1, rfl, rfl, h1⟩ := args2_elim h0
 obtain ⟨xs, rfl, h2⟩ := withB_elim h1
 obtain ⟨cs1, rfl, h3⟩ := withF_elim h2
 obtain ⟨b1_0, rfl, h4⟩ := caps1_elim h3
 obtain ⟨k0, rfl, h5⟩ := withR_elim h4
 obtain ⟨h_xs, h_k0, hK⟩ := h5
 have h : ok (F.ContainsFunc_impl_RowsOk_1 xs k0) (fun r => K (dB r) []) := ok_of_eq (F.ContainsFunc_impl_RowsOk_1_eq xs k0 h_xs h_k0) hK
 refine ⟨⟨show (2 : Nat) ≤ 9 by decide, show (2 : Nat) ≤ 1000000 by decide⟩, ann168, (L168 xs k0), (.dat Ty.bool), (no_loops (by kernel_rfl)), ?_⟩
 ·rw [vc168 xs k0 K]
  exact ⟨h_xs, ⟨h_k0, (ok_ret h :)⟩⟩
def c132 : Con := ⟨[.dat TCS, .dat (Ty.sl TVS)], fun args hp K => args2 (fun a0 a1 => withD TCS a0 fun columns => withD (Ty.sl TVS) a1 fun rows => (Sm TCS columns) ∧ (Sm (Ty.sl TVS) rows) ∧ K (dB (M.rowsOk columns rows)) []) args hp, .plain⟩
def cons132 : Cons := [(131, c131), (168, c168), (169, c169)]
@[reducible] def C132 : Ctx := ⟨tab, fun t => memN t cmps, cons132, 13, [], 0, false⟩
theorem consOk132 : ConsOk P C132 := by
 refine consOk_cons (enter_ok (fn := f131) func131 (by kernel_rfl) rfl) con131_ok ?_
 refine consOk_cons (enter_ok (fn := f168) func168 (by kernel_rfl) rfl) con168_ok ?_
 refine consOk_cons (enter_ok (fn := f169) func169 (by kernel_rfl) rfl) con169_ok ?_
 exact consOk_nil
def ann132 : Nat → List Dir
 | 0 => [.fixBox 2, .keep [1, 2]]
 | 1 => [.keep [4]]
 | _ => []
def L132 (columns : LC) (rows : (List LV)) : Loops := fun id m st_ K => match id with
 | _ => False
theorem vc132 (columns : LC) (rows : (List LV)) (K : KA) : awp C132 (L132 columns rows) ann132 (bodyOf f132) ⟨argEnv 0 [.data TCS columns, .data (Ty.sl TVS) rows], []⟩ (outK tab false f132.results.toList (hasBox []) (resK (.dat Ty.bool) K)) =
 ((Sm TCS columns) ∧ cond ((M.columnsOk columns) == true) ((Sm (Ty.sl TVS) rows) ∧ (Sm TCS columns) ∧ K (dB (!(List.any rows (fun e => !M.rowFits columns e)))) []) (K (dB false) [])) := by kernel_rfl
theorem con132_ok : ConOk P 132 c132 := by
 refine con_okR (fn := f132) (code := bodyOf f132) (tab_ok tab_check cmp_check) consOk132 mixed func132 rfl rfl fun args hp K h0 => ?_
 obtain ⟨a0, a1, rfl, rfl, h1⟩ := args2_elim h0
 obtain ⟨columns, rfl, h2⟩ := withD_elim h1
 obtain ⟨rows, rfl, h3⟩ := withD_elim h2
 obtain ⟨h_columns, h_rows, hK⟩ := h3
 have h : ok (F.impl_RowsOk columns rows) (fun r => K (dB r) []) := ok_of_eq (F.impl_RowsOk_eq columns rows h_columns h_rows) hK
 refine ⟨⟨show (2 : Nat) ≤ 13 by decide, show (2 : Nat) ≤ 1000000 by decide⟩, ann132, (L132 columns rows), (.dat Ty.bool), (no_loops (by kernel_rfl)), ?_⟩
 ·rw [vc132 columns rows K]
  exact ⟨h_columns, (ok_cond h (fun b_1 h => ⟨h_rows, ⟨h_columns, (ok_ret h :)⟩⟩) (fun b_1 h => (ok_ret h :)))⟩
def c130 : Con := ⟨[.dat TTable], fun args hp K => args1 (fun a0 => withD TTable a0 fun t => (Sm TTable t) ∧ K (dB (!M.tableOk t)) []) args hp, .plain⟩
def cons130 : Cons := [(131, c131), (132, c132)]
@[reducible] def C130 : Ctx := ⟨tab, fun t => memN t cmps, cons130, 21, [], 0, false⟩
theorem consOk130 : ConsOk P C130 := by
 refine consOk_cons (enter_ok (fn := f131) func131 (by kernel_rfl) rfl) con131_ok ?_
 refine consOk_cons (enter_ok (fn := f132) func132 (by kernel_rfl) rfl) con132_ok ?_
 exact consOk_nil
def ann130 : Nat → List Dir
 | 0 => [.fixRow 1 TTable, .keep [1]]
 | 1 => [.keep [2]]
 | _ => []
def L130 (t : (TTable).D) : Loops := fun id m st_ K => match id with
 | _ => False
theorem vc130 (t : (TTable).D) (K : KA) : awp C130 (L130 t) ann130 (bodyOf f130) ⟨argEnv 0 [.data TTable t], []⟩ (outK tab false f130.results.toList (hasBox []) (resK (.dat Ty.bool) K)) =
 ((Sm TCS t.1) ∧ cond ((!(M.columnsOk t.1)) == false) (cond ((decide (Z6 < (t.2.1.length : Int))) == false) ((Sm TCS t.1) ∧ (Sm (Ty.sl TVS) t.2.1) ∧ K (dB (!(M.rowsOk t.1 t.2.1))) []) (K (dB true) [])) (K (dB true) [])) := by kernel_rfl
theorem con130_ok : ConOk P 130 c130 := by
 refine con_okR (fn := f130) (code := bodyOf f130) (tab_ok tab_check cmp_check) consOk130 mixed func130 rfl rfl fun args hp K h0 => ?_
 obtain ⟨a0, rfl, rfl, h1⟩ := args1_elim h0
 obtain ⟨t, rfl, h2⟩ := withD_elim h1
 obtain ⟨h_t, hK⟩ := h2
 have h : ok (F.impl_TablesOk_1 t) (fun r => K (dB r) []) := ok_of_eq (F.impl_TablesOk_1_eq t h_t) hK
 refine ⟨⟨show (1 : Nat) ≤ 21 by decide, show (1 : Nat) ≤ 1000000 by decide⟩, ann130, (L130 t), (.dat Ty.bool), (no_loops (by kernel_rfl)), ?_⟩
 ·rw [vc130 t K]
  exact ⟨h_t.1, (ok_cond h (fun b_1 h => (ok_cond h (fun b_2 h => ⟨h_t.1, ⟨h_t.2.1, (ok_ret h :)⟩⟩) (fun b_2 h => (ok_ret h :)))) (fun b_1 h => (ok_ret h :)))⟩
def c165 : Con := ⟨[.lent TTable, .any], fun args hp K => args2 (fun a0 a1 => withB TTable a0 fun xs => withF 130 a1 (caps0 ((Sm TTb xs) ∧ K (dI (M.idx (t := TTable) (fun e => !M.tableOk e) xs)) []))) args hp, .plain⟩
def cons165 : Cons := [(130, c130)]
@[reducible] def C165 : Ctx := ⟨tab, fun t => memN t cmps, cons165, 19, [], 0, false⟩
theorem consOk165 : ConsOk P C165 := by
 refine consOk_cons (enter_ok (fn := f130) func130 (by kernel_rfl) rfl) con130_ok ?_
 exact consOk_nil
def ann165 : Nat → List Dir
 | 0 => [.keep [0, 1]]
 | 1 => [.keep [0, 1, 7, 8]]
 | 2 => [.keep [0, 1, 7, 8, 9]]
 | 3 => [.keep [0, 1, 5, 7, 8]]
 | 4 => [.keep [0, 1, 5, 7, 8, 16]]
 | 5 => [.keep [4]]
 | 6 => [.keep [0, 1, 7, 8]]
 | 7 => [.keep [4]]
 | 100000 => [.keep []]
 | _ => []
@[reducible] def LP165_0 (xs : LTb) (m : Nat) (st_ : St) (K : KX) : Prop := (True) ∧ LoopI (fun (i0 : Int) (v0 : Unit) => (⟨[(0, .brw TTable xs), (1, .fn 130 []), (7, dI (xs.length : Int)), (8, dI i0)], []⟩ : St)) Z0 (xs.length : Int) (F.IndexFunc_impl_TablesOk_1_l0 xs) (fun v0 : Unit => True) (outD (fun v0 : Unit => True → K (.exit 0) (⟨[], []⟩ : St)) (fun q0 : Int => K .ret (⟨[(4, dI q0)], []⟩ : St))) m st_
def L165 (xs : LTb) : Loops := fun id m st_ K => match id with
 | 0 => LP165_0 xs m st_ K
 | _ => False
theorem vc165 (xs : LTb) (K : KA) : awp C165 (L165 xs) ann165 (bodyOf f165) ⟨argEnv 0 [.brw TTable xs, .fn 130 []], []⟩ (outK tab false f165.results.toList (hasBox []) (resK (.dat TInt) K)) =
 ((∃ m_, (True) ∧ LoopI (fun (i0 : Int) (v0 : Unit) => (⟨[(0, .brw TTable xs), (1, .fn 130 []), (7, dI (xs.length : Int)), (8, dI i0)], []⟩ : St)) Z0 (xs.length : Int) (F.IndexFunc_impl_TablesOk_1_l0 xs) (fun v0 : Unit => True) (outD (fun v0 : Unit => True → K (dI (-1 : Int)) []) (fun q0 : Int => K (dI q0) [])) m_ (⟨[(0, .brw TTable xs), (1, .fn 130 []), (7, dI (xs.length : Int)), (8, dI Z0)], []⟩ : St))) := by kernel_rfl
theorem lvc165_0 (xs : LTb)  (i0 : Int) (v0 : Unit) (m : Nat) (K : KX) : awp C165 (L165 xs) ann165 (loopAt (bodyOf f165) 0) (⟨[(0, .brw TTable xs), (1, .fn 130 []), (7, dI (xs.length : Int)), (8, dI i0)], []⟩ : St) (thenW (fun s' => ∃ m', m' < m ∧ (L165 xs) 0 m' s' K) (exitN 0 (ann165 (behind 0)) K)) =
 (cond (decide (i0 < (xs.length : Int))) ((0 ≤ i0) ∧ (i0 < (xs.length : Int)) ∧ (Sm TTable (nT xs i0)) ∧ cond (!M.tableOk (nT xs i0)) (K .ret (⟨[(4, dI i0)], []⟩ : St)) ((∃ m_, m_ < m ∧ (L165 xs) 0 m_ (⟨[(0, .brw TTable xs), (1, .fn 130 []), (7, dI (xs.length : Int)), (8, dI (wrap64 (i0 + Z1)))], []⟩ : St) K))) (K (.exit 0) (⟨[], []⟩ : St))) := by kernel_rfl
theorem con165_ok : ConOk P 165 c165 := by
 refine con_okR (fn := f165) (code := bodyOf f165) (tab_ok tab_check cmp_check) consOk165 mixed func165 rfl rfl fun args hp K h0 => ?_
 obtain ⟨a0, a1, rfl, rfl, h1⟩ := args2_elim h0
 obtain ⟨xs, rfl, h2⟩ := withB_elim h1
 obtain ⟨cs1, rfl, h3⟩ := withF_elim h2
 obtain ⟨rfl, h4⟩ := caps0_elim h3
 obtain ⟨h_xs, hK⟩ := h4
 have h : ok (F.IndexFunc_impl_TablesOk_1 xs) (fun r => K (dI r) []) := ok_of_eq (F.IndexFunc_impl_TablesOk_1_eq xs h_xs) hK
 refine ⟨⟨show (2 : Nat) ≤ 19 by decide, show (2 : Nat) ≤ 1000000 by decide⟩, ann165, (L165 xs), (.dat TInt), (loopsN1 (i0 := 0) (by kernel_rfl) ?_), ?_⟩
 ·clear h
  intro m_ s_ K_ h
  obtain ⟨hc0, i0, v0, rfl, hl0, rfl, hv0, h⟩ := (show LP165_0 xs m_ s_ K_ from h)
  rw [lvc165_0 xs i0 v0 _ K_]
  exact (loopI_step h (fun ht0 h => ⟨hl0, ⟨ht0, ⟨(sm_nth h_xs i0), (ok_cond h (fun b_9 h => (ok_ret h :)) (fun b_9 h => (loopI_next (fun m hm => (show LP165_0 xs m _ _ from ⟨hc0, hm⟩)) () rfl hl0 low0 ht0 (sm_len h_xs) trivial (ok_ret h :))))⟩⟩⟩) (fun h => (h trivial)))
 ·rw [vc165 xs K]
  exact (loopI_start (fun m hm => ⟨trivial, hm⟩) Z0 () rfl (Int.natCast_nonneg 0) trivial (ok_then h (fun v0 h hv0 => (ok_ret h :)) (fun q0 h => (ok_ret h :))))
def c129 : Con := ⟨[.lent TTable, .any], fun args hp K => args2 (fun a0 a1 => withB TTable a0 fun xs => withF 130 a1 (caps0 ((Sm TTb xs) ∧ K (dB (List.any xs (fun e => !M.tableOk e))) []))) args hp, .plain⟩
def cons129 : Cons := [(130, c130), (165, c165)]
@[reducible] def C129 : Ctx := ⟨tab, fun t => memN t cmps, cons129, 9, [], 0, false⟩
theorem consOk129 : ConsOk P C129 := by
 refine consOk_cons (enter_ok (fn := f130) func130 (by kernel_rfl) rfl) con130_ok ?_
 refine consOk_cons (enter_ok (fn := f165) func165 (by kernel_rfl) rfl) con165_ok ?_
 exact consOk_nil
def ann129 : Nat → List Dir
 | 0 => [.keep [0, 1]]
 | 1 => [.keep [4]]
 | _ => []
def L129 (xs : LTb) : Loops := fun id m st_ K => match id with
 | _ => False
theorem vc129 (xs : LTb) (K : KA) : awp C129 (L129 xs) ann129 (bodyOf f129) ⟨argEnv 0 [.brw TTable xs, .fn 130 []], []⟩ (outK tab false f129.results.toList (hasBox []) (resK (.dat Ty.bool) K)) =
 ((Sm TTb xs) ∧ K (dB (decide (Z0 ≤ (M.idx (t := TTable) (fun e => !M.tableOk e) xs)))) []) := by kernel_rfl
theorem con129_ok : ConOk P 129 c129 := by
 refine con_okR (fn := f129) (code := bodyOf f129) (tab_ok tab_check cmp_check) consOk129 mixed func129 rfl rfl fun args hp K h0 => ?_
 obtain ⟨a0, a1, rfl, rfl, h1⟩ := args2_elim h0
 obtain ⟨xs, rfl, h2⟩ := withB_elim h1
 obtain ⟨cs1, rfl, h3⟩ := withF_elim h2
 obtain ⟨rfl, h4⟩ := caps0_elim h3
 obtain ⟨h_xs, hK⟩ := h4
 have h : ok (F.ContainsFunc_impl_TablesOk_1 xs) (fun r => K (dB r) []) := ok_of_eq (F.ContainsFunc_impl_TablesOk_1_eq xs h_xs) hK
 refine ⟨⟨show (2 : Nat) ≤ 9 by decide, show (2 : Nat) ≤ 1000000 by decide⟩, ann129, (L129 xs), (.dat Ty.bool), (no_loops (by kernel_rfl)), ?_⟩
 ·rw [vc129 xs K]
  exact ⟨h_xs, (ok_ret h :)⟩
def c99 : Con := ⟨[.dat TTb], fun args hp K => args1 (fun a0 => withD TTb a0 fun tables => (Sm TTb tables) ∧ K (dB (M.tablesOk tables)) []) args hp, .plain⟩
def cons99 : Cons := [(129, c129)]
@[reducible] def C99 : Ctx := ⟨tab, fun t => memN t cmps, cons99, 11, [], 0, false⟩
theorem consOk99 : ConsOk P C99 := by
 refine consOk_cons (enter_ok (fn := f129) func129 (by kernel_rfl) rfl) con129_ok ?_
 exact consOk_nil
def ann99 : Nat → List Dir
 | 0 => [.keep [0]]
 | 1 => [.keep [2]]
 | _ => []
def L99 (tables : LTb) : Loops := fun id m st_ K => match id with
 | _ => False
theorem vc99 (tables : LTb) (K : KA) : awp C99 (L99 tables) ann99 (bodyOf f99) ⟨argEnv 0 [.data TTb tables], []⟩ (outK tab false f99.results.toList (hasBox []) (resK (.dat Ty.bool) K)) =
 (cond ((decide ((tables.length : Int) ≤ Z3)) == true) ((Sm TTb tables) ∧ K (dB (!(List.any tables (fun e => !M.tableOk e)))) []) (K (dB false) [])) := by kernel_rfl
theorem con99_ok : ConOk P 99 c99 := by
 refine con_okR (fn := f99) (code := bodyOf f99) (tab_ok tab_check cmp_check) consOk99 mixed func99 rfl rfl fun args hp K h0 => ?_
 obtain ⟨a0, rfl, rfl, h1⟩ := args1_elim h0
 obtain ⟨tables, rfl, h2⟩ := withD_elim h1
 obtain ⟨h_tables, hK⟩ := h2
 have h : ok (F.impl_TablesOk tables) (fun r => K (dB r) []) := ok_of_eq (F.impl_TablesOk_eq tables h_tables) hK
 refine ⟨⟨show (1 : Nat) ≤ 11 by decide, show (1 : Nat) ≤ 1000000 by decide⟩, ann99, (L99 tables), (.dat Ty.bool), (no_loops (by kernel_rfl)), ?_⟩
 ·rw [vc99 tables K]
  exact (ok_cond h (fun b_1 h => ⟨h_tables, (ok_ret h :)⟩) (fun b_1 h => (ok_ret h :)))
def c133 : Con := ⟨[.dat TPart], fun args hp K => args1 (fun a0 => withD TPart a0 fun p => (Sm TPart p) ∧ K (dI (M.takes p)) []) args hp, .plain⟩
def cons133 : Cons := []
@[reducible] def C133 : Ctx := ⟨tab, fun t => memN t cmps, cons133, 13, [], 0, false⟩
theorem consOk133 : ConsOk P C133 := by
 exact consOk_nil
def ann133 : Nat → List Dir
 | 0 => [.fixRow 1 TPart, .keep [1]]
 | 1 => [.keep [4]]
 | 2 => [.keep [4, 5]]
 | 3 => [.keep [4, 5]]
 | 4 => [.keep [4, 5]]
 | 5 => [.keep [4, 5]]
 | 6 => [.keep [2]]
 | 7 => [.keep [4, 10]]
 | 8 => [.keep [10]]
 | 9 => [.keep [2]]
 | 10 => [.keep [2]]
 | _ => []
def L133 (p : (TPart).D) : Loops := fun id m st_ K => match id with
 | _ => False
@[reducible] def S133_0 (p : (TPart).D) (K : KA) : Prop := cond (decide (p.1 = (7 : Int))) (cond (decide (p.1 = (7 : Int))) (K (dI Z1) []) (K (dI Z0) [])) (cond (decide (p.1 = (8 : Int))) (K (dI Z1) []) (K (dI Z0) []))
theorem vc133 (p : (TPart).D) (K : KA) : awp C133 (L133 p) ann133 (bodyOf f133) ⟨argEnv 0 [.data TPart p], []⟩ (outK tab false f133.results.toList (hasBox []) (resK (.dat TInt) K)) =
 (cond (decide (p.1 = Z3)) (cond (decide (p.1 = Z3)) (K (dI Z2) []) ((S133_0 p K))) (cond (decide (p.1 = Z4)) (cond (decide (p.1 = Z4)) (K (dI Z2) []) ((S133_0 p K))) (cond (decide (p.1 = Z5)) (cond (decide (p.1 = Z5)) (K (dI Z2) []) ((S133_0 p K))) (cond (decide (p.1 = Z6)) (K (dI Z2) []) ((S133_0 p K)))))) := by kernel_rfl
theorem con133_ok : ConOk P 133 c133 := by
 refine con_okR (fn := f133) (code := bodyOf f133) (tab_ok tab_check cmp_check) consOk133 mixed func133 rfl rfl fun args hp K h0 => ?_
 obtain ⟨a0, rfl, rfl, h1⟩ := args1_elim h0
 obtain ⟨p, rfl, h2⟩ := withD_elim h1
 obtain ⟨h_p, hK⟩ := h2
 have h : ok (F.impl_Part_takes p) (fun r => K (dI r) []) := ok_of_eq (F.impl_Part_takes_eq p h_p) hK
 refine ⟨⟨show (1 : Nat) ≤ 13 by decide, show (1 : Nat) ≤ 1000000 by decide⟩, ann133, (L133 p), (.dat TInt), (no_loops (by kernel_rfl)), ?_⟩
 ·rw [vc133 p K]
  exact (ok_cond h (fun b_1 h => (cond_t b_1 (ok_ret h :))) (fun b_1 h => (ok_cond h (fun b_6 h => (cond_t b_6 (ok_ret h :))) (fun b_6 h => (ok_cond h (fun b_11 h => (cond_t b_11 (ok_ret h :))) (fun b_11 h => (ok_cond h (fun b_16 h => (ok_ret h :)) (fun b_16 h => (ok_cond h (fun b_17 h => (cond_t b_17 (ok_ret h :))) (fun b_17 h => (ok_cond h (fun b_19 h => (ok_ret h :)) (fun b_19 h => (ok_ret h :)))))))))))))
def c134 : Con := ⟨[.dat TPart, .dat TCS], fun args hp K => args2 (fun a0 a1 => withD TPart a0 fun p => withD TCS a1 fun columns => (Sm TPart p) ∧ (Sm TCS columns) ∧ K (dB (M.tells p columns)) []) args hp, .plain⟩
def cons134 : Cons := [(66, c66), (171, c171)]
@[reducible] def C134 : Ctx := ⟨tab, fun t => memN t cmps, cons134, 63, [], 0, false⟩
theorem consOk134 : ConsOk P C134 := by
 refine consOk_cons (enter_ok (fn := f66) func66 (by kernel_rfl) rfl) con66_ok ?_
 refine consOk_cons (enter_ok (fn := f171) func171 (by kernel_rfl) rfl) con171_ok ?_
 exact consOk_nil
def ann134 : Nat → List Dir
 | 0 => [.fixRow 2 TPart, .keep [1, 2]]
 | 1 => [.keep [1, 2, 6]]
 | 2 => [.keep [1, 2, 6, 7]]
 | 3 => [.keep [4]]
 | 4 => [.keep [1, 2, 6, 23]]
 | 5 => [.keep [4]]
 | 6 => [.keep [2, 6, 37]]
 | 7 => [.keep [4]]
 | 8 => [.keep [2, 6, 48]]
 | 9 => [.keep [2, 6, 48]]
 | 10 => [.keep [2, 6, 48]]
 | 11 => [.keep [2, 6, 48]]
 | 12 => [.keep [2, 48]]
 | 13 => [.keep [4]]
 | 14 => [.keep [4]]
 | _ => []
def L134 (p : (TPart).D) (columns : LC) : Loops := fun id m st_ K => match id with
 | _ => False
@[reducible] def S134_0 (p : (TPart).D) (columns : LC) (K : KA) : Prop := cond ((decide (p.2.1 = Z0)) == true) (K (dB (Ty.beq TValue p.2.2.1 (Z0, (Z0, ((⟨#[]⟩ : ByteArray), ()))))) []) (K (dB false) [])
theorem vc134 (p : (TPart).D) (columns : LC) (K : KA) : awp C134 (L134 p columns) ann134 (bodyOf f134) ⟨argEnv 0 [.data TPart p, .data TCS columns], []⟩ (outK tab false f134.results.toList (hasBox []) (resK (.dat Ty.bool) K)) =
 (cond (decide (p.1 = Z1)) (cond ((decide (p.2.1 = Z0)) == true) ((Sm TValue p.2.2.1) ∧ cond ((M.valueOk p.2.2.1) == true) (K (dB (!decide (p.2.2.1.1 = Z0))) []) (K (dB false) [])) (K (dB false) [])) (cond (decide (p.1 = Z2)) (cond ((M.inR p.2.1 Z0 (wrap64 ((columns.length : Int) - Z1))) == true) (K (dB (Ty.beq TValue p.2.2.1 (Z0, (Z0, ((⟨#[]⟩ : ByteArray), ()))))) []) (K (dB false) [])) (cond (decide (p.1 = Z4)) (cond ((M.inR p.2.1 Z1 Z4) == true) (K (dB (Ty.beq TValue p.2.2.1 (Z0, (Z0, ((⟨#[]⟩ : ByteArray), ()))))) []) (K (dB false) [])) (cond (decide (p.1 = Z3)) (cond (decide (p.1 = Z3)) ((S134_0 p columns K)) (K (dB false) [])) (cond (decide (p.1 = Z5)) (cond (decide (p.1 = Z5)) ((S134_0 p columns K)) (K (dB false) [])) (cond (decide (p.1 = Z6)) (cond (decide (p.1 = Z6)) ((S134_0 p columns K)) (K (dB false) [])) (cond (decide (p.1 = (7 : Int))) (cond (decide (p.1 = (7 : Int))) ((S134_0 p columns K)) (K (dB false) [])) (cond (decide (p.1 = (8 : Int))) ((S134_0 p columns K)) (K (dB false) []))))))))) := by kernel_rfl
theorem con134_ok : ConOk P 134 c134 := by
 refine con_okR (fn := f134) (code := bodyOf f134) (tab_ok tab_check cmp_check) consOk134 mixed func134 rfl rfl fun args hp K h0 => ?_
 obtain ⟨a0, a1, rfl, rfl, h1⟩ := args2_elim h0
 obtain ⟨p, rfl, h2⟩ := withD_elim h1
 obtain ⟨columns, rfl, h3⟩ := withD_elim h2
 obtain ⟨h_p, h_columns, hK⟩ := h3
 have h : ok (F.impl_Part_tells p columns) (fun r => K (dB r) []) := ok_of_eq (F.impl_Part_tells_eq p columns h_p h_columns) hK
 refine ⟨⟨show (2 : Nat) ≤ 63 by decide, show (2 : Nat) ≤ 1000000 by decide⟩, ann134, (L134 p columns), (.dat Ty.bool), (no_loops (by kernel_rfl)), ?_⟩
 ·rw [vc134 p columns K]
  exact (ok_cond h (fun b_1 h => (ok_cond h (fun b_2 h => ⟨h_p.2.2.1, (ok_cond h (fun b_3 h => (ok_ret h :)) (fun b_3 h => (ok_ret h :)))⟩) (fun b_2 h => (ok_ret h :)))) (fun b_1 h => (ok_cond h (fun b_4 h => (ok_cond h (fun b_5 h => (ok_ret h :)) (fun b_5 h => (ok_ret h :)))) (fun b_4 h => (ok_cond h (fun b_6 h => (ok_cond h (fun b_7 h => (ok_ret h :)) (fun b_7 h => (ok_ret h :)))) (fun b_6 h => (ok_cond h (fun b_8 h => (cond_t b_8 (ok_cond h (fun b_10 h => (ok_ret h :)) (fun b_10 h => (ok_ret h :))))) (fun b_8 h => (ok_cond h (fun b_11 h => (cond_t b_11 (ok_cond h (fun b_13 h => (ok_ret h :)) (fun b_13 h => (ok_ret h :))))) (fun b_11 h => (ok_cond h (fun b_14 h => (cond_t b_14 (ok_cond h (fun b_16 h => (ok_ret h :)) (fun b_16 h => (ok_ret h :))))) (fun b_14 h => (ok_cond h (fun b_17 h => (cond_t b_17 (ok_cond h (fun b_19 h => (ok_ret h :)) (fun b_19 h => (ok_ret h :))))) (fun b_17 h => (ok_cond h (fun b_20 h => (ok_cond h (fun b_21 h => (ok_ret h :)) (fun b_21 h => (ok_ret h :)))) (fun b_20 h => (ok_ret h :)))))))))))))))))
def c174 : Con := ⟨[.dat TInt, .any], fun args hp K => args2 (fun a0 a1 => withD TInt a0 fun k => withR TInt a1 fun kind => K (dB (!decide (k = kind))) []) args hp, .plain⟩
def cons174 : Cons := []
@[reducible] def C174 : Ctx := ⟨tab, fun t => memN t cmps, cons174, 7, [], 0, false⟩
theorem consOk174 : ConsOk P C174 := by
 exact consOk_nil
def ann174 : Nat → List Dir
 | 0 => [.keep [0, 1]]
 | 1 => [.keep [3]]
 | _ => []
def L174 (k : Int) (kind : Int) : Loops := fun id m st_ K => match id with
 | _ => False
theorem vc174 (k : Int) (kind : Int) (K : KA) : awp C174 (L174 k kind) ann174 (bodyOf f174) ⟨argEnv 0 [dI k, .ref (dI kind)], []⟩ (outK tab false f174.results.toList (hasBox []) (resK (.dat Ty.bool) K)) =
 (K (dB (!decide (k = kind))) []) := by kernel_rfl
theorem con174_ok : ConOk P 174 c174 := by
 refine con_okR (fn := f174) (code := bodyOf f174) (tab_ok tab_check cmp_check) consOk174 mixed func174 rfl rfl fun args hp K h0 => ?_
 obtain ⟨a0, a1, rfl, rfl, h1⟩ := args2_elim h0
 obtain ⟨k, rfl, h2⟩ := withD_elim h1
 obtain ⟨kind, rfl, h3⟩ := withR_elim h2
 have hK := h3
 have h : ok (F.impl_Part_kind_1_1 k kind) (fun r => K (dB r) []) := ok_of_eq (F.impl_Part_kind_1_1_eq k kind) hK
 refine ⟨⟨show (2 : Nat) ≤ 7 by decide, show (2 : Nat) ≤ 1000000 by decide⟩, ann174, (L174 k kind), (.dat Ty.bool), (no_loops (by kernel_rfl)), ?_⟩
 ·rw [vc174 k kind K]
  exact (ok_ret h :)
def c200 : Con := ⟨[.lent TInt, .any], fun args hp K => args2 (fun a0 a1 => withB TInt a0 fun xs => withF 174 a1 (caps1 (fun b1_0 => withR TInt b1_0 fun k0 => (Sm (Ty.sl TInt) xs) ∧ K (dI (M.idx (t := TInt) (fun e => !decide (e = k0)) xs)) []))) args hp, .plain⟩
def cons200 : Cons := [(174, c174)]
@[reducible] def C200 : Ctx := ⟨tab, fun t => memN t cmps, cons200, 19, [], 0, false⟩
theorem consOk200 : ConsOk P C200 := by
 refine consOk_cons (enter_ok (fn := f174) func174 (by kernel_rfl) rfl) con174_ok ?_
 exact consOk_nil
def ann200 : Nat → List Dir
 | 0 => [.keep [0, 1]]
 | 1 => [.keep [0, 1, 7, 8]]
 | 2 => [.keep [0, 1, 7, 8, 9]]
 | 3 => [.keep [0, 1, 5, 7, 8]]
 | 4 => [.keep [0, 1, 5, 7, 8, 16]]
 | 5 => [.keep [4]]
 | 6 => [.keep [0, 1, 7, 8]]
 | 7 => [.keep [4]]
 | 100000 => [.keep []]
 | _ => []
@[reducible] def LP200_0 (xs : (List Int)) (k0 : Int) (m : Nat) (st_ : St) (K : KX) : Prop := (True) ∧ LoopI (fun (i0 : Int) (v0 : Unit) => (⟨[(0, .brw TInt xs), (1, .fn 174 [.ref (dI k0)]), (7, dI (xs.length : Int)), (8, dI i0)], []⟩ : St)) Z0 (xs.length : Int) (F.IndexFunc_impl_Part_kind_1_1_l0 xs k0) (fun v0 : Unit => True) (outD (fun v0 : Unit => True → K (.exit 0) (⟨[], []⟩ : St)) (fun q0 : Int => K .ret (⟨[(4, dI q0)], []⟩ : St))) m st_
def L200 (xs : (List Int)) (k0 : Int) : Loops := fun id m st_ K => match id with
 | 0 => LP200_0 xs k0 m st_ K
 | _ => False
theorem vc200 (xs : (List Int)) (k0 : Int) (K : KA) : awp C200 (L200 xs k0) ann200 (bodyOf f200) ⟨argEnv 0 [.brw TInt xs, .fn 174 [.ref (dI k0)]], []⟩ (outK tab false f200.results.toList (hasBox []) (resK (.dat TInt) K)) =
 ((∃ m_, (True) ∧ LoopI (fun (i0 : Int) (v0 : Unit) => (⟨[(0, .brw TInt xs), (1, .fn 174 [.ref (dI k0)]), (7, dI (xs.length : Int)), (8, dI i0)], []⟩ : St)) Z0 (xs.length : Int) (F.IndexFunc_impl_Part_kind_1_1_l0 xs k0) (fun v0 : Unit => True) (outD (fun v0 : Unit => True → K (dI (-1 : Int)) []) (fun q0 : Int => K (dI q0) [])) m_ (⟨[(0, .brw TInt xs), (1, .fn 174 [.ref (dI k0)]), (7, dI (xs.length : Int)), (8, dI Z0)], []⟩ : St))) := by kernel_rfl
theorem lvc200_0 (xs : (List Int)) (k0 : Int)  (i0 : Int) (v0 : Unit) (m : Nat) (K : KX) : awp C200 (L200 xs k0) ann200 (loopAt (bodyOf f200) 0) (⟨[(0, .brw TInt xs), (1, .fn 174 [.ref (dI k0)]), (7, dI (xs.length : Int)), (8, dI i0)], []⟩ : St) (thenW (fun s' => ∃ m', m' < m ∧ (L200 xs k0) 0 m' s' K) (exitN 0 (ann200 (behind 0)) K)) =
 (cond (decide (i0 < (xs.length : Int))) ((0 ≤ i0) ∧ (i0 < (xs.length : Int)) ∧ cond (!decide ((nI xs i0) = k0)) (K .ret (⟨[(4, dI i0)], []⟩ : St)) ((∃ m_, m_ < m ∧ (L200 xs k0) 0 m_ (⟨[(0, .brw TInt xs), (1, .fn 174 [.ref (dI k0)]), (7, dI (xs.length : Int)), (8, dI (wrap64 (i0 + Z1)))], []⟩ : St) K))) (K (.exit 0) (⟨[], []⟩ : St))) := by kernel_rfl
theorem con200_ok : ConOk P 200 c200 := by
 refine con_okR (fn := f200) (code := bodyOf f200) (tab_ok tab_check cmp_check) consOk200 mixed func200 rfl rfl fun args hp K h0 => ?_
 obtain ⟨a0, a1, rfl, rfl, h1⟩ := args2_elim h0
 obtain ⟨xs, rfl, h2⟩ := withB_elim h1
 obtain ⟨cs1, rfl, h3⟩ := withF_elim h2
 obtain ⟨b1_0, rfl, h4⟩ := caps1_elim h3
 obtain ⟨k0, rfl, h5⟩ := withR_elim h4
 obtain ⟨h_xs, hK⟩ := h5
 have h : ok (F.IndexFunc_impl_Part_kind_1_1 xs k0) (fun r => K (dI r) []) := ok_of_eq (F.IndexFunc_impl_Part_kind_1_1_eq xs k0 h_xs) hK
 refine ⟨⟨show (2 : Nat) ≤ 19 by decide, show (2 : Nat) ≤ 1000000 by decide⟩, ann200, (L200 xs k0), (.dat TInt), (loopsN1 (i0 := 0) (by kernel_rfl) ?_), ?_⟩
 ·clear h
  intro m_ s_ K_ h
  obtain ⟨hc0, i0, v0, rfl, hl0, rfl, hv0, h⟩ := (show LP200_0 xs k0 m_ s_ K_ from h)
  rw [lvc200_0 xs k0 i0 v0 _ K_]
  exact (loopI_step h (fun ht0 h => ⟨hl0, ⟨ht0, (ok_cond h (fun b_9 h => (ok_ret h :)) (fun b_9 h => (loopI_next (fun m hm => (show LP200_0 xs k0 m _ _ from ⟨hc0, hm⟩)) () rfl hl0 low0 ht0 (sm_len h_xs) trivial (ok_ret h :))))⟩⟩) (fun h => (h trivial)))
 ·rw [vc200 xs k0 K]
  exact (loopI_start (fun m hm => ⟨trivial, hm⟩) Z0 () rfl (Int.natCast_nonneg 0) trivial (ok_then h (fun v0 h hv0 => (ok_ret h :)) (fun q0 h => (ok_ret h :))))
def c173 : Con := ⟨[.lent TInt, .any], fun args hp K => args2 (fun a0 a1 => withB TInt a0 fun xs => withF 174 a1 (caps1 (fun b1_0 => withR TInt b1_0 fun k0 => (Sm (Ty.sl TInt) xs) ∧ K (dB (List.any xs (fun e => !decide (e = k0)))) []))) args hp, .plain⟩
def cons173 : Cons := [(174, c174), (200, c200)]
@[reducible] def C173 : Ctx := ⟨tab, fun t => memN t cmps, cons173, 9, [], 0, false⟩
theorem consOk173 : ConsOk P C173 := by
 refine consOk_cons (enter_ok (fn := f174) func174 (by kernel_rfl) rfl) con174_ok ?_
 refine consOk_cons (enter_ok (fn := f200) func200 (by kernel_rfl) rfl) con200_ok ?_
 exact consOk_nil
def ann173 : Nat → List Dir
 | 0 => [.keep [0, 1]]
 | 1 => [.keep [4]]
 | _ => []
def L173 (xs : (List Int)) (k0 : Int) : Loops := fun id m st_ K => match id with
 | _ => False
theorem vc173 (xs : (List Int)) (k0 : Int) (K : KA) : awp C173 (L173 xs k0) ann173 (bodyOf f173) ⟨argEnv 0 [.brw TInt xs, .fn 174 [.ref (dI k0)]], []⟩ (outK tab false f173.results.toList (hasBox []) (resK (.dat Ty.bool) K)) =
 ((Sm (Ty.sl TInt) xs) ∧ K (dB (decide (Z0 ≤ (M.idx (t := TInt) (fun e => !decide (e = k0)) xs)))) []) := by kernel_rfl
theorem con173_ok : ConOk P 173 c173 := by
 refine con_okR (fn := f173) (code := bodyOf f173) (tab_ok tab_check cmp_check) consOk173 mixed func173 rfl rfl fun args hp K h0 => ?_
 obtain ⟨a0, a1, rfl, rfl, h1⟩ := args2_elim h0
 obtain ⟨xs, rfl, h2⟩ := withB_elim h1
 obtain ⟨cs1, rfl, h3⟩ := withF_elim h2
 obtain ⟨b1_0, rfl, h4⟩ := caps1_elim h3
 obtain ⟨k0, rfl, h5⟩ := withR_elim h4
 obtain ⟨h_xs, hK⟩ := h5
 have h : ok (F.ContainsFunc_impl_Part_kind_1_1 xs k0) (fun r => K (dB r) []) := ok_of_eq (F.ContainsFunc_impl_Part_kind_1_1_eq xs k0 h_xs) hK
 refine ⟨⟨show (2 : Nat) ≤ 9 by decide, show (2 : Nat) ≤ 1000000 by decide⟩, ann173, (L173 xs k0), (.dat Ty.bool), (no_loops (by kernel_rfl)), ?_⟩
 ·rw [vc173 xs k0 K]
  exact ⟨h_xs, (ok_ret h :)⟩
def c172 : Con := ⟨[.dat TInt, .any], fun args hp K => args2 (fun a0 a1 => withD TInt a0 fun kind => withRB TInt a1 fun ins => (Sm (Ty.sl TInt) ins) ∧ K (dB (List.all ins (fun k => decide (k = kind)))) []) args hp, .plain⟩
def cons172 : Cons := [(173, c173), (174, c174)]
@[reducible] def C172 : Ctx := ⟨tab, fun t => memN t cmps, cons172, 8, [], 0, false⟩
theorem consOk172 : ConsOk P C172 := by
 refine consOk_cons (enter_ok (fn := f173) func173 (by kernel_rfl) rfl) con173_ok ?_
 refine consOk_cons (enter_ok (fn := f174) func174 (by kernel_rfl) rfl) con174_ok ?_
 exact consOk_nil
def ann172 : Nat → List Dir
 | 0 => [.fixBox 2, .keep [1, 2]]
 | 1 => [.keep [3]]
 | _ => []
def L172 (kind : Int) (ins : (List Int)) : Loops := fun id m st_ K => match id with
 | _ => False
theorem vc172 (kind : Int) (ins : (List Int)) (K : KA) : awp C172 (L172 kind ins) ann172 (bodyOf f172) ⟨argEnv 0 [dI kind, .ref (.brw TInt ins)], []⟩ (outK tab false f172.results.toList (hasBox []) (resK (.dat Ty.bool) K)) =
 ((Sm (Ty.sl TInt) ins) ∧ K (dB (!(List.any ins (fun e => !decide (e = kind))))) []) := by kernel_rfl
theorem con172_ok : ConOk P 172 c172 := by
 refine con_okR (fn := f172) (code := bodyOf f172) (tab_ok tab_check cmp_check) consOk172 mixed func172 rfl rfl fun args hp K h0 => ?_
 obtain ⟨a0, a1, rfl, rfl, h1⟩ := args2_elim h0
 obtain ⟨kind, rfl, h2⟩ := withD_elim h1
 obtain ⟨ins, rfl, h3⟩ := withRB_elim h2
 obtain ⟨h_ins, hK⟩ := h3
 have h : ok (F.impl_Part_kind_1 kind ins) (fun r => K (dB r) []) := ok_of_eq (F.impl_Part_kind_1_eq kind ins h_ins) hK
 refine ⟨⟨show (2 : Nat) ≤ 8 by decide, show (2 : Nat) ≤ 1000000 by decide⟩, ann172, (L172 kind ins), (.dat Ty.bool), (no_loops (by kernel_rfl)), ?_⟩
 ·rw [vc172 kind ins K]
  exact ⟨h_ins, (ok_ret h :)⟩
def c135 : Con := ⟨[.dat TPart, .dat TCS, .lent TInt], fun args hp K => args3 (fun a0 a1 a2 => withD TPart a0 fun p => withD TCS a1 fun columns => withB TInt a2 fun inp => (Sm TPart p) ∧ (Sm TCS columns) ∧ (Sm (Ty.sl TInt) inp) ∧ (M.tells p columns = true) ∧ ((inp.length : Int) = M.takes p) ∧ (∀ r : Int × Bool, r = (M.partKind p columns inp) → K (.tup [dI r.1, dB r.2]) [])) args hp, .plain⟩
def cons135 : Cons := [(172, c172)]
@[reducible] def C135 : Ctx := ⟨tab, fun t => memN t cmps, cons135, 42, [], 0, false⟩
theorem consOk135 : ConsOk P C135 := by
 refine consOk_cons (enter_ok (fn := f172) func172 (by kernel_rfl) rfl) con172_ok ?_
 exact consOk_nil
def ann135 : Nat → List Dir
 | 0 => [.fixRow 3 TPart, .fixBox 5, .keep [1, 3, 5]]
 | 1 => [.keep [1, 3, 5, 8]]
 | 2 => [.keep [1, 3, 5, 8, 11]]
 | 3 => [.keep [1, 3, 5, 8, 11, 12]]
 | 4 => [.keep [6, 7]]
 | 5 => [.keep [1, 3, 5, 8, 11, 17]]
 | 6 => [.keep [6, 7]]
 | 7 => [.keep [5, 8, 11, 25]]
 | 8 => [.keep [6, 7]]
 | 9 => [.keep [5, 8, 11, 29]]
 | 10 => [.keep [6, 7]]
 | 11 => [.keep [8, 38]]
 | 12 => [.keep [6, 7]]
 | 13 => [.keep [6, 7]]
 | _ => []
def L135 (p : (TPart).D) (columns : LC) (inp : (List Int)) : Loops := fun id m st_ K => match id with
 | _ => False
theorem vc135 (p : (TPart).D) (columns : LC) (inp : (List Int)) (K : KA) : awp C135 (L135 p columns inp) ann135 (bodyOf f135) ⟨argEnv 0 [.data TPart p, .data TCS columns, .brw TInt inp], []⟩ (outK tab false f135.results.toList (hasBox []) (resK (.tup [TInt, Ty.bool]) K)) =
 (cond (decide (p.1 = Z1)) (K (.tup [dI p.2.2.1.1, dB true]) []) (cond (decide (p.1 = Z2)) ((0 ≤ p.2.1) ∧ (p.2.1 < (columns.length : Int)) ∧ K (.tup [dI ((nC columns p.2.1).1), dB true]) []) (cond (decide (p.1 = Z3)) ((Sm (Ty.sl TInt) inp) ∧ K (.tup [dI Z1, dB (List.all inp (fun k => decide (k = Z1)))]) []) (cond (decide (p.1 = Z4)) ((0 ≤ Z0) ∧ (Z0 < (inp.length : Int)) ∧ (0 ≤ Z1) ∧ (Z1 < (inp.length : Int)) ∧ K (.tup [dI Z3, dB (decide ((nI inp Z0) = (nI inp Z1)))]) []) (cond (decide (p.1 = (8 : Int))) (K (.tup [dI Z3, dB true]) []) ((Sm (Ty.sl TInt) inp) ∧ K (.tup [dI Z3, dB (List.all inp (fun k => decide (k = Z3)))]) [])))))) := by kernel_rfl
theorem con135_ok : ConOk P 135 c135 := by
 refine con_okR (fn := f135) (code := bodyOf f135) (tab_ok tab_check cmp_check) consOk135 mixed func135 rfl rfl fun args hp K h0 => ?_
 obtain ⟨a0, a1, a2, rfl, rfl, h1⟩ := args3_elim h0
 obtain ⟨p, rfl, h2⟩ := withD_elim h1
 obtain ⟨columns, rfl, h3⟩ := withD_elim h2
 obtain ⟨inp, rfl, h4⟩ := withB_elim h3
 obtain ⟨h_p, h_columns, h_inp, p0, p1, hK⟩ := h4
 have h : ok (F.impl_Part_kind p columns inp) (fun r => K (.tup [dI r.1, dB r.2]) []) := ok_of_eq (F.impl_Part_kind_eq p columns inp h_p h_columns h_inp p0 p1) (hK _ rfl)
 refine ⟨⟨show (3 : Nat) ≤ 42 by decide, show (3 : Nat) ≤ 1000000 by decide⟩, ann135, (L135 p columns inp), (.tup [TInt, Ty.bool]), (no_loops (by kernel_rfl)), ?_⟩
 ·rw [vc135 p columns inp K]
  exact (ok_cond h (fun b_1 h => (ok_ret h :)) (fun b_1 h => (ok_cond h (fun b_2 h => ⟨(ok_guard h).1, have h := (ok_guard h).2; ⟨(ok_guard h).1, have h := (ok_guard h).2; (ok_ret h :)⟩⟩) (fun b_2 h => (ok_cond h (fun b_5 h => ⟨h_inp, (ok_ret h :)⟩) (fun b_5 h => (ok_cond h (fun b_6 h => ⟨(Int.natCast_nonneg 0), ⟨(ok_guard h).1, have h := (ok_guard h).2; ⟨(Int.natCast_nonneg 1), ⟨(ok_guard h).1, have h := (ok_guard h).2; (ok_ret h :)⟩⟩⟩⟩) (fun b_6 h => (ok_cond h (fun b_9 h => (ok_ret h :)) (fun b_9 h => ⟨h_inp, (ok_ret h :)⟩))))))))))
def c100 : Con := ⟨[.dat TCS, .dat TPS], fun args hp K => args2 (fun a0 a1 => withD TCS a0 fun columns => withD TPS a1 fun e => (Sm TCS columns) ∧ (Sm TPS e) ∧ K (dI (M.exprKind columns e)) []) args hp, .plain⟩
def cons100 : Cons := [(131, c131), (133, c133), (134, c134), (135, c135)]
@[reducible] def C100 : Ctx := ⟨tab, fun t => memN t cmps, cons100, 67, [], 0, false⟩
theorem consOk100 : ConsOk P C100 := by
 refine consOk_cons (enter_ok (fn := f131) func131 (by kernel_rfl) rfl) con131_ok ?_
 refine consOk_cons (enter_ok (fn := f133) func133 (by kernel_rfl) rfl) con133_ok ?_
 refine consOk_cons (enter_ok (fn := f134) func134 (by kernel_rfl) rfl) con134_ok ?_
 refine consOk_cons (enter_ok (fn := f135) func135 (by kernel_rfl) rfl) con135_ok ?_
 exact consOk_nil
def ann100 : Nat → List Dir
 | 0 => [.keep [0, 1]]
 | 1 => [.keep [0, 1, 18]]
 | 2 => [.keep [4]]
 | 3 => [.keep [0, 1, 5]]
 | 4 => [.keep [0, 5, 19, 20, 21]]
 | 5 => [.keep [0, 5, 19, 20, 21, 22]]
 | 6 => [.fixRow 7 TPart, .keep [0, 5, 7, 19, 20, 21]]
 | 7 => [.keep [0, 5, 7, 8, 19, 20, 21]]
 | 8 => [.keep [0, 5, 7, 8, 19, 20, 21, 36]]
 | 9 => [.keep [4]]
 | 10 => [.keep [0, 5, 8, 9, 10, 19, 20, 21]]
 | 11 => [.keep [0, 5, 8, 9, 19, 20, 21, 50]]
 | 12 => [.keep [4]]
 | 13 => [.keep [0, 5, 19, 20, 21]]
 | 14 => [.keep [0, 5, 19, 20, 21]]
 | 15 => [.keep [5, 63]]
 | 16 => [.keep [4]]
 | 17 => [.keep [4]]
 | 100000 => [.keep [5]]
 | _ => []
@[reducible] def LP100_0 (columns : LC) (e : LPt) (m : Nat) (st_ : St) (K : KX) : Prop := (True) ∧ LoopE (t := TPart) (fun (i0 : Int) (v0 : (List Int)) => (⟨[(0, .data TCS columns), (5, .own 5 none), (19, .data TPS e), (20, dI (e.length : Int)), (21, dI i0)], [(5, .arr false TInt v0)]⟩ : St)) e (F.impl_ExprKind_l0 columns e) (fun v0 : (List Int) => True) (outD (fun v0 : (List Int) => True → K (.exit 0) (⟨[(5, .own 5 none)], [(5, .arr false TInt v0)]⟩ : St)) (fun q0 : Unit => K .ret (⟨[(4, dI (-1 : Int))], []⟩ : St))) m st_
def L100 (columns : LC) (e : LPt) : Loops := fun id m st_ K => match id with
 | 0 => LP100_0 columns e m st_ K
 | _ => False
theorem vc100 (columns : LC) (e : LPt) (K : KA) : awp C100 (L100 columns e) ann100 (bodyOf f100) ⟨argEnv 0 [.data TCS columns, .data TPS e], []⟩ (outK tab false f100.results.toList (hasBox []) (resK (.dat TInt) K)) =
 ((Sm TCS columns) ∧ cond ((!(M.columnsOk columns)) == false) (cond (decide ((12 : Int) < (e.length : Int))) (K (dI (-1 : Int)) []) ((∃ m_, (True) ∧ LoopE (t := TPart) (fun (i0 : Int) (v0 : (List Int)) => (⟨[(0, .data TCS columns), (5, .own 5 none), (19, .data TPS e), (20, dI (e.length : Int)), (21, dI i0)], [(5, .arr false TInt v0)]⟩ : St)) e (F.impl_ExprKind_l0 columns e) (fun v0 : (List Int) => True) (outD (fun v0 : (List Int) => True → cond (!decide ((v0.length : Int) = Z1)) (K (dI (-1 : Int)) []) ((0 ≤ Z0) ∧ (Z0 < (v0.length : Int)) ∧ K (dI (nI v0 Z0)) [])) (fun q0 : Unit => K (dI (-1 : Int)) [])) m_ (⟨[(0, .data TCS columns), (5, .own 5 none), (19, .data TPS e), (20, dI (e.length : Int)), (21, dI Z0)], [(5, .arr false TInt [])]⟩ : St)))) (K (dI (-1 : Int)) [])) := by kernel_rfl
theorem lvc100_0 (columns : LC) (e : LPt)  (i0 : Int) (v0 : (List Int)) (m : Nat) (K : KX) : awp C100 (L100 columns e) ann100 (loopAt (bodyOf f100) 0) (⟨[(0, .data TCS columns), (5, .own 5 none), (19, .data TPS e), (20, dI (e.length : Int)), (21, dI i0)], [(5, .arr false TInt v0)]⟩ : St) (thenW (fun s' => ∃ m', m' < m ∧ (L100 columns e) 0 m' s' K) (exitN 0 (ann100 (behind 0)) K)) =
 (cond (decide (i0 < (e.length : Int))) ((0 ≤ i0) ∧ (i0 < (e.length : Int)) ∧ (Sm TPart (nP e i0)) ∧ (Sm TPart (nP e i0)) ∧ (Sm TCS columns) ∧ cond ((!(M.tells (nP e i0) columns)) == false) (cond (decide ((v0.length : Int) < (M.takes (nP e i0)))) (K .ret (⟨[(4, dI (-1 : Int))], []⟩ : St)) ((0 ≤ wrap64 ((v0.length : Int) - (M.takes (nP e i0)))) ∧ (wrap64 ((v0.length : Int) - (M.takes (nP e i0))) ≤ (v0.length : Int)) ∧ ((v0.length : Int) ≤ (v0.length : Int)) ∧ ((v0.length : Int) = (v0.length : Int)) ∧ (Sm TPart (nP e i0)) ∧ (Sm TCS columns) ∧ (Sm (Ty.sl TInt) (cutList v0 (some (wrap64 ((v0.length : Int) - (M.takes (nP e i0))), (v0.length : Int))))) ∧ (M.tells (nP e i0) columns = true) ∧ (((cutList v0 (some (wrap64 ((v0.length : Int) - (M.takes (nP e i0))), (v0.length : Int)))).length : Int) = M.takes (nP e i0)) ∧ (∀ r_10_8 : Int × Bool, r_10_8 = (M.partKind (nP e i0) columns (cutList v0 (some (wrap64 ((v0.length : Int) - (M.takes (nP e i0))), (v0.length : Int))))) → cond (!r_10_8.2) (K .ret (⟨[(4, dI (-1 : Int))], []⟩ : St)) ((0 ≤ Z0) ∧ (Z0 ≤ wrap64 ((v0.length : Int) - (M.takes (nP e i0)))) ∧ (wrap64 ((v0.length : Int) - (M.takes (nP e i0))) ≤ (v0.length : Int)) ∧ (wrap64 ((v0.length : Int) - (M.takes (nP e i0))) = wrap64 ((v0.length : Int) - (M.takes (nP e i0)))) ∧ (Z0 = 0) ∧ (((wrap64 ((v0.length : Int) - (M.takes (nP e i0)))).toNat + [r_10_8.1].length) * 8 ≤ lim) ∧ (∃ m_, m_ < m ∧ (L100 columns e) 0 m_ (⟨[(0, .data TCS columns), (5, .own 5 none), (19, .data TPS e), (20, dI (e.length : Int)), (21, dI (wrap64 (i0 + Z1)))], [(5, .arr false TInt (v0.take (wrap64 ((v0.length : Int) - (M.takes (nP e i0)))).toNat ++ [r_10_8.1]))]⟩ : St) K))))) (K .ret (⟨[(4, dI (-1 : Int))], []⟩ : St))) (K (.exit 0) (⟨[(5, .own 5 none)], [(5, .arr false TInt v0)]⟩ : St))) := by kernel_rfl
theorem con100_ok : ConOk P 100 c100 := by
 refine con_okR (fn := f100) (code := bodyOf f100) (tab_ok tab_check cmp_check) consOk100 mixed func100 rfl rfl fun args hp K h0 => ?_
 obtain ⟨a0, a1, rfl, rfl, h1⟩ := args2_elim h0
 obtain ⟨columns, rfl, h2⟩ := withD_elim h1
 obtain ⟨e, rfl, h3⟩ := withD_elim h2
 obtain ⟨h_columns, h_e, hK⟩ := h3
 have h : ok (F.impl_ExprKind columns e) (fun r => K (dI r) []) := ok_of_eq (F.impl_ExprKind_eq columns e h_columns h_e) hK
 refine ⟨⟨show (2 : Nat) ≤ 67 by decide, show (2 : Nat) ≤ 1000000 by decide⟩, ann100, (L100 columns e), (.dat TInt), (loopsN1 (i0 := 0) (by kernel_rfl) ?_), ?_⟩
 ·clear h
  intro m_ s_ K_ h
  obtain ⟨hc0, i0, v0, rfl, hl0, rfl, hv0, h⟩ := (show LP100_0 columns e m_ s_ K_ from h)
  rw [lvc100_0 columns e i0 v0 _ K_]
  exact (loopE_step (t := TPart) hl0 h (fun ht0 h => ⟨hl0, ⟨ht0, ⟨(sm_nth h_e i0), ⟨(sm_nth h_e i0), ⟨h_columns, (ok_cond h (fun b_37 h => (ok_cond h (fun b_38 h => (ok_ret h :)) (fun b_38 h => ⟨(ok_guard h).1, have h := (ok_guard h).2; ⟨(ok_guard h).1, have g_40 := (ok_guard h).1; have h := (ok_guard h).2; ⟨(Int.le_refl _), ⟨rfl, ⟨(sm_nth h_e i0), ⟨h_columns, ⟨(ok_guard h).1, have h := (ok_guard h).2; ⟨(bnf (bgt b_37)), ⟨(ok_guard h).1, have h := (ok_guard h).2; (fun r_10_8 e_r_10_8 => have h := ok_let h r_10_8 e_r_10_8; (ok_cond h (fun b_43 h => (ok_ret h :)) (fun b_43 h => ⟨(Int.natCast_nonneg 0), ⟨(ok_guard h).1, have h := (ok_guard h).2; ⟨g_40, ⟨rfl, ⟨rfl, ⟨(ok_guard h).1, have h := (ok_guard h).2; (loopE_next (t := TPart) (fun m hm => (show LP100_0 columns e m _ _ from ⟨hc0, hm⟩)) (v0.take (wrap64 ((v0.length : Int) - (M.takes (nP e i0)))).toNat ++ [r_10_8.1]) rfl hl0 ht0 (sm_len h_e) trivial (ok_ret h :))⟩⟩⟩⟩⟩⟩)))⟩⟩⟩⟩⟩⟩⟩⟩⟩))) (fun b_37 h => (ok_ret h :)))⟩⟩⟩⟩⟩) (fun h => (h trivial)))
 ·rw [vc100 columns e K]
  exact ⟨h_columns, (ok_cond h (fun b_1 h => (ok_cond h (fun b_2 h => (ok_ret h :)) (fun b_2 h => (loopE_start (t := TPart) (fun m hm => ⟨trivial, hm⟩) [] rfl trivial (ok_then h (fun v0 h hv0 => (ok_cond h (fun b_46 h => (ok_ret h :)) (fun b_46 h => ⟨(Int.natCast_nonneg 0), ⟨(ok_guard h).1, have h := (ok_guard h).2; (ok_ret h :)⟩⟩))) (fun q0 h => (ok_ret h :))))))) (fun b_1 h => (ok_ret h :)))⟩
def cons175 : Cons := []
@[reducible] def C175 : Ctx := ⟨tab, fun t => memN t cmps, cons175, 9, [], 400000, true⟩
theorem consOk175 : ConsOk P C175 := by
 exact consOk_nil
def T175 : Inl := inlT C175 (fun _ => []) (bodyOf f175) f175.results.toList
theorem inlOk175 : InlOk P 175 T175 := inl_ok (fn := f175) (code := bodyOf f175) (tab_ok tab_check cmp_check) consOk175 mixed func175 rfl rfl (by kernel_rfl)
def c136 : Con := ⟨[.dat TCS], fun args hp K => args1 (fun a0 => withD TCS a0 fun xs => (Sm TCS xs) ∧ (∀ r : LC, r = (xs) → K (.clp 0 (r.length : Int)) [(0, .arr false TColumn r)])) args hp, .bor⟩
def cons136 : Cons := []
@[reducible] def C136 : Ctx := ⟨tab, fun t => memN t cmps, cons136, 9, [(175, T175)], 0, true⟩
theorem consOk136 : ConsOk P C136 := by
 refine consOk_inl (enter_ok (fn := f175) func175 (by kernel_rfl) rfl) inlOk175 ?_
 exact consOk_nil
def ann136 : Nat → List Dir
 | 0 => [.keep [0]]
 | 1 => [.keep [0, 5]]
 | 2 => [.clip 2, .keep [2]]
 | 3 => [.keep [2]]
 | _ => []
def L136 (xs : LC) : Loops := fun id m st_ K => match id with
 | _ => False
theorem vc136 (xs : LC) (K : KA) : awp C136 (L136 xs) ann136 (bodyOf f136) ⟨argEnv 0 [.data TCS xs], []⟩ (outK tab true f136.results.toList (hasBox []) (resK .raw K)) =
 (cond (decide ((xs.length : Int) = Z0)) (K (.clp 0 (([] : List TColumn.D).length : Int)) [(0, .arr false TColumn ([] : List TColumn.D))]) ((xs.length * 16 ≤ lim) ∧ (0 ≤ Z0) ∧ (Z0 ≤ (xs.length : Int)) ∧ ((xs.length : Int) ≤ (xs.length : Int)) ∧ ((xs.length : Int) = (xs.length : Int)) ∧ (Z0 = 0) ∧ K (.clp 0 ((xs.take (xs.length : Int).toNat).length : Int)) [(0, .arr false TColumn (xs.take (xs.length : Int).toNat))])) := by kernel_rfl
theorem con136_ok : ConOk P 136 c136 := by
 refine con_okR (fn := f136) (code := bodyOf f136) (tab_ok tab_check cmp_check) consOk136 mixed func136 rfl rfl fun args hp K h0 => ?_
 obtain ⟨a0, rfl, rfl, h1⟩ := args1_elim h0
 obtain ⟨xs, rfl, h2⟩ := withD_elim h1
 obtain ⟨h_xs, hK⟩ := h2
 have h : ok (F.clone_TColumn xs) (fun r => K (.clp 0 (r.length : Int)) [(0, .arr false TColumn r)]) := ok_of_eq (F.clone_TColumn_eq xs h_xs) (hK _ rfl)
 refine ⟨⟨show (1 : Nat) ≤ 9 by decide, show (1 : Nat) ≤ 1000000 by decide⟩, ann136, (L136 xs), .raw, (no_loops (by kernel_rfl)), ?_⟩
 ·rw [vc136 xs K]
  exact (ok_cond h (fun b_1 h => (ok_ret h :)) (fun b_1 h => ⟨(sm_lim h_xs rfl), ⟨(Int.natCast_nonneg 0), ⟨(Int.natCast_nonneg _), ⟨(Int.le_refl _), ⟨rfl, ⟨rfl, (ok_ret h :)⟩⟩⟩⟩⟩⟩))
def c155 : Con := ⟨[.dat TStep], fun args hp K => args1 (fun a0 => withD TStep a0 fun s => (Sm TStep s) ∧ K (dB (M.fieldsOk s)) []) args hp, .plain⟩
def cons155 : Cons := []
@[reducible] def C155 : Ctx := ⟨tab, fun t => memN t cmps, cons155, 67, [], 0, false⟩
theorem consOk155 : ConsOk P C155 := by
 exact consOk_nil
def ann155 : Nat → List Dir
 | 0 => [.fixRow 1 TStep, .keep [1]]
 | 1 => [.keep [1, 3]]
 | 2 => [.keep [1, 3, 4]]
 | 3 => [.keep [2]]
 | _ => []
def L155 (s : (TStep).D) : Loops := fun id m st_ K => match id with
 | _ => False
@[reducible] def S155_0 (s : (TStep).D) (K : KA) : Prop := cond ((decide (s.1 = Z3)) == false) (K (dB (decide ((s.2.2.2.2.2.1.length : Int) = Z0))) []) (K (dB true) [])
@[reducible] def S155_1 (s : (TStep).D) (K : KA) : Prop := cond ((decide (s.1 = Z4)) == false) (cond ((decide ((s.2.2.2.2.1.length : Int) = Z0)) == true) ((S155_0 s K)) (K (dB false) [])) ((S155_0 s K))
@[reducible] def S155_2 (s : (TStep).D) (K : KA) : Prop := cond ((decide (s.1 = Z1)) == false) (cond ((decide (s.2.2.2.1 = Z0)) == true) ((S155_1 s K)) (K (dB false) [])) ((S155_1 s K))
@[reducible] def S155_3 (s : (TStep).D) (K : KA) : Prop := cond ((decide (s.1 = Z5)) == false) (cond ((decide (s.2.2.1 = Z0)) == true) ((S155_2 s K)) (K (dB false) [])) ((S155_2 s K))
@[reducible] def S155_4 (s : (TStep).D) (K : KA) : Prop := cond ((decide (s.1 = Z1)) == false) (cond ((decide (s.2.2.2.1 = Z0)) == true) ((S155_0 s K)) (K (dB false) [])) ((S155_0 s K))
@[reducible] def S155_5 (s : (TStep).D) (K : KA) : Prop := cond ((decide (s.1 = Z5)) == false) (cond ((decide (s.2.2.1 = Z0)) == true) ((S155_4 s K)) (K (dB false) [])) ((S155_4 s K))
theorem vc155 (s : (TStep).D) (K : KA) : awp C155 (L155 s) ann155 (bodyOf f155) ⟨argEnv 0 [.data TStep s], []⟩ (outK tab false f155.results.toList (hasBox []) (resK (.dat Ty.bool) K)) =
 (cond ((decide (s.1 = Z4)) == false) (cond ((decide (s.1 = Z2)) == false) (cond ((!decide (s.1 = Z1)) == false) (cond ((decide (s.2.1 = Z0)) == true) ((S155_3 s K)) (K (dB false) [])) ((S155_3 s K))) (cond ((!decide (s.1 = Z1)) == false) (cond ((decide (s.2.1 = Z0)) == true) ((S155_5 s K)) (K (dB false) [])) ((S155_5 s K)))) (cond ((decide (s.1 = Z2)) == false) (cond ((!decide (s.1 = Z1)) == false) (cond ((decide (s.2.1 = Z0)) == true) ((S155_2 s K)) (K (dB false) [])) ((S155_2 s K))) (cond ((!decide (s.1 = Z1)) == false) (cond ((decide (s.2.1 = Z0)) == true) ((S155_4 s K)) (K (dB false) [])) ((S155_4 s K))))) := by kernel_rfl
theorem con155_ok : ConOk P 155 c155 := by
 refine con_okR (fn := f155) (code := bodyOf f155) (tab_ok tab_check cmp_check) consOk155 mixed func155 rfl rfl fun args hp K h0 => ?_
 obtain ⟨a0, rfl, rfl, h1⟩ := args1_elim h0
 obtain ⟨s, rfl, h2⟩ := withD_elim h1
 obtain ⟨h_s, hK⟩ := h2
 have h : ok (F.impl_Step_plain s) (fun r => K (dB r) []) := ok_of_eq (F.impl_Step_plain_eq s h_s) hK
 refine ⟨⟨show (1 : Nat) ≤ 67 by decide, show (1 : Nat) ≤ 1000000 by decide⟩, ann155, (L155 s), (.dat Ty.bool), (no_loops (by kernel_rfl)), ?_⟩
 ·rw [vc155 s K]
  exact (ok_cond h (fun b_1 h => (ok_cond h (fun b_2 h => (ok_cond h (fun b_3 h => (ok_cond h (fun b_4 h => (cond_t (ugt (dec_ne (bnf (bgt b_3)) (by decide))) (ok_cond h (fun b_6 h => (cond_f (ugf (bnf (bgt b_3))) (cond_t (ugt (bgt b_1)) (ok_cond h (fun b_14 h => (cond_t (ugt (dec_ne (bnf (bgt b_3)) (by decide))) (ok_ret h :))) (fun b_14 h => (ok_ret h :)))))) (fun b_6 h => (ok_ret h :))))) (fun b_4 h => (ok_ret h :)))) (fun b_3 h => (ok_cond h (fun b_27 h => (ok_cond h (fun b_28 h => (cond_t (ugt (bnt (bgf b_3))) (ok_cond h (fun b_30 h => (cond_t (ugt (bgt b_1)) (ok_cond h (fun b_32 h => (ok_cond h (fun b_33 h => (ok_ret h :)) (fun b_33 h => (ok_ret h :)))) (fun b_32 h => (ok_ret h :))))) (fun b_30 h => (ok_ret h :))))) (fun b_28 h => (ok_ret h :)))) (fun b_27 h => (cond_t (ugt (bnt (bgf b_3))) (ok_cond h (fun b_40 h => (cond_t (ugt (bgt b_1)) (ok_cond h (fun b_42 h => (cond_t (ugt (dec_ne (bgf b_27) (by decide))) (ok_ret h :))) (fun b_42 h => (ok_ret h :))))) (fun b_40 h => (ok_ret h :))))))))) (fun b_2 h => (cond_f (ugf (unt (dec_ne (bgf b_2) (by decide)))) (cond_t (ugt (dec_ne (bgf b_2) (by decide))) (ok_cond h (fun b_62 h => (cond_t (ugt (dec_ne (bgf b_2) (by decide))) (ok_cond h (fun b_64 h => (cond_t (ugt (dec_ne (bgf b_2) (by decide))) (ok_ret h :))) (fun b_64 h => (ok_ret h :))))) (fun b_62 h => (ok_ret h :)))))))) (fun b_1 h => (cond_t (ugt (dec_ne (bgf b_1) (by decide))) (cond_f (ugf (unt (dec_ne (bgf b_1) (by decide)))) (cond_t (ugt (dec_ne (bgf b_1) (by decide))) (ok_cond h (fun b_85 h => (cond_f (ugf (bgf b_1)) (cond_t (ugt (dec_ne (bgf b_1) (by decide))) (ok_ret h :)))) (fun b_85 h => (ok_ret h :))))))))
def c191 : Con := ⟨[.any, .dat TInt], fun args hp K => args2 (fun a0 a1 => withN a0 (withD TInt a1 fun n => (0 ≤ n) ∧ (n ≤ 1099511627776) ∧ (∀ r : LC, r = (([] : List TColumn.D)) → K (.own 0 none) [(0, .arr false TColumn r)]))) args hp, .plain⟩
def cons191 : Cons := []
@[reducible] def C191 : Ctx := ⟨tab, fun t => memN t cmps, cons191, 27, [], 0, false⟩
theorem consOk191 : ConsOk P C191 := by
 exact consOk_nil
def ann191 : Nat → List Dir
 | 0 => [.keep [0, 1]]
 | 1 => [.keep [0, 1, 6]]
 | 2 => [.keep [0, 1]]
 | 3 => [.keep [0, 1]]
 | 4 => [.keep [0, 1, 16]]
 | 5 => [.keep [0]]
 | 6 => [.keep [4]]
 | _ => []
def L191 (n : Int) : Loops := fun id m st_ K => match id with
 | _ => False
theorem vc191 (n : Int) (K : KA) : awp C191 (L191 n) ann191 (bodyOf f191) ⟨argEnv 0 [.cst (.slice none 0 0), dI n], []⟩ (outK tab false f191.results.toList (hasBox []) (resK .raw K)) =
 (cond (decide (n < Z0)) (False) (cond (decide (Z0 < wrap64 (n - (wrap64 (Z0 - Z0))))) ((0 ≤ Z0) ∧ (Z0 ≤ Z0) ∧ (Z0 ≤ Z0) ∧ (Z0 = Z0) ∧ (0 ≤ wrap64 (n - (wrap64 (Z0 - Z0)))) ∧ ((wrap64 (n - (wrap64 (Z0 - Z0)))) * 16 ≤ (lim : Int)) ∧ (0 ≤ Z0) ∧ (Z0 ≤ Z0) ∧ (Z0 ≤ ((List.replicate (wrap64 (n - (wrap64 (Z0 - Z0)))).toNat (Z0, (false, ()))).length : Int)) ∧ (Z0 = Z0) ∧ (Z0 = 0) ∧ K (.own 0 none) [(0, .arr false TColumn ((List.replicate (wrap64 (n - (wrap64 (Z0 - Z0)))).toNat (Z0, (false, ()))).take Z0.toNat))]) (K (.own 0 none) [(0, .arr false TColumn [])]))) := by kernel_rfl
theorem con191_ok : ConOk P 191 c191 := by
 refine con_okR (fn := f191) (code := bodyOf f191) (tab_ok tab_check cmp_check) consOk191 mixed func191 rfl rfl fun args hp K h0 => ?_
 obtain ⟨a0, a1, rfl, rfl, h1⟩ := args2_elim h0
 obtain ⟨rfl, h2⟩ := withN_elim h1
 obtain ⟨n, rfl, h3⟩ := withD_elim h2
 obtain ⟨p0, p1, hK⟩ := h3
 have h : ok (F.Grow_TColumn n) (fun r => K (.own 0 none) [(0, .arr false TColumn r)]) := ok_of_eq (F.Grow_TColumn_eq n p0 p1) (hK _ rfl)
 refine ⟨⟨show (2 : Nat) ≤ 27 by decide, show (2 : Nat) ≤ 1000000 by decide⟩, ann191, (L191 n), .raw, (no_loops (by kernel_rfl)), ?_⟩
 ·rw [vc191 n K]
  exact (ok_cond h (fun b_1 h => h) (fun b_1 h => (ok_cond h (fun b_2 h => ⟨(Int.natCast_nonneg 0), ⟨(Int.le_refl _), ⟨(Int.le_refl _), ⟨rfl, ⟨(ok_guard h).1, have h := (ok_guard h).2; ⟨(ok_guard h).1, have h := (ok_guard h).2; ⟨(Int.natCast_nonneg 0), ⟨(Int.le_refl _), ⟨(Int.natCast_nonneg _), ⟨rfl, ⟨rfl, (ok_ret h :)⟩⟩⟩⟩⟩⟩⟩⟩⟩⟩⟩) (fun b_2 h => (ok_ret h :)))))
def c156 : Con := ⟨[.dat (Ty.sl TCS)], fun args hp K => args1 (fun a0 => withD (Ty.sl TCS) a0 fun xss => (Sm (Ty.sl TCS) xss) ∧ (∀ r : LC, r = (List.flatten xss) → K (.own 0 none) [(0, .arr false TColumn r)])) args hp, .plain⟩
def cons156 : Cons := [(191, c191)]
@[reducible] def C156 : Ctx := ⟨tab, fun t => memN t cmps, cons156, 36, [], 0, false⟩
theorem consOk156 : ConsOk P C156 := by
 refine consOk_cons (enter_ok (fn := f191) func191 (by kernel_rfl) rfl) con191_ok ?_
 exact consOk_nil
def ann156 : Nat → List Dir
 | 0 => [.keep [0]]
 | 1 => [.keep [0, 3]]
 | 2 => [.keep [0, 3, 9, 10, 11]]
 | 3 => [.keep [0, 3, 9, 10, 11, 12]]
 | 4 => [.keep [0, 3, 5, 9, 10, 11]]
 | 5 => [.keep [0, 3, 9, 10, 11]]
 | 6 => [.keep [0, 3, 9, 10, 11, 20]]
 | 7 => [.keep [0, 3, 9, 10, 11]]
 | 8 => [.keep [0, 3, 9, 10, 11]]
 | 9 => [.keep [0, 6]]
 | 10 => [.keep [6, 25, 26, 27]]
 | 11 => [.keep [6, 25, 26, 27, 28]]
 | 12 => [.keep [6, 8, 25, 26, 27]]
 | 13 => [.keep [6, 25, 26, 27]]
 | 14 => [.keep [6, 25, 26, 27]]
 | 15 => [.keep [2]]
 | 100000 => [.keep [0, 3]]
 | 100002 => [.keep [6]]
 | _ => []
@[reducible] def LP156_0 (xss : (List LC)) (m : Nat) (st_ : St) (K : KX) : Prop := (True) ∧ LoopE (t := TCS) (fun (i0 : Int) (v0 : Int) => (⟨[(0, .data (Ty.sl TCS) xss), (3, dI v0), (9, .data (Ty.sl TCS) xss), (10, dI (xss.length : Int)), (11, dI i0)], []⟩ : St)) xss (F.Concat_TColumn_l0 xss) (fun v0 : Int => True) (outD (fun v0 : Int => True → K (.exit 0) (⟨[(0, .data (Ty.sl TCS) xss), (3, dI v0)], []⟩ : St)) (fun _ => False)) m st_
@[reducible] def LP156_2 (xss : (List LC)) (m : Nat) (st_ : St) (K : KX) : Prop := (True) ∧ LoopE (t := TCS) (fun (i2 : Int) (v2 : LC) => (⟨[(6, .own 24 none), (25, .data (Ty.sl TCS) xss), (26, dI (xss.length : Int)), (27, dI i2)], [(24, .arr false TColumn v2)]⟩ : St)) xss (F.Concat_TColumn_l2 xss) (fun v2 : LC => True) (outD (fun v2 : LC => True → K (.exit 2) (⟨[(6, .own 24 none)], [(24, .arr false TColumn v2)]⟩ : St)) (fun _ => False)) m st_
def L156 (xss : (List LC)) : Loops := fun id m st_ K => match id with
 | 0 => LP156_0 xss m st_ K
 | 2 => LP156_2 xss m st_ K
 | _ => False
theorem vc156 (xss : (List LC)) (K : KA) : awp C156 (L156 xss) ann156 (bodyOf f156) ⟨argEnv 0 [.data (Ty.sl TCS) xss], []⟩ (outK tab false f156.results.toList (hasBox []) (resK .raw K)) =
 ((∃ m_, (True) ∧ LoopE (t := TCS) (fun (i0 : Int) (v0 : Int) => (⟨[(0, .data (Ty.sl TCS) xss), (3, dI v0), (9, .data (Ty.sl TCS) xss), (10, dI (xss.length : Int)), (11, dI i0)], []⟩ : St)) xss (F.Concat_TColumn_l0 xss) (fun v0 : Int => True) (outD (fun v0 : Int => True → (0 ≤ v0) ∧ (v0 ≤ 1099511627776) ∧ (∀ r_9_1 : LC, r_9_1 = (([] : List TColumn.D)) → (∃ m_, (True) ∧ LoopE (t := TCS) (fun (i2 : Int) (v2 : LC) => (⟨[(6, .own 24 none), (25, .data (Ty.sl TCS) xss), (26, dI (xss.length : Int)), (27, dI i2)], [(24, .arr false TColumn v2)]⟩ : St)) xss (F.Concat_TColumn_l2 xss) (fun v2 : LC => True) (outD (fun v2 : LC => True → K (.own 0 none) [(0, .arr false TColumn v2)]) (fun _ => False)) m_ (⟨[(6, .own 24 none), (25, .data (Ty.sl TCS) xss), (26, dI (xss.length : Int)), (27, dI Z0)], [(24, .arr false TColumn r_9_1)]⟩ : St)))) (fun _ => False)) m_ (⟨[(0, .data (Ty.sl TCS) xss), (3, dI Z0), (9, .data (Ty.sl TCS) xss), (10, dI (xss.length : Int)), (11, dI Z0)], []⟩ : St))) := by kernel_rfl
theorem lvc156_0 (xss : (List LC))  (i0 : Int) (v0 : Int) (m : Nat) (K : KX) : awp C156 (L156 xss) ann156 (loopAt (bodyOf f156) 0) (⟨[(0, .data (Ty.sl TCS) xss), (3, dI v0), (9, .data (Ty.sl TCS) xss), (10, dI (xss.length : Int)), (11, dI i0)], []⟩ : St) (thenW (fun s' => ∃ m', m' < m ∧ (L156 xss) 0 m' s' K) (exitN 0 (ann156 (behind 0)) K)) =
 (cond (decide (i0 < (xss.length : Int))) ((0 ≤ i0) ∧ (i0 < (xss.length : Int)) ∧ cond (decide (wrap64 (v0 + ((nth (t := TCS) xss i0).length : Int)) < Z0)) (False) ((∃ m_, m_ < m ∧ (L156 xss) 0 m_ (⟨[(0, .data (Ty.sl TCS) xss), (3, dI (wrap64 (v0 + ((nth (t := TCS) xss i0).length : Int)))), (9, .data (Ty.sl TCS) xss), (10, dI (xss.length : Int)), (11, dI (wrap64 (i0 + Z1)))], []⟩ : St) K))) (K (.exit 0) (⟨[(0, .data (Ty.sl TCS) xss), (3, dI v0)], []⟩ : St))) := by kernel_rfl
theorem lvc156_1 (xss : (List LC))  (i2 : Int) (v2 : LC) (m : Nat) (K : KX) : awp C156 (L156 xss) ann156 (loopAt (bodyOf f156) 1) (⟨[(6, .own 24 none), (25, .data (Ty.sl TCS) xss), (26, dI (xss.length : Int)), (27, dI i2)], [(24, .arr false TColumn v2)]⟩ : St) (thenW (fun s' => ∃ m', m' < m ∧ (L156 xss) 2 m' s' K) (exitN 2 (ann156 (behind 2)) K)) =
 (cond (decide (i2 < (xss.length : Int))) ((0 ≤ i2) ∧ (i2 < (xss.length : Int)) ∧ ((v2.length + (nth (t := TCS) xss i2).length) * 16 ≤ lim) ∧ (∃ m_, m_ < m ∧ (L156 xss) 2 m_ (⟨[(6, .own 24 none), (25, .data (Ty.sl TCS) xss), (26, dI (xss.length : Int)), (27, dI (wrap64 (i2 + Z1)))], [(24, .arr false TColumn (v2 ++ (nth (t := TCS) xss i2)))]⟩ : St) K)) (K (.exit 2) (⟨[(6, .own 24 none)], [(24, .arr false TColumn v2)]⟩ : St))) := by kernel_rfl
theorem con156_ok : ConOk P 156 c156 := by
 refine con_okR (fn := f156) (code := bodyOf f156) (tab_ok tab_check cmp_check) consOk156 mixed func156 rfl rfl fun args hp K h0 => ?_
 obtain ⟨a0, rfl, rfl, h1⟩ := args1_elim h0
 obtain ⟨xss, rfl, h2⟩ := withD_elim h1
 obtain ⟨h_xss, hK⟩ := h2
 have h : ok (F.Concat_TColumn xss) (fun r => K (.own 0 none) [(0, .arr false TColumn r)]) := ok_of_eq (F.Concat_TColumn_eq xss h_xss) (hK _ rfl)
 refine ⟨⟨show (1 : Nat) ≤ 36 by decide, show (1 : Nat) ≤ 1000000 by decide⟩, ann156, (L156 xss), .raw, (loopsN2 (i0 := 0) (i1 := 2) (by kernel_rfl) ?_ ?_), ?_⟩
 ·clear h
  intro m_ s_ K_ h
  obtain ⟨hc0, i0, v0, rfl, hl0, rfl, hv0, h⟩ := (show LP156_0 xss m_ s_ K_ from h)
  rw [lvc156_0 xss i0 v0 _ K_]
  exact (loopE_step (t := TCS) hl0 h (fun ht0 h => ⟨hl0, ⟨ht0, (ok_cond h (fun b_9 h => h) (fun b_9 h => (loopE_next (t := TCS) (fun m hm => (show LP156_0 xss m _ _ from ⟨hc0, hm⟩)) (wrap64 (v0 + ((nth (t := TCS) xss i0).length : Int))) rfl hl0 ht0 (sm_len h_xss) trivial (ok_ret h :))))⟩⟩) (fun h => (h trivial)))
 ·clear h
  intro m_ s_ K_ h
  obtain ⟨hc2, i2, v2, rfl, hl2, rfl, hv2, h⟩ := (show LP156_2 xss m_ s_ K_ from h)
  rw [lvc156_1 xss i2 v2 _ K_]
  exact (loopE_step (t := TCS) hl2 h (fun ht2 h => ⟨hl2, ⟨ht2, ⟨(ok_guard h).1, have h := (ok_guard h).2; (loopE_next (t := TCS) (fun m hm => (show LP156_2 xss m _ _ from ⟨hc2, hm⟩)) (v2 ++ (nth (t := TCS) xss i2)) rfl hl2 ht2 (sm_len h_xss) trivial (ok_ret h :))⟩⟩⟩) (fun h => (h trivial)))
 ·rw [vc156 xss K]
  exact (loopE_start (t := TCS) (fun m hm => ⟨trivial, hm⟩) Z0 rfl trivial (ok_then h (fun v0 h hv0 => ⟨(ok_guard h).1, have h := (ok_guard h).2; ⟨(ok_guard h).1, have h := (ok_guard h).2; (fun r_9_1 e_r_9_1 => have h := ok_let h r_9_1 e_r_9_1; (loopE_start (t := TCS) (fun m hm => ⟨trivial, hm⟩) r_9_1 rfl trivial (ok_then h (fun v2 h hv2 => (ok_ret h :)) (fun _ h => h.elim))))⟩⟩) (fun _ h => h.elim)))
def c123 : Con := ⟨[.dat TStep, .dat TTb, .lent TMade], fun args hp K => args3 (fun a0 a1 a2 => withD TStep a0 fun s => withD TTb a1 fun tables => withB TMade a2 fun ahead => (Sm TStep s) ∧ (Sm TTb tables) ∧ (Sm (Ty.sl TMade) ahead) ∧ (∀ r : (TMade).D × Bool, r = (M.make s tables ahead) → K (.tup [.data TMade r.1, dB r.2]) [])) args hp, .plain⟩
def cons123 : Cons := [(66, c66), (100, c100), (136, c136), (155, c155), (156, c156)]
@[reducible] def C123 : Ctx := ⟨tab, fun t => memN t cmps, cons123, 201, [], 0, true⟩
theorem consOk123 : ConsOk P C123 := by
 refine consOk_cons (enter_ok (fn := f66) func66 (by kernel_rfl) rfl) con66_ok ?_
 refine consOk_cons (enter_ok (fn := f100) func100 (by kernel_rfl) rfl) con100_ok ?_
 refine consOk_cons (enter_ok (fn := f136) func136 (by kernel_rfl) rfl) con136_ok ?_
 refine consOk_cons (enter_ok (fn := f155) func155 (by kernel_rfl) rfl) con155_ok ?_
 refine consOk_cons (enter_ok (fn := f156) func156 (by kernel_rfl) rfl) con156_ok ?_
 exact consOk_nil
def ann123 : Nat → List Dir
 | 0 => [.fixRow 3 TStep, .keep [1, 2, 3, 6]]
 | 1 => [.keep [1, 2, 3, 6, 25]]
 | 2 => [.keep [6, 7]]
 | 3 => [.keep [1, 2, 3, 6, 29]]
 | 4 => [.keep [1, 3, 6, 36]]
 | 5 => [.keep [6, 7]]
 | 6 => [.keep [6, 7]]
 | 7 => [.keep [2, 3, 6, 60]]
 | 8 => [.keep [6, 7]]
 | 9 => [.fixRow 8 TMade, .fixRow 9 TMade, .keep [3, 6, 8, 9]]
 | 10 => [.keep [3, 6, 8, 9, 73]]
 | 11 => [.keep [3, 6, 8, 9, 73, 74]]
 | 12 => [.keep [6, 7]]
 | 13 => [.keep [3, 6, 8, 9, 73, 83]]
 | 14 => [.keep [3, 6, 8, 10]]
 | 15 => [.mineC false 10 0 800160 TColumn, .keep [3, 6, 8, 10, 89, 90, 91]]
 | 16 => [.keep [3, 6, 8, 10, 89, 90, 91, 92]]
 | 17 => [.keep [3, 6, 8, 10, 12, 89, 90, 91]]
 | 18 => [.keep [3, 6, 8, 10, 12, 89, 90, 91, 101]]
 | 19 => [.keep [6, 7]]
 | 20 => [.keep [3, 6, 8, 10, 89, 90, 91]]
 | 21 => [.keep [3, 6, 8, 10, 89, 90, 91]]
 | 22 => [.freeze 800160, .keep [6, 7]]
 | 23 => [.keep [3, 6, 8, 9, 73, 119]]
 | 24 => [.fixRow 13 TMade, .keep [3, 6, 13]]
 | 25 => [.freeze 126, .keep [6, 7]]
 | 26 => [.keep [6, 8, 9, 146]]
 | 27 => [.fixRow 14 TMade, .keep [6, 8, 9, 14]]
 | 28 => [.keep [6, 9, 14, 163]]
 | 29 => [.keep [6, 7]]
 | 30 => [.keep [6, 14, 166, 167, 168]]
 | 31 => [.keep [6, 14, 166, 167, 168, 169]]
 | 32 => [.fixRow 16 TColumn, .keep [6, 14, 15, 16, 166, 167, 168]]
 | 33 => [.keep [6, 14, 15, 16, 166, 167, 168, 181]]
 | 34 => [.keep [6, 7]]
 | 35 => [.keep [6, 14, 166, 167, 168]]
 | 36 => [.keep [6, 14, 166, 167, 168]]
 | 37 => [.freeze 150, .keep [6, 7]]
 | 38 => [.keep [6, 7]]
 | 100001 => [.keep [3, 6, 10]]
 | 100003 => [.keep [6, 14]]
 | _ => []
@[reducible] def LP123_1 (s : (TStep).D) (tables : LTb) (ahead : (List (TMade).D)) (m : Nat) (st_ : St) (K : KX) : Prop := (True) ∧ LoopE (t := TInt) (fun (i1 : Int) (v1 : LC) => (⟨[(3, .adr TStep s), (6, .ptr 6 0), (8, .adr TMade (nM ahead s.2.1)), (10, .ptr 10 0), (89, .data (Ty.sl TInt) s.2.2.2.2.2.1), (90, dI (s.2.2.2.2.2.1.length : Int)), (91, dI i1)], [(6, .box [.cst (.slice none 0 0), dI Z0]), (10, .box [.own 800160 none, dI (((nM ahead s.2.1).2).1)]), (800160, .arr false TColumn v1)]⟩ : St)) s.2.2.2.2.2.1 (F.impl_Step_make_l1 s tables ahead) (fun v1 : LC => True) (outD (fun v1 : LC => True → K (.exit 1) (⟨[(3, .adr TStep s), (6, .ptr 6 0), (10, .ptr 10 0)], [(6, .box [.cst (.slice none 0 0), dI Z0]), (10, .box [.own 800160 none, dI (((nM ahead s.2.1).2).1)]), (800160, .arr false TColumn v1)]⟩ : St)) (fun q1 : Unit => K .ret (⟨[(6, .ptr 6 0), (7, dB false)], [(6, .box [.cst (.slice none 0 0), dI Z0])]⟩ : St))) m st_
@[reducible] def LP123_3 (s : (TStep).D) (tables : LTb) (ahead : (List (TMade).D)) (m : Nat) (st_ : St) (K : KX) : Prop := ∃ c3_0 : Int, (True) ∧ LoopI (fun (i3 : Int) (v3 : LC) => (⟨[(6, .ptr 6 0), (14, .ptr 14 0), (166, .data TCS ((nM ahead s.2.2.1).1)), (167, dI (((nM ahead s.2.2.1).1).length : Int)), (168, dI i3)], [(6, .box [.cst (.slice none 0 0), dI Z0]), (14, .box [.clp 150 c3_0, dI (wrap64 (((nM ahead s.2.1).2).1 + ((nM ahead s.2.2.1).2).1))]), (150, .arr false TColumn v3)]⟩ : St)) Z0 (((nM ahead s.2.2.1).1).length : Int) (F.impl_Step_make_l3 s tables ahead c3_0) (fun v3 : LC => True) (outD (fun v3 : LC => True → K (.exit 3) (⟨[(6, .ptr 6 0), (14, .ptr 14 0)], [(6, .box [.cst (.slice none 0 0), dI Z0]), (14, .box [.clp 150 c3_0, dI (wrap64 (((nM ahead s.2.1).2).1 + ((nM ahead s.2.2.1).2).1))]), (150, .arr false TColumn v3)]⟩ : St)) (fun q3 : Unit => K .ret (⟨[(6, .ptr 6 0), (7, dB false)], [(6, .box [.cst (.slice none 0 0), dI Z0])]⟩ : St))) m st_
def L123 (s : (TStep).D) (tables : LTb) (ahead : (List (TMade).D)) : Loops := fun id m st_ K => match id with
 | 1 => LP123_1 s tables ahead m st_ K
 | 3 => LP123_3 s tables ahead m st_ K
 | _ => False
@[reducible] def S123_0 (s : (TStep).D) (tables : LTb) (ahead : (List (TMade).D)) (K : KA) : Prop := K (.tup [.data TMade (nM ahead s.2.1), dB (decide ((M.exprKind ((nM ahead s.2.1).1) s.2.2.2.2.1) = Z3))]) []
@[reducible] def S123_1 (s : (TStep).D) (tables : LTb) (ahead : (List (TMade).D)) (K : KA) : Prop := (S123_0 s tables ahead K)
@[reducible] def S123_2 (s : (TStep).D) (tables : LTb) (ahead : (List (TMade).D)) (K : KA) : Prop := (Sm (Ty.sl TCS) [(nM ahead s.2.1).1, (nM ahead s.2.2.1).1]) ∧ (∀ r_24_5 : LC, r_24_5 = (List.flatten [(nM ahead s.2.1).1, (nM ahead s.2.2.1).1]) → cond ((decide ((r_24_5.length : Int) ≤ Z4)) == true) ((Sm TCS r_24_5) ∧ (Sm TPS s.2.2.2.2.1) ∧ ((K (.tup [.data TMade (r_24_5, (wrap64 ((((nM ahead s.2.1).2).1) * (((nM ahead s.2.2.1).2).1)), ())), dB (decide ((M.exprKind r_24_5 s.2.2.2.2.1) = Z3))]) []) ∧ (K (.tup [.data TMade (r_24_5, (wrap64 ((((nM ahead s.2.1).2).1) * (((nM ahead s.2.2.1).2).1)), ())), dB (decide ((M.exprKind r_24_5 s.2.2.2.2.1) = Z3))]) [])) ∧ (K (.tup [.data TMade (r_24_5, (wrap64 ((((nM ahead s.2.1).2).1) * (((nM ahead s.2.2.1).2).1)), ())), dB (decide ((M.exprKind r_24_5 s.2.2.2.2.1) = Z3))]) [])) (((K (.tup [.data TMade (r_24_5, (wrap64 ((((nM ahead s.2.1).2).1) * (((nM ahead s.2.2.1).2).1)), ())), dB false]) []) ∧ (K (.tup [.data TMade (r_24_5, (wrap64 ((((nM ahead s.2.1).2).1) * (((nM ahead s.2.2.1).2).1)), ())), dB false]) [])) ∧ (K (.tup [.data TMade (r_24_5, (wrap64 ((((nM ahead s.2.1).2).1) * (((nM ahead s.2.2.1).2).1)), ())), dB false]) [])))
@[reducible] def S123_3 (s : (TStep).D) (tables : LTb) (ahead : (List (TMade).D)) (K : KA) : Prop := (Sm TCS ((nM ahead s.2.1).1)) ∧ (∀ r_27_2 : LC, r_27_2 = (((nM ahead s.2.1).1)) → cond (!decide ((((nM ahead s.2.1).1).length : Int) = (((nM ahead s.2.2.1).1).length : Int))) (K (.tup [.data TMade ([], (Z0, ())), dB false]) []) ((∃ m_, ∃ c3_0 : Int, (True) ∧ LoopI (fun (i3 : Int) (v3 : LC) => (⟨[(6, .ptr 6 0), (14, .ptr 14 0), (166, .data TCS ((nM ahead s.2.2.1).1)), (167, dI (((nM ahead s.2.2.1).1).length : Int)), (168, dI i3)], [(6, .box [.cst (.slice none 0 0), dI Z0]), (14, .box [.clp 150 c3_0, dI (wrap64 (((nM ahead s.2.1).2).1 + ((nM ahead s.2.2.1).2).1))]), (150, .arr false TColumn v3)]⟩ : St)) Z0 (((nM ahead s.2.2.1).1).length : Int) (F.impl_Step_make_l3 s tables ahead c3_0) (fun v3 : LC => True) (outD (fun v3 : LC => True → K (.tup [.data TMade ((cutList v3 (some (Z0, c3_0))), (wrap64 (((nM ahead s.2.1).2).1 + ((nM ahead s.2.2.1).2).1), ())), dB true]) []) (fun q3 : Unit => K (.tup [.data TMade ([], (Z0, ())), dB false]) [])) m_ (⟨[(6, .ptr 6 0), (14, .ptr 14 0), (166, .data TCS ((nM ahead s.2.2.1).1)), (167, dI (((nM ahead s.2.2.1).1).length : Int)), (168, dI Z0)], [(6, .box [.cst (.slice none 0 0), dI Z0]), (14, .box [.clp 150 (r_27_2.length : Int), dI (wrap64 (((nM ahead s.2.1).2).1 + ((nM ahead s.2.2.1).2).1))]), (150, .arr false TColumn r_27_2)]⟩ : St))))
@[reducible] def S123_4 (s : (TStep).D) (tables : LTb) (ahead : (List (TMade).D)) (K : KA) : Prop := cond (decide (s.1 = Z2)) ((Sm TCS ((nM ahead s.2.1).1)) ∧ (Sm TPS s.2.2.2.2.1) ∧ ((S123_1 s tables ahead K)) ∧ ((S123_1 s tables ahead K))) (cond (decide (s.1 = Z3)) ((∃ m_, (True) ∧ LoopE (t := TInt) (fun (i1 : Int) (v1 : LC) => (⟨[(3, .adr TStep s), (6, .ptr 6 0), (8, .adr TMade (nM ahead s.2.1)), (10, .ptr 10 0), (89, .data (Ty.sl TInt) s.2.2.2.2.2.1), (90, dI (s.2.2.2.2.2.1.length : Int)), (91, dI i1)], [(6, .box [.cst (.slice none 0 0), dI Z0]), (10, .box [.own 800160 none, dI (((nM ahead s.2.1).2).1)]), (800160, .arr false TColumn v1)]⟩ : St)) s.2.2.2.2.2.1 (F.impl_Step_make_l1 s tables ahead) (fun v1 : LC => True) (outD (fun v1 : LC => True → (((K (.tup [.data TMade (v1, (nM ahead s.2.1).2), dB (decide ((s.2.2.2.2.2.1.length : Int) ≤ Z4))]) []) ∧ (K (.tup [.data TMade (v1, (nM ahead s.2.1).2), dB (decide ((s.2.2.2.2.2.1.length : Int) ≤ Z4))]) [])) ∧ (K (.tup [.data TMade (v1, (nM ahead s.2.1).2), dB (decide ((s.2.2.2.2.2.1.length : Int) ≤ Z4))]) [])) ∧ (K (.tup [.data TMade (v1, (nM ahead s.2.1).2), dB (decide ((s.2.2.2.2.2.1.length : Int) ≤ Z4))]) [])) (fun q1 : Unit => K (.tup [.data TMade ([], (Z0, ())), dB false]) [])) m_ (⟨[(3, .adr TStep s), (6, .ptr 6 0), (8, .adr TMade (nM ahead s.2.1)), (10, .ptr 10 0), (89, .data (Ty.sl TInt) s.2.2.2.2.2.1), (90, dI (s.2.2.2.2.2.1.length : Int)), (91, dI Z0)], [(6, .box [.cst (.slice none 0 0), dI Z0]), (10, .box [.own 800160 none, dI (((nM ahead s.2.1).2).1)]), (800160, .arr false TColumn [])]⟩ : St))) (cond (decide (s.1 = Z4)) ((((S123_2 s tables ahead K)) ∧ ((S123_2 s tables ahead K))) ∧ ((S123_2 s tables ahead K))) (cond (decide (s.1 = Z5)) (((S123_3 s tables ahead K)) ∧ ((S123_3 s tables ahead K))) (K (.tup [.data TMade (nM ahead s.2.1), dB true]) []))))
@[reducible] def S123_5 (s : (TStep).D) (tables : LTb) (ahead : (List (TMade).D)) (K : KA) : Prop := (S123_4 s tables ahead K)
@[reducible] def S123_6 (s : (TStep).D) (tables : LTb) (ahead : (List (TMade).D)) (K : KA) : Prop := ((S123_5 s tables ahead K)) ∧ ((S123_5 s tables ahead K))
@[reducible] def S123_7 (s : (TStep).D) (tables : LTb) (ahead : (List (TMade).D)) (K : KA) : Prop := ((S123_5 s tables ahead K)) ∧ ((S123_6 s tables ahead K))
@[reducible] def S123_8 (s : (TStep).D) (tables : LTb) (ahead : (List (TMade).D)) (K : KA) : Prop := ((0 ≤ s.2.2.1) ∧ (s.2.2.1 < (ahead.length : Int)) ∧ (S123_7 s tables ahead K)) ∧ (((0 ≤ s.2.2.1) ∧ (s.2.2.1 < (ahead.length : Int)) ∧ (S123_6 s tables ahead K)) ∧ ((0 ≤ s.2.2.1) ∧ (s.2.2.1 < (ahead.length : Int)) ∧ (S123_5 s tables ahead K)))
theorem vc123 (s : (TStep).D) (tables : LTb) (ahead : (List (TMade).D)) (K : KA) : awp C123 (L123 s tables ahead) ann123 (bodyOf f123) ⟨argEnv 0 [.data TStep s, .data TTb tables, .brw TMade ahead], []⟩ (outK tab true f123.results.toList (hasBox []) (resK (.tup [TMade, Ty.bool]) K)) =
 ((Sm TStep s) ∧ cond ((!(M.fieldsOk s)) == false) (cond (!(M.inR s.1 Z1 Z6)) (K (.tup [.data TMade ([], (Z0, ())), dB false]) []) (cond (decide (s.1 = Z1)) (cond (!(M.inR s.2.2.2.1 Z0 (wrap64 ((tables.length : Int) - Z1)))) (K (.tup [.data TMade ([], (Z0, ())), dB false]) []) ((0 ≤ s.2.2.2.1) ∧ (s.2.2.2.1 < (tables.length : Int)) ∧ K (.tup [.data TMade ((nT tables s.2.2.2.1).1, (Z6, ())), dB true]) [])) (cond ((!(M.inR s.2.1 Z0 (wrap64 ((ahead.length : Int) - Z1)))) == false) (cond (!(M.inR s.2.2.1 Z0 (wrap64 ((ahead.length : Int) - Z1)))) (K (.tup [.data TMade ([], (Z0, ())), dB false]) []) ((0 ≤ s.2.1) ∧ (s.2.1 < (ahead.length : Int)) ∧ ((0 ≤ s.2.2.1) ∧ (s.2.2.1 < (ahead.length : Int)) ∧ ((S123_6 s tables ahead K)) ∧ ((S123_7 s tables ahead K)) ∧ ((S123_7 s tables ahead K))) ∧ ((S123_8 s tables ahead K)) ∧ ((S123_8 s tables ahead K)))) (K (.tup [.data TMade ([], (Z0, ())), dB false]) [])))) (K (.tup [.data TMade ([], (Z0, ())), dB false]) [])) := by kernel_rfl
theorem lvc123_0 (s : (TStep).D) (tables : LTb) (ahead : (List (TMade).D))  (i1 : Int) (v1 : LC) (m : Nat) (K : KX) : awp C123 (L123 s tables ahead) ann123 (loopAt (bodyOf f123) 0) (⟨[(3, .adr TStep s), (6, .ptr 6 0), (8, .adr TMade (nM ahead s.2.1)), (10, .ptr 10 0), (89, .data (Ty.sl TInt) s.2.2.2.2.2.1), (90, dI (s.2.2.2.2.2.1.length : Int)), (91, dI i1)], [(6, .box [.cst (.slice none 0 0), dI Z0]), (10, .box [.own 800160 none, dI (((nM ahead s.2.1).2).1)]), (800160, .arr false TColumn v1)]⟩ : St) (thenW (fun s' => ∃ m', m' < m ∧ (L123 s tables ahead) 1 m' s' K) (exitN 1 (ann123 (behind 1)) K)) =
 (cond (decide (i1 < (s.2.2.2.2.2.1.length : Int))) ((0 ≤ i1) ∧ (i1 < (s.2.2.2.2.2.1.length : Int)) ∧ cond (!(M.inR (nI s.2.2.2.2.2.1 i1) Z0 (wrap64 ((((nM ahead s.2.1).1).length : Int) - Z1)))) (K .ret (⟨[(6, .ptr 6 0), (7, dB false)], [(6, .box [.cst (.slice none 0 0), dI Z0])]⟩ : St)) ((0 ≤ (nI s.2.2.2.2.2.1 i1)) ∧ ((nI s.2.2.2.2.2.1 i1) < (((nM ahead s.2.1).1).length : Int)) ∧ ((v1.length + [(nC ((nM ahead s.2.1).1) (nI s.2.2.2.2.2.1 i1))].length) * 16 ≤ lim) ∧ (∃ m_, m_ < m ∧ (L123 s tables ahead) 1 m_ (⟨[(3, .adr TStep s), (6, .ptr 6 0), (8, .adr TMade (nM ahead s.2.1)), (10, .ptr 10 0), (89, .data (Ty.sl TInt) s.2.2.2.2.2.1), (90, dI (s.2.2.2.2.2.1.length : Int)), (91, dI (wrap64 (i1 + Z1)))], [(6, .box [.cst (.slice none 0 0), dI Z0]), (10, .box [.own 800160 none, dI (((nM ahead s.2.1).2).1)]), (800160, .arr false TColumn (v1 ++ [(nC ((nM ahead s.2.1).1) (nI s.2.2.2.2.2.1 i1))]))]⟩ : St) K))) (K (.exit 1) (⟨[(3, .adr TStep s), (6, .ptr 6 0), (10, .ptr 10 0)], [(6, .box [.cst (.slice none 0 0), dI Z0]), (10, .box [.own 800160 none, dI (((nM ahead s.2.1).2).1)]), (800160, .arr false TColumn v1)]⟩ : St))) := by kernel_rfl
theorem lvc123_1 (s : (TStep).D) (tables : LTb) (ahead : (List (TMade).D)) (c3_0 : Int) (i3 : Int) (v3 : LC) (m : Nat) (K : KX) : awp C123 (L123 s tables ahead) ann123 (loopAt (bodyOf f123) 1) (⟨[(6, .ptr 6 0), (14, .ptr 14 0), (166, .data TCS ((nM ahead s.2.2.1).1)), (167, dI (((nM ahead s.2.2.1).1).length : Int)), (168, dI i3)], [(6, .box [.cst (.slice none 0 0), dI Z0]), (14, .box [.clp 150 c3_0, dI (wrap64 (((nM ahead s.2.1).2).1 + ((nM ahead s.2.2.1).2).1))]), (150, .arr false TColumn v3)]⟩ : St) (thenW (fun s' => ∃ m', m' < m ∧ (L123 s tables ahead) 3 m' s' K) (exitN 3 (ann123 (behind 3)) K)) =
 (cond (decide (i3 < (((nM ahead s.2.2.1).1).length : Int))) ((0 ≤ i3) ∧ (i3 < (((nM ahead s.2.2.1).1).length : Int)) ∧ (0 ≤ i3) ∧ (i3 < c3_0) ∧ cond (!decide ((nC ((nM ahead s.2.2.1).1) i3).1 = (nC v3 i3).1)) (K .ret (⟨[(6, .ptr 6 0), (7, dB false)], [(6, .box [.cst (.slice none 0 0), dI Z0])]⟩ : St)) ((0 ≤ i3) ∧ (i3 < c3_0) ∧ cond ((((nC v3 i3).2).1) == false) ((0 ≤ i3) ∧ (i3 < c3_0) ∧ (let y_35_15 : LC := (v3.set i3.toNat ((nC v3 i3).1, (nC ((nM ahead s.2.2.1).1) i3).2)); (∃ m_, m_ < m ∧ (L123 s tables ahead) 3 m_ (⟨[(6, .ptr 6 0), (14, .ptr 14 0), (166, .data TCS ((nM ahead s.2.2.1).1)), (167, dI (((nM ahead s.2.2.1).1).length : Int)), (168, dI (wrap64 (i3 + Z1)))], [(6, .box [.cst (.slice none 0 0), dI Z0]), (14, .box [.clp 150 c3_0, dI (wrap64 (((nM ahead s.2.1).2).1 + ((nM ahead s.2.2.1).2).1))]), (150, .arr false TColumn y_35_15)]⟩ : St) K))) ((0 ≤ i3) ∧ (i3 < c3_0) ∧ (∃ m_, m_ < m ∧ (L123 s tables ahead) 3 m_ (⟨[(6, .ptr 6 0), (14, .ptr 14 0), (166, .data TCS ((nM ahead s.2.2.1).1)), (167, dI (((nM ahead s.2.2.1).1).length : Int)), (168, dI (wrap64 (i3 + Z1)))], [(6, .box [.cst (.slice none 0 0), dI Z0]), (14, .box [.clp 150 c3_0, dI (wrap64 (((nM ahead s.2.1).2).1 + ((nM ahead s.2.2.1).2).1))]), (150, .arr false TColumn (v3.set i3.toNat ((nC v3 i3).1, (true, ()))))]⟩ : St) K)))) (K (.exit 3) (⟨[(6, .ptr 6 0), (14, .ptr 14 0)], [(6, .box [.cst (.slice none 0 0), dI Z0]), (14, .box [.clp 150 c3_0, dI (wrap64 (((nM ahead s.2.1).2).1 + ((nM ahead s.2.2.1).2).1))]), (150, .arr false TColumn v3)]⟩ : St))) := by kernel_rfl
theorem con123_ok : ConOk P 123 c123 := by
 refine con_okR (fn := f123) (code := bodyOf f123) (tab_ok tab_check cmp_check) consOk123 mixed func123 rfl rfl fun args hp K h0 => ?_
 obtain ⟨a0, a1, a2, rfl, rfl, h1⟩ := args3_elim h0
 obtain ⟨s, rfl, h2⟩ := withD_elim h1
 obtain ⟨tables, rfl, h3⟩ := withD_elim h2
 obtain ⟨ahead, rfl, h4⟩ := withB_elim h3
 obtain ⟨h_s, h_tables, h_ahead, hK⟩ := h4
 have h : ok (F.impl_Step_make s tables ahead) (fun r => K (.tup [.data TMade r.1, dB r.2]) []) := ok_of_eq (F.impl_Step_make_eq s tables ahead h_s h_tables h_ahead) (hK _ rfl)
 refine ⟨⟨show (3 : Nat) ≤ 201 by decide, show (3 : Nat) ≤ 1000000 by decide⟩, ann123, (L123 s tables ahead), (.tup [TMade, Ty.bool]), (loopsN2 (i0 := 1) (i1 := 3) (by kernel_rfl) ?_ ?_), ?_⟩
 ·clear h
  intro m_ s_ K_ h
  obtain ⟨hc1, i1, v1, rfl, hl1, rfl, hv1, h⟩ := (show LP123_1 s tables ahead m_ s_ K_ from h)
  rw [lvc123_0 s tables ahead i1 v1 _ K_]
  exact (loopE_step (t := TInt) hl1 h (fun ht1 h => ⟨hl1, ⟨ht1, (ok_cond h (fun b_22 h => (ok_ret h :)) (fun b_22 h => ⟨(inR_lo (bnf b_22)), ⟨(inR_hi (bnf b_22)), ⟨(ok_guard h).1, have h := (ok_guard h).2; (loopE_next (t := TInt) (fun m hm => (show LP123_1 s tables ahead m _ _ from ⟨hc1, hm⟩)) (v1 ++ [(nC ((nM ahead s.2.1).1) (nI s.2.2.2.2.2.1 i1))]) rfl hl1 ht1 (sm_len h_s.2.2.2.2.2.1) trivial (ok_ret h :))⟩⟩⟩))⟩⟩) (fun h => (h trivial)))
 ·clear h
  intro m_ s_ K_ h
  obtain ⟨c3_0, hc3, i3, v3, rfl, hl3, rfl, hv3, h⟩ := (show LP123_3 s tables ahead m_ s_ K_ from h)
  rw [lvc123_1 s tables ahead c3_0 i3 v3 _ K_]
  exact (loopI_step h (fun ht3 h => ⟨hl3, ⟨ht3, ⟨hl3, ⟨(ok_guard h).1, have g_48 := (ok_guard h).1; have h := (ok_guard h).2; (ok_cond h (fun b_49 h => (ok_ret h :)) (fun b_49 h => ⟨hl3, ⟨g_48, (ok_cond h (fun b_50 h => ⟨hl3, ⟨g_48, (let y_35_15 : LC := (v3.set i3.toNat ((nC v3 i3).1, (nC ((nM ahead s.2.2.1).1) i3).2)); have h := ok_let h y_35_15 rfl; (loopI_next (fun m hm => (show LP123_3 s tables ahead m _ _ from ⟨c3_0, hc3, hm⟩)) y_35_15 rfl hl3 low0 ht3 (sm_len (sm_nth h_ahead s.2.2.1).1) trivial (ok_ret h :)))⟩⟩) (fun b_50 h => ⟨hl3, ⟨g_48, (loopI_next (fun m hm => (show LP123_3 s tables ahead m _ _ from ⟨c3_0, hc3, hm⟩)) (v3.set i3.toNat ((nC v3 i3).1, (true, ()))) rfl hl3 low0 ht3 (sm_len (sm_nth h_ahead s.2.2.1).1) trivial (ok_ret h :))⟩⟩))⟩⟩))⟩⟩⟩⟩) (fun h => (h trivial)))
 ·rw [vc123 s tables ahead K]
  exact ⟨h_s, (ok_cond h (fun b_1 h => (ok_cond h (fun b_2 h => (ok_ret h :)) (fun b_2 h => (ok_cond h (fun b_3 h => (ok_cond h (fun b_4 h => (ok_ret h :)) (fun b_4 h => ⟨(inR_lo (bnf b_4)), ⟨(inR_hi (bnf b_4)), (ok_ret h :)⟩⟩))) (fun b_3 h => (ok_cond h (fun b_5 h => (ok_cond h (fun b_6 h => (ok_ret h :)) (fun b_6 h => ⟨(inR_lo (bnf (bgt b_5))), ⟨(inR_hi (bnf (bgt b_5))), (have eg1_ : (S123_5 s tables ahead K) := (have h := h; (ok_cond h (fun b_7 h => ⟨(sm_nth h_ahead s.2.1).1, ⟨h_s.2.2.2.2.1, (have eg2_ : (S123_1 s tables ahead K) := (have h := h; (ok_ret h :)); ⟨eg2_, eg2_⟩)⟩⟩) (fun b_7 h => (ok_cond h (fun b_8 h => (loopE_start (t := TInt) (fun m hm => ⟨trivial, hm⟩) [] rfl trivial (ok_then h (fun v1 h hv1 => (⟨⟨⟨(have h := h; (ok_ret h :)), (have h := h; (ok_ret h :))⟩, (have h := h; (ok_ret h :))⟩, (have h := h; (ok_ret h :))⟩)) (fun q1 h => (ok_ret h :))))) (fun b_8 h => (ok_cond h (fun b_24 h => ((fun (g4_0 : Sm (Ty.sl TCS) [(nM ahead s.2.1).1, (nM ahead s.2.2.1).1]) => ⟨⟨⟨g4_0, have g_25 := g4_0; (fun r_24_5 e_r_24_5 => (have h := (ok_let (ok_guard h).2 r_24_5 e_r_24_5); (ok_cond h (fun b_26 h => ⟨(ok_guard h).1, have h := (ok_guard h).2; ⟨h_s.2.2.2.2.1, (⟨⟨(have h := h; (ok_ret h :)), (have h := h; (ok_ret h :))⟩, (have h := h; (ok_ret h :))⟩)⟩⟩) (fun b_26 h => (⟨⟨(have h := h; (ok_ret h :)), (have h := h; (ok_ret h :))⟩, (have h := h; (ok_ret h :))⟩)))))⟩, ⟨g4_0, have g_28 := g4_0; (fun r_24_5 e_r_24_5 => (have h := (ok_let (ok_guard h).2 r_24_5 e_r_24_5); (ok_cond h (fun b_29 h => ⟨(ok_guard h).1, have h := (ok_guard h).2; ⟨h_s.2.2.2.2.1, (⟨⟨(have h := h; (ok_ret h :)), (have h := h; (ok_ret h :))⟩, (have h := h; (ok_ret h :))⟩)⟩⟩) (fun b_29 h => (⟨⟨(have h := h; (ok_ret h :)), (have h := h; (ok_ret h :))⟩, (have h := h; (ok_ret h :))⟩)))))⟩⟩, ⟨g4_0, have g_31 := g4_0; (fun r_24_5 e_r_24_5 => (have h := (ok_let (ok_guard h).2 r_24_5 e_r_24_5); (ok_cond h (fun b_32 h => ⟨(ok_guard h).1, have h := (ok_guard h).2; ⟨h_s.2.2.2.2.1, (⟨⟨(have h := h; (ok_ret h :)), (have h := h; (ok_ret h :))⟩, (have h := h; (ok_ret h :))⟩)⟩⟩) (fun b_32 h => (⟨⟨(have h := h; (ok_ret h :)), (have h := h; (ok_ret h :))⟩, (have h := h; (ok_ret h :))⟩)))))⟩⟩) (ok_guard h).1)) (fun b_24 h => (ok_cond h (fun b_34 h => (⟨⟨(sm_nth h_ahead s.2.1).1, (fun r_27_2 e_r_27_2 => (have h := (ok_let h r_27_2 e_r_27_2); (ok_cond h (fun b_35 h => (ok_ret h :)) (fun b_35 h => (loopI_start (fun m hm => ⟨(r_27_2.length : Int), trivial, hm⟩) Z0 r_27_2 rfl (Int.natCast_nonneg 0) trivial (ok_then h (fun v3 h hv3 => (ok_ret h :)) (fun q3 h => (ok_ret h :))))))))⟩, ⟨(sm_nth h_ahead s.2.1).1, (fun r_27_2 e_r_27_2 => (have h := (ok_let h r_27_2 e_r_27_2); (ok_cond h (fun b_51 h => (ok_ret h :)) (fun b_51 h => (loopI_start (fun m hm => ⟨(r_27_2.length : Int), trivial, hm⟩) Z0 r_27_2 rfl (Int.natCast_nonneg 0) trivial (ok_then h (fun v3 h hv3 => (ok_ret h :)) (fun q3 h => (ok_ret h :))))))))⟩⟩)) (fun b_34 h => (ok_ret h :)))))))))); ⟨⟨(inR_lo (bnf b_6)), ⟨(inR_hi (bnf b_6)), ⟨⟨eg1_, eg1_⟩, ⟨eg1_, ⟨eg1_, eg1_⟩⟩, ⟨eg1_, ⟨eg1_, eg1_⟩⟩⟩⟩⟩, ⟨⟨(inR_lo (bnf b_6)), ⟨(inR_hi (bnf b_6)), ⟨eg1_, ⟨eg1_, eg1_⟩⟩⟩⟩, ⟨⟨(inR_lo (bnf b_6)), ⟨(inR_hi (bnf b_6)), ⟨eg1_, eg1_⟩⟩⟩, ⟨(inR_lo (bnf b_6)), ⟨(inR_hi (bnf b_6)), eg1_⟩⟩⟩⟩, ⟨⟨(inR_lo (bnf b_6)), ⟨(inR_hi (bnf b_6)), ⟨eg1_, ⟨eg1_, eg1_⟩⟩⟩⟩, ⟨⟨(inR_lo (bnf b_6)), ⟨(inR_hi (bnf b_6)), ⟨eg1_, eg1_⟩⟩⟩, ⟨(inR_lo (bnf b_6)), ⟨(inR_hi (bnf b_6)), eg1_⟩⟩⟩⟩⟩)⟩⟩))) (fun b_5 h => (ok_ret h :)))))))) (fun b_1 h => (ok_ret h :)))⟩
def c87 : Con := ⟨[.dat TTb, .dat TSS], fun args hp K => args2 (fun a0 a1 => withD TTb a0 fun tables => withD TSS a1 fun plan => (Sm TTb tables) ∧ (Sm TSS plan) ∧ (∀ r : (List (TMade).D) × Bool, r = (M.makes tables plan) → K (.tup [.data (Ty.sl TMade) r.1, dB r.2]) [])) args hp, .plain⟩
def cons87 : Cons := [(66, c66), (99, c99), (123, c123)]
@[reducible] def C87 : Ctx := ⟨tab, fun t => memN t cmps, cons87, 46, [], 0, false⟩
theorem consOk87 : ConsOk P C87 := by
 refine consOk_cons (enter_ok (fn := f66) func66 (by kernel_rfl) rfl) con66_ok ?_
 refine consOk_cons (enter_ok (fn := f99) func99 (by kernel_rfl) rfl) con99_ok ?_
 refine consOk_cons (enter_ok (fn := f123) func123 (by kernel_rfl) rfl) con123_ok ?_
 exact consOk_nil
def ann87 : Nat → List Dir
 | 0 => [.keep [0, 1]]
 | 1 => [.keep [0, 1, 19]]
 | 2 => [.keep [4, 5]]
 | 3 => [.keep [0, 1, 6]]
 | 4 => [.keep [0, 6, 20, 21, 22]]
 | 5 => [.keep [0, 6, 20, 21, 22, 23]]
 | 6 => [.fixRow 8 TStep, .keep [0, 6, 8, 20, 21, 22]]
 | 7 => [.fixRow 9 TMade, .keep [0, 6, 9, 10, 20, 21, 22]]
 | 8 => [.keep [0, 6, 9, 20, 21, 22, 39]]
 | 9 => [.keep [4, 5]]
 | 10 => [.keep [0, 6, 20, 21, 22]]
 | 11 => [.keep [0, 6, 20, 21, 22]]
 | 12 => [.keep [4, 5]]
 | 100000 => [.keep [6]]
 | _ => []
@[reducible] def LP87_0 (tables : LTb) (plan : LS) (m : Nat) (st_ : St) (K : KX) : Prop := (True) ∧ LoopE (t := TStep) (fun (i0 : Int) (v0 : (List (TMade).D)) => (⟨[(0, .data TTb tables), (6, .own 6 none), (20, .data TSS plan), (21, dI (plan.length : Int)), (22, dI i0)], [(6, .arr false TMade v0)]⟩ : St)) plan (F.impl_makes_l0 tables plan) (fun v0 : (List (TMade).D) => True) (outD (fun v0 : (List (TMade).D) => True → K (.exit 0) (⟨[(6, .own 6 none)], [(6, .arr false TMade v0)]⟩ : St)) (fun q0 : Unit => K .ret (⟨[(4, .own 4 none), (5, dB false)], [(4, .arr false TMade [])]⟩ : St))) m st_
def L87 (tables : LTb) (plan : LS) : Loops := fun id m st_ K => match id with
 | 0 => LP87_0 tables plan m st_ K
 | _ => False
theorem vc87 (tables : LTb) (plan : LS) (K : KA) : awp C87 (L87 tables plan) ann87 (bodyOf f87) ⟨argEnv 0 [.data TTb tables, .data TSS plan], []⟩ (outK tab false f87.results.toList (hasBox []) (resK (.tup [(Ty.sl TMade), Ty.bool]) K)) =
 ((Sm TTb tables) ∧ cond ((!(M.tablesOk tables)) == false) (cond (!(M.inR (plan.length : Int) Z1 Z6)) (K (.tup [.data (Ty.sl TMade) [], dB false]) []) ((∃ m_, (True) ∧ LoopE (t := TStep) (fun (i0 : Int) (v0 : (List (TMade).D)) => (⟨[(0, .data TTb tables), (6, .own 6 none), (20, .data TSS plan), (21, dI (plan.length : Int)), (22, dI i0)], [(6, .arr false TMade v0)]⟩ : St)) plan (F.impl_makes_l0 tables plan) (fun v0 : (List (TMade).D) => True) (outD (fun v0 : (List (TMade).D) => True → K (.tup [.data (Ty.sl TMade) v0, dB true]) []) (fun q0 : Unit => K (.tup [.data (Ty.sl TMade) [], dB false]) [])) m_ (⟨[(0, .data TTb tables), (6, .own 6 none), (20, .data TSS plan), (21, dI (plan.length : Int)), (22, dI Z0)], [(6, .arr false TMade [])]⟩ : St)))) (K (.tup [.data (Ty.sl TMade) [], dB false]) [])) := by kernel_rfl
theorem lvc87_0 (tables : LTb) (plan : LS)  (i0 : Int) (v0 : (List (TMade).D)) (m : Nat) (K : KX) : awp C87 (L87 tables plan) ann87 (loopAt (bodyOf f87) 0) (⟨[(0, .data TTb tables), (6, .own 6 none), (20, .data TSS plan), (21, dI (plan.length : Int)), (22, dI i0)], [(6, .arr false TMade v0)]⟩ : St) (thenW (fun s' => ∃ m', m' < m ∧ (L87 tables plan) 0 m' s' K) (exitN 0 (ann87 (behind 0)) K)) =
 (cond (decide (i0 < (plan.length : Int))) ((0 ≤ i0) ∧ (i0 < (plan.length : Int)) ∧ (Sm TStep (nS plan i0)) ∧ (Sm TTb tables) ∧ (Sm (Ty.sl TMade) v0) ∧ (∀ r_7_3 : (TMade).D × Bool, r_7_3 = (M.make (nS plan i0) tables v0) → cond ((!r_7_3.2) == false) (cond (decide ((300 : Int) < r_7_3.1.2.1)) (K .ret (⟨[(4, .own 4 none), (5, dB false)], [(4, .arr false TMade [])]⟩ : St)) (((v0.length + [r_7_3.1].length) * 32 ≤ lim) ∧ (∃ m_, m_ < m ∧ (L87 tables plan) 0 m_ (⟨[(0, .data TTb tables), (6, .own 6 none), (20, .data TSS plan), (21, dI (plan.length : Int)), (22, dI (wrap64 (i0 + Z1)))], [(6, .arr false TMade (v0 ++ [r_7_3.1]))]⟩ : St) K))) (K .ret (⟨[(4, .own 4 none), (5, dB false)], [(4, .arr false TMade [])]⟩ : St)))) (K (.exit 0) (⟨[(6, .own 6 none)], [(6, .arr false TMade v0)]⟩ : St))) := by kernel_rfl
theorem con87_ok : ConOk P 87 c87 := by
 refine con_okR (fn := f87) (code := bodyOf f87) (tab_ok tab_check cmp_check) consOk87 mixed func87 rfl rfl fun args hp K h0 => ?_
 obtain ⟨a0, a1, rfl, rfl, h1⟩ := args2_elim h0
 obtain ⟨tables, rfl, h2⟩ := withD_elim h1
 obtain ⟨plan, rfl, h3⟩ := withD_elim h2
 obtain ⟨h_tables, h_plan, hK⟩ := h3
 have h : ok (F.impl_makes tables plan) (fun r => K (.tup [.data (Ty.sl TMade) r.1, dB r.2]) []) := ok_of_eq (F.impl_makes_eq tables plan h_tables h_plan) (hK _ rfl)
 refine ⟨⟨show (2 : Nat) ≤ 46 by decide, show (2 : Nat) ≤ 1000000 by decide⟩, ann87, (L87 tables plan), (.tup [(Ty.sl TMade), Ty.bool]), (loopsN1 (i0 := 0) (by kernel_rfl) ?_), ?_⟩
 ·clear h
  intro m_ s_ K_ h
  obtain ⟨hc0, i0, v0, rfl, hl0, rfl, hv0, h⟩ := (show LP87_0 tables plan m_ s_ K_ from h)
  rw [lvc87_0 tables plan i0 v0 _ K_]
  exact (loopE_step (t := TStep) hl0 h (fun ht0 h => ⟨hl0, ⟨ht0, ⟨(sm_nth h_plan i0), ⟨h_tables, ⟨(ok_guard h).1, have h := (ok_guard h).2; (fun r_7_3 e_r_7_3 => have h := ok_let h r_7_3 e_r_7_3; (ok_cond h (fun b_23 h => (ok_cond h (fun b_24 h => (ok_ret h :)) (fun b_24 h => ⟨(ok_guard h).1, have h := (ok_guard h).2; (loopE_next (t := TStep) (fun m hm => (show LP87_0 tables plan m _ _ from ⟨hc0, hm⟩)) (v0 ++ [r_7_3.1]) rfl hl0 ht0 (sm_len h_plan) trivial (ok_ret h :))⟩))) (fun b_23 h => (ok_ret h :))))⟩⟩⟩⟩⟩) (fun h => (h trivial)))
 ·rw [vc87 tables plan K]
  exact ⟨h_tables, (ok_cond h (fun b_1 h => (ok_cond h (fun b_2 h => (ok_ret h :)) (fun b_2 h => (loopE_start (t := TStep) (fun m hm => ⟨trivial, hm⟩) [] rfl trivial (ok_then h (fun v0 h hv0 => (ok_ret h :)) (fun q0 h => (ok_ret h :))))))) (fun b_1 h => (ok_ret h :)))⟩
def c41 : Con := ⟨[.dat TTb, .dat TSS], fun args hp K => args2 (fun a0 a1 => withD TTb a0 fun tables => withD TSS a1 fun plan => (Sm TTb tables) ∧ (Sm TSS plan) ∧ K (dB (M.planOk tables plan)) []) args hp, .plain⟩
def cons41 : Cons := [(87, c87)]
@[reducible] def C41 : Ctx := ⟨tab, fun t => memN t cmps, cons41, 14, [], 0, false⟩
theorem consOk41 : ConsOk P C41 := by
 refine consOk_cons (enter_ok (fn := f87) func87 (by kernel_rfl) rfl) con87_ok ?_
 exact consOk_nil
def ann41 : Nat → List Dir
 | 0 => [.keep [0, 1]]
 | 1 => [.keep [6]]
 | 2 => [.keep [4]]
 | _ => []
def L41 (tables : LTb) (plan : LS) : Loops := fun id m st_ K => match id with
 | _ => False
theorem vc41 (tables : LTb) (plan : LS) (K : KA) : awp C41 (L41 tables plan) ann41 (bodyOf f41) ⟨argEnv 0 [.data TTb tables, .data TSS plan], []⟩ (outK tab false f41.results.toList (hasBox []) (resK (.dat Ty.bool) K)) =
 ((Sm TTb tables) ∧ (Sm TSS plan) ∧ (∀ r_1_2 : (List (TMade).D) × Bool, r_1_2 = (M.makes tables plan) → K (dB r_1_2.2) [])) := by kernel_rfl
theorem con41_ok : ConOk P 41 c41 := by
 refine con_okR (fn := f41) (code := bodyOf f41) (tab_ok tab_check cmp_check) consOk41 mixed func41 rfl rfl fun args hp K h0 => ?_
 obtain ⟨a0, a1, rfl, rfl, h1⟩ := args2_elim h0
 obtain ⟨tables, rfl, h2⟩ := withD_elim h1
 obtain ⟨plan, rfl, h3⟩ := withD_elim h2
 obtain ⟨h_tables, h_plan, hK⟩ := h3
 have h : ok (F.impl_PlanOk tables plan) (fun r => K (dB r) []) := ok_of_eq (F.impl_PlanOk_eq tables plan h_tables h_plan) hK
 refine ⟨⟨show (2 : Nat) ≤ 14 by decide, show (2 : Nat) ≤ 1000000 by decide⟩, ann41, (L41 tables plan), (.dat Ty.bool), (no_loops (by kernel_rfl)), ?_⟩
 ·rw [vc41 tables plan K]
  exact ⟨h_tables, ⟨h_plan, (fun r_1_2 e_r_1_2 => have h := ok_let h r_1_2 e_r_1_2; (ok_ret h :))⟩⟩
def c55 : Con := ⟨[.dat TTb, .dat TGS], fun args hp K => args2 (fun a0 a1 => withD TTb a0 fun tables => withD TGS a1 fun guards => (Sm TTb tables) ∧ (Sm TGS guards) ∧ K (dB (M.guardsOk tables guards)) []) args hp, .plain⟩
def cons55 : Cons := [(66, c66), (99, c99), (100, c100)]
@[reducible] def C55 : Ctx := ⟨tab, fun t => memN t cmps, cons55, 52, [], 0, false⟩
theorem consOk55 : ConsOk P C55 := by
 refine consOk_cons (enter_ok (fn := f66) func66 (by kernel_rfl) rfl) con66_ok ?_
 refine consOk_cons (enter_ok (fn := f99) func99 (by kernel_rfl) rfl) con99_ok ?_
 refine consOk_cons (enter_ok (fn := f100) func100 (by kernel_rfl) rfl) con100_ok ?_
 exact consOk_nil
def ann55 : Nat → List Dir
 | 0 => [.keep [0, 1]]
 | 1 => [.keep [0, 1, 9]]
 | 2 => [.keep [4]]
 | 3 => [.keep [0, 1, 10, 11, 12]]
 | 4 => [.keep [0, 1, 10, 11, 12, 13]]
 | 5 => [.fixRow 6 TGuard, .keep [0, 1, 5, 6, 10, 11, 12]]
 | 6 => [.keep [0, 1, 10, 11, 12, 50]]
 | 7 => [.keep [4]]
 | 8 => [.keep [0, 1, 10, 11, 12]]
 | 9 => [.keep [4]]
 | 100000 => [.keep []]
 | _ => []
@[reducible] def LP55_0 (tables : LTb) (guards : LG) (m : Nat) (st_ : St) (K : KX) : Prop := (True) ∧ LoopI (fun (i0 : Int) (v0 : Unit) => (⟨[(0, .data TTb tables), (1, .data TGS guards), (10, .data TGS guards), (11, dI (guards.length : Int)), (12, dI i0)], []⟩ : St)) Z0 (guards.length : Int) (F.impl_GuardsOk_l0 tables guards) (fun v0 : Unit => True) (outD (fun v0 : Unit => True → K (.exit 0) (⟨[], []⟩ : St)) (fun q0 : Unit => K .ret (⟨[(4, dB false)], []⟩ : St))) m st_
def L55 (tables : LTb) (guards : LG) : Loops := fun id m st_ K => match id with
 | 0 => LP55_0 tables guards m st_ K
 | _ => False
theorem vc55 (tables : LTb) (guards : LG) (K : KA) : awp C55 (L55 tables guards) ann55 (bodyOf f55) ⟨argEnv 0 [.data TTb tables, .data TGS guards], []⟩ (outK tab false f55.results.toList (hasBox []) (resK (.dat Ty.bool) K)) =
 ((Sm TTb tables) ∧ cond (!(M.tablesOk tables)) (K (dB false) []) ((∃ m_, (True) ∧ LoopI (fun (i0 : Int) (v0 : Unit) => (⟨[(0, .data TTb tables), (1, .data TGS guards), (10, .data TGS guards), (11, dI (guards.length : Int)), (12, dI i0)], []⟩ : St)) Z0 (guards.length : Int) (F.impl_GuardsOk_l0 tables guards) (fun v0 : Unit => True) (outD (fun v0 : Unit => True → K (dB true) []) (fun q0 : Unit => K (dB false) [])) m_ (⟨[(0, .data TTb tables), (1, .data TGS guards), (10, .data TGS guards), (11, dI (guards.length : Int)), (12, dI Z0)], []⟩ : St)))) := by kernel_rfl
@[reducible] def S55l0_0 (tables : LTb) (guards : LG)  (i0 : Int) (v0 : Unit) (m : Nat) (K : KX) : Prop := (0 ≤ (nG guards i0).1) ∧ ((nG guards i0).1 < (tables.length : Int)) ∧ (Sm TCS ((nT tables ((nG guards i0).1)).1)) ∧ (Sm TPS (((nG guards i0).2).1)) ∧ cond (!decide ((M.exprKind ((nT tables ((nG guards i0).1)).1) (((nG guards i0).2).1)) = Z3)) (K .ret (⟨[(4, dB false)], []⟩ : St)) ((∃ m_, m_ < m ∧ (L55 tables guards) 0 m_ (⟨[(0, .data TTb tables), (1, .data TGS guards), (10, .data TGS guards), (11, dI (guards.length : Int)), (12, dI (wrap64 (i0 + Z1)))], []⟩ : St) K))
theorem lvc55_0 (tables : LTb) (guards : LG)  (i0 : Int) (v0 : Unit) (m : Nat) (K : KX) : awp C55 (L55 tables guards) ann55 (loopAt (bodyOf f55) 0) (⟨[(0, .data TTb tables), (1, .data TGS guards), (10, .data TGS guards), (11, dI (guards.length : Int)), (12, dI i0)], []⟩ : St) (thenW (fun s' => ∃ m', m' < m ∧ (L55 tables guards) 0 m' s' K) (exitN 0 (ann55 (behind 0)) K)) =
 (cond (decide (i0 < (guards.length : Int))) ((0 ≤ i0) ∧ (i0 < (guards.length : Int)) ∧ cond ((!(M.inR ((nG guards i0).1) Z0 (wrap64 ((tables.length : Int) - Z1)))) == false) (cond ((decide (Z0 < i0)) == true) ((0 ≤ wrap64 (i0 - Z1)) ∧ (wrap64 (i0 - Z1) < (guards.length : Int)) ∧ cond ((decide ((nG guards i0).1 ≤ (nG guards (wrap64 (i0 - Z1))).1)) == false) ((S55l0_0  tables guards i0 v0 m K)) (K .ret (⟨[(4, dB false)], []⟩ : St))) ((S55l0_0  tables guards i0 v0 m K))) (K .ret (⟨[(4, dB false)], []⟩ : St))) (K (.exit 0) (⟨[], []⟩ : St))) := by kernel_rfl
theorem con55_ok : ConOk P 55 c55 := by
 refine con_okR (fn := f55) (code := bodyOf f55) (tab_ok tab_check cmp_check) consOk55 mixed func55 rfl rfl fun args hp K h0 => ?_
 obtain ⟨a0, a1, rfl, rfl, h1⟩ := args2_elim h0
 obtain ⟨tables, rfl, h2⟩ := withD_elim h1
 obtain ⟨guards, rfl, h3⟩ := withD_elim h2
 obtain ⟨h_tables, h_guards, hK⟩ := h3
 have h : ok (F.impl_GuardsOk tables guards) (fun r => K (dB r) []) := ok_of_eq (F.impl_GuardsOk_eq tables guards h_tables h_guards) hK
 refine ⟨⟨show (2 : Nat) ≤ 52 by decide, show (2 : Nat) ≤ 1000000 by decide⟩, ann55, (L55 tables guards), (.dat Ty.bool), (loopsN1 (i0 := 0) (by kernel_rfl) ?_), ?_⟩
 ·clear h
  intro m_ s_ K_ h
  obtain ⟨hc0, i0, v0, rfl, hl0, rfl, hv0, h⟩ := (show LP55_0 tables guards m_ s_ K_ from h)
  rw [lvc55_0 tables guards i0 v0 _ K_]
  exact (loopI_step h (fun ht0 h => ⟨hl0, ⟨ht0, (ok_cond h (fun b_22 h => (ok_cond h (fun b_23 h => ⟨(ok_guard h).1, have h := (ok_guard h).2; ⟨(ok_guard h).1, have h := (ok_guard h).2; (ok_cond h (fun b_26 h => ⟨(inR_lo (bnf (bgt b_22))), ⟨(inR_hi (bnf (bgt b_22))), ⟨(sm_nth h_tables ((nG guards i0).1)).1, ⟨(sm_nth h_guards i0).2.1, (ok_cond h (fun b_27 h => (ok_ret h :)) (fun b_27 h => (loopI_next (fun m hm => (show LP55_0 tables guards m _ _ from ⟨hc0, hm⟩)) () rfl hl0 low0 ht0 (sm_len h_guards) trivial (ok_ret h :))))⟩⟩⟩⟩) (fun b_26 h => (ok_ret h :)))⟩⟩) (fun b_23 h => ⟨(inR_lo (bnf (bgt b_22))), ⟨(inR_hi (bnf (bgt b_22))), ⟨(sm_nth h_tables ((nG guards i0).1)).1, ⟨(sm_nth h_guards i0).2.1, (ok_cond h (fun b_28 h => (ok_ret h :)) (fun b_28 h => (loopI_next (fun m hm => (show LP55_0 tables guards m _ _ from ⟨hc0, hm⟩)) () rfl hl0 low0 ht0 (sm_len h_guards) trivial (ok_ret h :))))⟩⟩⟩⟩))) (fun b_22 h => (ok_ret h :)))⟩⟩) (fun h => (h trivial)))
 ·rw [vc55 tables guards K]
  exact ⟨h_tables, (ok_cond h (fun b_1 h => (ok_ret h :)) (fun b_1 h => (loopI_start (fun m hm => ⟨trivial, hm⟩) Z0 () rfl (Int.natCast_nonneg 0) trivial (ok_then h (fun v0 h hv0 => (ok_ret h :)) (fun q0 h => (ok_ret h :))))))⟩
def cons70 : Cons := []
@[reducible] def C70 : Ctx := ⟨tab, fun t => memN t cmps, cons70, 8, [], 800000, true⟩
theorem consOk70 : ConsOk P C70 := by
 exact consOk_nil
def T70 : Inl := inlT C70 (fun _ => []) (bodyOf f70) f70.results.toList
theorem inlOk70 : InlOk P 70 T70 := inl_ok (fn := f70) (code := bodyOf f70) (tab_ok tab_check cmp_check) consOk70 mixed func70 rfl rfl (by kernel_rfl)
def cons184 : Cons := []
@[reducible] def C184 : Ctx := ⟨tab, fun t => memN t cmps, cons184, 9, [], 400000, true⟩
theorem consOk184 : ConsOk P C184 := by
 exact consOk_nil
def T184 : Inl := inlT C184 (fun _ => []) (bodyOf f184) f184.results.toList
theorem inlOk184 : InlOk P 184 T184 := inl_ok (fn := f184) (code := bodyOf f184) (tab_ok tab_check cmp_check) consOk184 mixed func184 rfl rfl (by kernel_rfl)
def c143 : Con := ⟨[.dat TPS], fun args hp K => args1 (fun a0 => withD TPS a0 fun xs => (Sm TPS xs) ∧ (∀ r : LPt, r = (xs) → K (.clp 0 (r.length : Int)) [(0, .arr false TPart r)])) args hp, .bor⟩
def cons143 : Cons := []
@[reducible] def C143 : Ctx := ⟨tab, fun t => memN t cmps, cons143, 9, [(184, T184)], 0, true⟩
theorem consOk143 : ConsOk P C143 := by
 refine consOk_inl (enter_ok (fn := f184) func184 (by kernel_rfl) rfl) inlOk184 ?_
 exact consOk_nil
def ann143 : Nat → List Dir
 | 0 => [.keep [0]]
 | 1 => [.keep [0, 5]]
 | 2 => [.clip 2, .keep [2]]
 | 3 => [.keep [2]]
 | _ => []
def L143 (xs : LPt) : Loops := fun id m st_ K => match id with
 | _ => False
theorem vc143 (xs : LPt) (K : KA) : awp C143 (L143 xs) ann143 (bodyOf f143) ⟨argEnv 0 [.data TPS xs], []⟩ (outK tab true f143.results.toList (hasBox []) (resK .raw K)) =
 (cond (decide ((xs.length : Int) = Z0)) (K (.clp 0 (([] : List TPart.D).length : Int)) [(0, .arr false TPart ([] : List TPart.D))]) ((xs.length * 48 ≤ lim) ∧ (0 ≤ Z0) ∧ (Z0 ≤ (xs.length : Int)) ∧ ((xs.length : Int) ≤ (xs.length : Int)) ∧ ((xs.length : Int) = (xs.length : Int)) ∧ (Z0 = 0) ∧ K (.clp 0 ((xs.take (xs.length : Int).toNat).length : Int)) [(0, .arr false TPart (xs.take (xs.length : Int).toNat))])) := by kernel_rfl
theorem con143_ok : ConOk P 143 c143 := by
 refine con_okR (fn := f143) (code := bodyOf f143) (tab_ok tab_check cmp_check) consOk143 mixed func143 rfl rfl fun args hp K h0 => ?_
 obtain ⟨a0, rfl, rfl, h1⟩ := args1_elim h0
 obtain ⟨xs, rfl, h2⟩ := withD_elim h1
 obtain ⟨h_xs, hK⟩ := h2
 have h : ok (F.clone_TPart xs) (fun r => K (.clp 0 (r.length : Int)) [(0, .arr false TPart r)]) := ok_of_eq (F.clone_TPart_eq xs h_xs) (hK _ rfl)
 refine ⟨⟨show (1 : Nat) ≤ 9 by decide, show (1 : Nat) ≤ 1000000 by decide⟩, ann143, (L143 xs), .raw, (no_loops (by kernel_rfl)), ?_⟩
 ·rw [vc143 xs K]
  exact (ok_cond h (fun b_1 h => (ok_ret h :)) (fun b_1 h => ⟨(sm_lim h_xs rfl), ⟨(Int.natCast_nonneg 0), ⟨(Int.natCast_nonneg _), ⟨(Int.le_refl _), ⟨rfl, ⟨rfl, (ok_ret h :)⟩⟩⟩⟩⟩⟩))
def cons185 : Cons := []
@[reducible] def C185 : Ctx := ⟨tab, fun t => memN t cmps, cons185, 9, [], 400000, true⟩
theorem consOk185 : ConsOk P C185 := by
 exact consOk_nil
def T185 : Inl := inlT C185 (fun _ => []) (bodyOf f185) f185.results.toList
theorem inlOk185 : InlOk P 185 T185 := inl_ok (fn := f185) (code := bodyOf f185) (tab_ok tab_check cmp_check) consOk185 mixed func185 rfl rfl (by kernel_rfl)
def c144 : Con := ⟨[.dat (Ty.sl TInt)], fun args hp K => args1 (fun a0 => withD (Ty.sl TInt) a0 fun xs => (Sm (Ty.sl TInt) xs) ∧ (∀ r : (List Int), r = (xs) → K (.clp 0 (r.length : Int)) [(0, .arr false TInt r)])) args hp, .bor⟩
def cons144 : Cons := []
@[reducible] def C144 : Ctx := ⟨tab, fun t => memN t cmps, cons144, 9, [(185, T185)], 0, true⟩
theorem consOk144 : ConsOk P C144 := by
 refine consOk_inl (enter_ok (fn := f185) func185 (by kernel_rfl) rfl) inlOk185 ?_
 exact consOk_nil
def ann144 : Nat → List Dir
 | 0 => [.keep [0]]
 | 1 => [.keep [0, 5]]
 | 2 => [.clip 2, .keep [2]]
 | 3 => [.keep [2]]
 | _ => []
def L144 (xs : (List Int)) : Loops := fun id m st_ K => match id with
 | _ => False
theorem vc144 (xs : (List Int)) (K : KA) : awp C144 (L144 xs) ann144 (bodyOf f144) ⟨argEnv 0 [.data (Ty.sl TInt) xs], []⟩ (outK tab true f144.results.toList (hasBox []) (resK .raw K)) =
 (cond (decide ((xs.length : Int) = Z0)) (K (.clp 0 (([] : List TInt.D).length : Int)) [(0, .arr false TInt ([] : List TInt.D))]) ((xs.length * 8 ≤ lim) ∧ (0 ≤ Z0) ∧ (Z0 ≤ (xs.length : Int)) ∧ ((xs.length : Int) ≤ (xs.length : Int)) ∧ ((xs.length : Int) = (xs.length : Int)) ∧ (Z0 = 0) ∧ K (.clp 0 ((xs.take (xs.length : Int).toNat).length : Int)) [(0, .arr false TInt (xs.take (xs.length : Int).toNat))])) := by kernel_rfl
theorem con144_ok : ConOk P 144 c144 := by
 refine con_okR (fn := f144) (code := bodyOf f144) (tab_ok tab_check cmp_check) consOk144 mixed func144 rfl rfl fun args hp K h0 => ?_
 obtain ⟨a0, rfl, rfl, h1⟩ := args1_elim h0
 obtain ⟨xs, rfl, h2⟩ := withD_elim h1
 obtain ⟨h_xs, hK⟩ := h2
 have h : ok (F.clone_Inti64 xs) (fun r => K (.clp 0 (r.length : Int)) [(0, .arr false TInt r)]) := ok_of_eq (F.clone_Inti64_eq xs h_xs) (hK _ rfl)
 refine ⟨⟨show (1 : Nat) ≤ 9 by decide, show (1 : Nat) ≤ 1000000 by decide⟩, ann144, (L144 xs), .raw, (no_loops (by kernel_rfl)), ?_⟩
 ·rw [vc144 xs K]
  exact (ok_cond h (fun b_1 h => (ok_ret h :)) (fun b_1 h => ⟨(sm_lim h_xs rfl), ⟨(Int.natCast_nonneg 0), ⟨(Int.natCast_nonneg _), ⟨(Int.le_refl _), ⟨rfl, ⟨rfl, (ok_ret h :)⟩⟩⟩⟩⟩⟩))
def cons112 : Cons := [(143, c143), (144, c144)]
@[reducible] def C112 : Ctx := ⟨tab, fun t => memN t cmps, cons112, 12, [], 200000, true⟩
theorem consOk112 : ConsOk P C112 := by
 refine consOk_cons (enter_ok (fn := f143) func143 (by kernel_rfl) rfl) con143_ok ?_
 refine consOk_cons (enter_ok (fn := f144) func144 (by kernel_rfl) rfl) con144_ok ?_
 exact consOk_nil
def T112 : Inl := inlT C112 (fun _ => []) (bodyOf f112) f112.results.toList
theorem inlOk112 : InlOk P 112 T112 := inl_ok (fn := f112) (code := bodyOf f112) (tab_ok tab_check cmp_check) consOk112 mixed func112 rfl rfl (by kernel_rfl)
def c113 : Con := ⟨[.dat TInt], fun args hp K => args1 (fun a0 => withD TInt a0 fun kind => K (dB (M.two kind)) []) args hp, .plain⟩
def cons113 : Cons := []
@[reducible] def C113 : Ctx := ⟨tab, fun t => memN t cmps, cons113, 9, [], 0, false⟩
theorem consOk113 : ConsOk P C113 := by
 exact consOk_nil
def ann113 : Nat → List Dir
 | 0 => [.keep [0]]
 | 1 => [.keep [2]]
 | _ => []
def L113 (kind : Int) : Loops := fun id m st_ K => match id with
 | _ => False
theorem vc113 (kind : Int) (K : KA) : awp C113 (L113 kind) ann113 (bodyOf f113) ⟨argEnv 0 [dI kind], []⟩ (outK tab false f113.results.toList (hasBox []) (resK (.dat Ty.bool) K)) =
 (cond ((decide (kind = Z4)) == false) (K (dB (decide (kind = Z5))) []) (K (dB true) [])) := by kernel_rfl
theorem con113_ok : ConOk P 113 c113 := by
 refine con_okR (fn := f113) (code := bodyOf f113) (tab_ok tab_check cmp_check) consOk113 mixed func113 rfl rfl fun args hp K h0 => ?_
 obtain ⟨a0, rfl, rfl, h1⟩ := args1_elim h0
 obtain ⟨kind, rfl, h2⟩ := withD_elim h1
 have hK := h2
 have h : ok (F.impl_names2 kind) (fun r => K (dB r) []) := ok_of_eq (F.impl_names2_eq kind) hK
 refine ⟨⟨show (1 : Nat) ≤ 9 by decide, show (1 : Nat) ≤ 1000000 by decide⟩, ann113, (L113 kind), (.dat Ty.bool), (no_loops (by kernel_rfl)), ?_⟩
 ·rw [vc113 kind K]
  exact (ok_cond h (fun b_1 h => (ok_ret h :)) (fun b_1 h => (ok_ret h :)))
def cons69 : Cons := [(113, c113)]
@[reducible] def C69 : Ctx := ⟨tab, fun t => memN t cmps, cons69, 25, [(70, T70), (112, T112)], 600000, true⟩
theorem consOk69 : ConsOk P C69 := by
 refine consOk_cons (enter_ok (fn := f113) func113 (by kernel_rfl) rfl) con113_ok ?_
 refine consOk_inl (enter_ok (fn := f70) func70 (by kernel_rfl) rfl) inlOk70 ?_
 refine consOk_inl (enter_ok (fn := f112) func112 (by kernel_rfl) rfl) inlOk112 ?_
 exact consOk_nil
def T69 : Inl := inlT C69 (fun _ => []) (bodyOf f69) f69.results.toList
theorem inlOk69 : InlOk P 69 T69 := inl_ok (fn := f69) (code := bodyOf f69) (tab_ok tab_check cmp_check) consOk69 mixed func69 rfl rfl (by kernel_rfl)
def c71 : Con := ⟨[.dat TGS, .dat TInt], fun args hp K => args2 (fun a0 a1 => withD TGS a0 fun guards => withD TInt a1 fun n => (Sm TGS guards) ∧ (∀ r : LPt × Bool, r = (M.guardOf guards n) → K (.tup [.data TPS r.1, dB r.2]) [])) args hp, .plain⟩
def cons71 : Cons := []
@[reducible] def C71 : Ctx := ⟨tab, fun t => memN t cmps, cons71, 21, [], 0, false⟩
theorem consOk71 : ConsOk P C71 := by
 exact consOk_nil
def ann71 : Nat → List Dir
 | 0 => [.keep [0, 1]]
 | 1 => [.keep [1, 8, 9, 10]]
 | 2 => [.keep [1, 8, 9, 10, 11]]
 | 3 => [.fixRow 7 TGuard, .keep [1, 7, 8, 9, 10]]
 | 4 => [.keep [1, 7, 8, 9, 10, 17]]
 | 5 => [.keep [4, 5]]
 | 6 => [.keep [1, 8, 9, 10]]
 | 7 => [.keep [4, 5]]
 | 100000 => [.keep []]
 | _ => []
@[reducible] def LP71_0 (guards : LG) (n : Int) (m : Nat) (st_ : St) (K : KX) : Prop := (True) ∧ LoopE (t := TGuard) (fun (i0 : Int) (v0 : Unit) => (⟨[(1, dI n), (8, .data TGS guards), (9, dI (guards.length : Int)), (10, dI i0)], []⟩ : St)) guards (F.impl_guardOf_l0 guards n) (fun v0 : Unit => True) (outD (fun v0 : Unit => True → K (.exit 0) (⟨[], []⟩ : St)) (fun q0 : LPt => K .ret (⟨[(4, .data TPS q0), (5, dB true)], []⟩ : St))) m st_
def L71 (guards : LG) (n : Int) : Loops := fun id m st_ K => match id with
 | 0 => LP71_0 guards n m st_ K
 | _ => False
theorem vc71 (guards : LG) (n : Int) (K : KA) : awp C71 (L71 guards n) ann71 (bodyOf f71) ⟨argEnv 0 [.data TGS guards, dI n], []⟩ (outK tab false f71.results.toList (hasBox []) (resK (.tup [TPS, Ty.bool]) K)) =
 ((∃ m_, (True) ∧ LoopE (t := TGuard) (fun (i0 : Int) (v0 : Unit) => (⟨[(1, dI n), (8, .data TGS guards), (9, dI (guards.length : Int)), (10, dI i0)], []⟩ : St)) guards (F.impl_guardOf_l0 guards n) (fun v0 : Unit => True) (outD (fun v0 : Unit => True → K (.tup [.data TPS [], dB false]) []) (fun q0 : LPt => K (.tup [.data TPS q0, dB true]) [])) m_ (⟨[(1, dI n), (8, .data TGS guards), (9, dI (guards.length : Int)), (10, dI Z0)], []⟩ : St))) := by kernel_rfl
theorem lvc71_0 (guards : LG) (n : Int)  (i0 : Int) (v0 : Unit) (m : Nat) (K : KX) : awp C71 (L71 guards n) ann71 (loopAt (bodyOf f71) 0) (⟨[(1, dI n), (8, .data TGS guards), (9, dI (guards.length : Int)), (10, dI i0)], []⟩ : St) (thenW (fun s' => ∃ m', m' < m ∧ (L71 guards n) 0 m' s' K) (exitN 0 (ann71 (behind 0)) K)) =
 (cond (decide (i0 < (guards.length : Int))) ((0 ≤ i0) ∧ (i0 < (guards.length : Int)) ∧ cond (decide ((nG guards i0).1 = n)) (K .ret (⟨[(4, .data TPS (((nG guards i0).2).1)), (5, dB true)], []⟩ : St)) ((∃ m_, m_ < m ∧ (L71 guards n) 0 m_ (⟨[(1, dI n), (8, .data TGS guards), (9, dI (guards.length : Int)), (10, dI (wrap64 (i0 + Z1)))], []⟩ : St) K))) (K (.exit 0) (⟨[], []⟩ : St))) := by kernel_rfl
theorem con71_ok : ConOk P 71 c71 := by
 refine con_okR (fn := f71) (code := bodyOf f71) (tab_ok tab_check cmp_check) consOk71 mixed func71 rfl rfl fun args hp K h0 => ?_
 obtain ⟨a0, a1, rfl, rfl, h1⟩ := args2_elim h0
 obtain ⟨guards, rfl, h2⟩ := withD_elim h1
 obtain ⟨n, rfl, h3⟩ := withD_elim h2
 obtain ⟨h_guards, hK⟩ := h3
 have h : ok (F.impl_guardOf guards n) (fun r => K (.tup [.data TPS r.1, dB r.2]) []) := ok_of_eq (F.impl_guardOf_eq guards n h_guards) (hK _ rfl)
 refine ⟨⟨show (2 : Nat) ≤ 21 by decide, show (2 : Nat) ≤ 1000000 by decide⟩, ann71, (L71 guards n), (.tup [TPS, Ty.bool]), (loopsN1 (i0 := 0) (by kernel_rfl) ?_), ?_⟩
 ·clear h
  intro m_ s_ K_ h
  obtain ⟨hc0, i0, v0, rfl, hl0, rfl, hv0, h⟩ := (show LP71_0 guards n m_ s_ K_ from h)
  rw [lvc71_0 guards n i0 v0 _ K_]
  exact (loopE_step (t := TGuard) hl0 h (fun ht0 h => ⟨hl0, ⟨ht0, (ok_cond h (fun b_9 h => (ok_ret h :)) (fun b_9 h => (loopE_next (t := TGuard) (fun m hm => (show LP71_0 guards n m _ _ from ⟨hc0, hm⟩)) () rfl hl0 ht0 (sm_len h_guards) trivial (ok_ret h :))))⟩⟩) (fun h => (h trivial)))
 ·rw [vc71 guards n K]
  exact (loopE_start (t := TGuard) (fun m hm => ⟨trivial, hm⟩) () rfl trivial (ok_then h (fun v0 h hv0 => (ok_ret h :)) (fun q0 h => (ok_ret h :))))
def cons90 : Cons := []
@[reducible] def C90 : Ctx := ⟨tab, fun t => memN t cmps, cons90, 9, [], 400000, true⟩
theorem consOk90 : ConsOk P C90 := by
 exact consOk_nil
def T90 : Inl := inlT C90 (fun _ => []) (bodyOf f90) f90.results.toList
theorem inlOk90 : InlOk P 90 T90 := inl_ok (fn := f90) (code := bodyOf f90) (tab_ok tab_check cmp_check) consOk90 mixed func90 rfl rfl (by kernel_rfl)
def c72 : Con := ⟨[.dat TSS], fun args hp K => args1 (fun a0 => withD TSS a0 fun plan => (Sm TSS plan) ∧ (∀ r : LS, r = (plan) → K (.clp 0 (r.length : Int)) [(0, .arr true TStep r)])) args hp, .bor⟩
def cons72 : Cons := []
@[reducible] def C72 : Ctx := ⟨tab, fun t => memN t cmps, cons72, 20, [(90, T90), (112, T112)], 0, true⟩
theorem consOk72 : ConsOk P C72 := by
 refine consOk_inl (enter_ok (fn := f90) func90 (by kernel_rfl) rfl) inlOk90 ?_
 refine consOk_inl (enter_ok (fn := f112) func112 (by kernel_rfl) rfl) inlOk112 ?_
 exact consOk_nil
def ann72 : Nat → List Dir
 | 0 => [.keep [0]]
 | 1 => [.keep [0, 3]]
 | 2 => [.keep [3, 6, 7, 8]]
 | 3 => [.keep [3, 6, 7, 8, 9]]
 | 4 => [.fixRow 5 TStep, .keep [3, 5, 6, 7, 8]]
 | 5 => [.keep [3, 6, 7, 8]]
 | 6 => [.keep [3, 6, 7, 8]]
 | 7 => [.keep [2]]
 | 100000 => [.keep [3]]
 | _ => []
@[reducible] def LP72_0 (plan : LS) (m : Nat) (st_ : St) (K : KX) : Prop := (True) ∧ LoopE (t := TStep) (fun (i0 : Int) (v0 : LS) => (⟨[(3, .own 3 none), (6, .data TSS plan), (7, dI (plan.length : Int)), (8, dI i0)], [(3, .arr true TStep v0)]⟩ : St)) plan (F.impl_planCopy_l0 plan) (fun v0 : LS => True) (outD (fun v0 : LS => True → K (.exit 0) (⟨[(3, .own 3 none)], [(3, .arr true TStep v0)]⟩ : St)) (fun _ => False)) m st_
def L72 (plan : LS) : Loops := fun id m st_ K => match id with
 | 0 => LP72_0 plan m st_ K
 | _ => False
theorem vc72 (plan : LS) (K : KA) : awp C72 (L72 plan) ann72 (bodyOf f72) ⟨argEnv 0 [.data TSS plan], []⟩ (outK tab true f72.results.toList (hasBox []) (resK .raw K)) =
 ((∃ m_, (True) ∧ LoopE (t := TStep) (fun (i0 : Int) (v0 : LS) => (⟨[(3, .own 3 none), (6, .data TSS plan), (7, dI (plan.length : Int)), (8, dI i0)], [(3, .arr true TStep v0)]⟩ : St)) plan (F.impl_planCopy_l0 plan) (fun v0 : LS => True) (outD (fun v0 : LS => True → (0 ≤ Z0) ∧ (Z0 ≤ (v0.length : Int)) ∧ ((v0.length : Int) ≤ (v0.length : Int)) ∧ ((v0.length : Int) = (v0.length : Int)) ∧ (Z0 = 0) ∧ K (.clp 0 ((v0.take (v0.length : Int).toNat).length : Int)) [(0, .arr true TStep (v0.take (v0.length : Int).toNat))]) (fun _ => False)) m_ (⟨[(3, .own 3 none), (6, .data TSS plan), (7, dI (plan.length : Int)), (8, dI Z0)], [(3, .arr true TStep [])]⟩ : St))) := by kernel_rfl
theorem lvc72_0 (plan : LS)  (i0 : Int) (v0 : LS) (m : Nat) (K : KX) : awp C72 (L72 plan) ann72 (loopAt (bodyOf f72) 0) (⟨[(3, .own 3 none), (6, .data TSS plan), (7, dI (plan.length : Int)), (8, dI i0)], [(3, .arr true TStep v0)]⟩ : St) (thenW (fun s' => ∃ m', m' < m ∧ (L72 plan) 0 m' s' K) (exitN 0 (ann72 (behind 0)) K)) =
 (cond (decide (i0 < (plan.length : Int))) ((0 ≤ i0) ∧ (i0 < (plan.length : Int)) ∧ (Sm TPS ((((((nS plan i0).2).2).2).2).1)) ∧ (∀ r_1001_2 : LPt, r_1001_2 = (((((((nS plan i0).2).2).2).2).1)) → (Sm (Ty.sl TInt) (((((((nS plan i0).2).2).2).2).2).1)) ∧ (∀ r_1001_5 : (List Int), r_1001_5 = ((((((((nS plan i0).2).2).2).2).2).1)) → ((v0.length + [((nS plan i0).1, (((nS plan i0).2).1, ((((nS plan i0).2).2).1, (((((nS plan i0).2).2).2).1, ((cutList r_1001_2 (some (Z0, (r_1001_2.length : Int)))), ((cutList r_1001_5 (some (Z0, (r_1001_5.length : Int)))), ()))))))].length) * 80 ≤ lim) ∧ (∃ m_, m_ < m ∧ (L72 plan) 0 m_ (⟨[(3, .own 3 none), (6, .data TSS plan), (7, dI (plan.length : Int)), (8, dI (wrap64 (i0 + Z1)))], [(3, .arr true TStep (v0 ++ [((nS plan i0).1, (((nS plan i0).2).1, ((((nS plan i0).2).2).1, (((((nS plan i0).2).2).2).1, ((cutList r_1001_2 (some (Z0, (r_1001_2.length : Int)))), ((cutList r_1001_5 (some (Z0, (r_1001_5.length : Int)))), ()))))))]))]⟩ : St) K)))) (K (.exit 0) (⟨[(3, .own 3 none)], [(3, .arr true TStep v0)]⟩ : St))) := by kernel_rfl
theorem con72_ok : ConOk P 72 c72 := by
 refine con_okR (fn := f72) (code := bodyOf f72) (tab_ok tab_check cmp_check) consOk72 mixed func72 rfl rfl fun args hp K h0 => ?_
 obtain ⟨a0, rfl, rfl, h1⟩ := args1_elim h0
 obtain ⟨plan, rfl, h2⟩ := withD_elim h1
 obtain ⟨h_plan, hK⟩ := h2
 have h : ok (F.impl_planCopy plan) (fun r => K (.clp 0 (r.length : Int)) [(0, .arr true TStep r)]) := ok_of_eq (F.impl_planCopy_eq plan h_plan) (hK _ rfl)
 refine ⟨⟨show (1 : Nat) ≤ 20 by decide, show (1 : Nat) ≤ 1000000 by decide⟩, ann72, (L72 plan), .raw, (loopsN1 (i0 := 0) (by kernel_rfl) ?_), ?_⟩
 ·clear h
  intro m_ s_ K_ h
  obtain ⟨hc0, i0, v0, rfl, hl0, rfl, hv0, h⟩ := (show LP72_0 plan m_ s_ K_ from h)
  rw [lvc72_0 plan i0 v0 _ K_]
  exact (loopE_step (t := TStep) hl0 h (fun ht0 h => ⟨hl0, ⟨ht0, ⟨(sm_nth h_plan i0).2.2.2.2.1, (fun r_1001_2 e_r_1001_2 => have h := ok_let h r_1001_2 e_r_1001_2; ⟨(sm_nth h_plan i0).2.2.2.2.2.1, (fun r_1001_5 e_r_1001_5 => have h := ok_let h r_1001_5 e_r_1001_5; ⟨(ok_guard h).1, have h := (ok_guard h).2; (loopE_next (t := TStep) (fun m hm => (show LP72_0 plan m _ _ from ⟨hc0, hm⟩)) (v0 ++ [((nS plan i0).1, (((nS plan i0).2).1, ((((nS plan i0).2).2).1, (((((nS plan i0).2).2).2).1, ((cutList r_1001_2 (some (Z0, (r_1001_2.length : Int)))), ((cutList r_1001_5 (some (Z0, (r_1001_5.length : Int)))), ()))))))]) rfl hl0 ht0 (sm_len h_plan) trivial (ok_ret h :))⟩)⟩)⟩⟩⟩) (fun h => (h trivial)))
 ·rw [vc72 plan K]
  exact (loopE_start (t := TStep) (fun m hm => ⟨trivial, hm⟩) [] rfl trivial (ok_then h (fun v0 h hv0 => ⟨(Int.natCast_nonneg 0), ⟨(Int.natCast_nonneg _), ⟨(Int.le_refl _), ⟨rfl, ⟨rfl, (ok_ret h :)⟩⟩⟩⟩⟩) (fun _ h => h.elim)))
def c29 : Con := ⟨[.dat TTb, .dat TGS, .dat TSS], fun args hp K => args3 (fun a0 a1 a2 => withD TTb a0 fun tables => withD TGS a1 fun guards => withD TSS a2 fun plan => (Sm TTb tables) ∧ (Sm TGS guards) ∧ (Sm TSS plan) ∧ (∀ r : LS × Bool, r = (M.planGuarded tables guards plan) → K (.tup [.clp 0 (r.1.length : Int), dB r.2]) [(0, .arr true TStep r.1)])) args hp, .bor⟩
def cons29 : Cons := [(41, c41), (55, c55), (71, c71), (72, c72)]
@[reducible] def C29 : Ctx := ⟨tab, fun t => memN t cmps, cons29, 73, [(69, T69), (70, T70)], 0, true⟩
theorem consOk29 : ConsOk P C29 := by
 refine consOk_cons (enter_ok (fn := f41) func41 (by kernel_rfl) rfl) con41_ok ?_
 refine consOk_cons (enter_ok (fn := f55) func55 (by kernel_rfl) rfl) con55_ok ?_
 refine consOk_cons (enter_ok (fn := f71) func71 (by kernel_rfl) rfl) con71_ok ?_
 refine consOk_cons (enter_ok (fn := f72) func72 (by kernel_rfl) rfl) con72_ok ?_
 refine consOk_inl (enter_ok (fn := f69) func69 (by kernel_rfl) rfl) inlOk69 ?_
 refine consOk_inl (enter_ok (fn := f70) func70 (by kernel_rfl) rfl) inlOk70 ?_
 exact consOk_nil
def ann29 : Nat → List Dir
 | 0 => [.keep [0, 1, 2]]
 | 1 => [.keep [1, 2, 23]]
 | 2 => [.clip 6, .keep [6, 7]]
 | 3 => [.fixBox 8, .keep [1, 2, 8]]
 | 4 => [.weak 9, .keep [1, 2, 8, 9]]
 | 5 => [.keep [1, 8, 9, 27, 28, 29]]
 | 6 => [.keep [1, 8, 9, 27, 28, 29, 30]]
 | 7 => [.fixRow 11 TStep, .keep [1, 8, 9, 10, 11, 27, 28, 29]]
 | 8 => [.keep [1, 8, 9, 10, 11, 27, 28, 29]]
 | 9 => [.keep [1, 8, 9, 10, 11, 12, 13, 27, 28, 29]]
 | 10 => [.keep [1, 8, 9, 10, 12, 27, 28, 29, 52]]
 | 11 => [.keep [1, 8, 9, 10, 27, 28, 29]]
 | 12 => [.keep [1, 8, 9, 27, 28, 29]]
 | 13 => [.keep [1, 8, 9, 27, 28, 29]]
 | 14 => [.keep [9, 70]]
 | 15 => [.clip 6, .keep [6, 7]]
 | 16 => [.keep [6, 7]]
 | 100000 => [.keep [9]]
 | _ => []
@[reducible] def LP29_0 (tables : LTb) (guards : LG) (plan : LS) (m : Nat) (st_ : St) (K : KX) : Prop := (True) ∧ LoopI (fun (i0 : Int) (v0 : LS × (List Int)) => (⟨[(1, .data TGS guards), (8, .ptr 8 0), (9, .own 9 none), (27, .data TSS plan), (28, dI (plan.length : Int)), (29, dI i0)], [(8, .box [.own 26 none]), (9, .arr false TStep v0.1), (26, .arr false TInt v0.2)]⟩ : St)) Z0 (plan.length : Int) (F.impl_PlanGuarded_l0 tables guards plan) (fun v0 : LS × (List Int) => True) (outD (fun v0 : LS × (List Int) => True → K (.exit 0) (⟨[(9, .own 9 none)], [(9, .arr false TStep v0.1)]⟩ : St)) (fun _ => False)) m st_
def L29 (tables : LTb) (guards : LG) (plan : LS) : Loops := fun id m st_ K => match id with
 | 0 => LP29_0 tables guards plan m st_ K
 | _ => False
@[reducible] def S29_0 (tables : LTb) (guards : LG) (plan : LS) (K : KA) : Prop := K (.tup [.clp 0 (([] : List TStep.D).length : Int), dB false]) [(0, .arr true TStep ([] : List TStep.D))]
theorem vc29 (tables : LTb) (guards : LG) (plan : LS) (K : KA) : awp C29 (L29 tables guards plan) ann29 (bodyOf f29) ⟨argEnv 0 [.data TTb tables, .data TGS guards, .data TSS plan], []⟩ (outK tab true f29.results.toList (hasBox []) (resK .raw K)) =
 ((Sm TTb tables) ∧ (Sm TGS guards) ∧ cond ((!(M.guardsOk tables guards)) == false) ((Sm TTb tables) ∧ (Sm TSS plan) ∧ cond (!(M.planOk tables plan)) ((S29_0 tables guards plan K)) (((plan.length : Int) = (plan.length : Int)) ∧ (0 ≤ (plan.length : Int)) ∧ ((plan.length : Int) * 8 ≤ (lim : Int)) ∧ (∃ m_, (True) ∧ LoopI (fun (i0 : Int) (v0 : LS × (List Int)) => (⟨[(1, .data TGS guards), (8, .ptr 8 0), (9, .own 9 none), (27, .data TSS plan), (28, dI (plan.length : Int)), (29, dI i0)], [(8, .box [.own 26 none]), (9, .arr false TStep v0.1), (26, .arr false TInt v0.2)]⟩ : St)) Z0 (plan.length : Int) (F.impl_PlanGuarded_l0 tables guards plan) (fun v0 : LS × (List Int) => True) (outD (fun v0 : LS × (List Int) => True → cond (decide (Z6 < (v0.1.length : Int))) ((S29_0 tables guards plan K)) ((Sm TSS v0.1) ∧ (∀ r_16_1 : LS, r_16_1 = (v0.1) → K (.tup [.clp 0 ((r_16_1.take (r_16_1.length : Int).toNat).length : Int), dB true]) [(0, .arr true TStep (r_16_1.take (r_16_1.length : Int).toNat))]))) (fun _ => False)) m_ (⟨[(1, .data TGS guards), (8, .ptr 8 0), (9, .own 9 none), (27, .data TSS plan), (28, dI (plan.length : Int)), (29, dI Z0)], [(8, .box [.own 26 none]), (9, .arr false TStep []), (26, .arr false TInt (List.replicate (plan.length : Int).toNat Z0))]⟩ : St)))) ((S29_0 tables guards plan K))) := by kernel_rfl
theorem lvc29_0 (tables : LTb) (guards : LG) (plan : LS)  (i0 : Int) (v0 : LS × (List Int)) (m : Nat) (K : KX) : awp C29 (L29 tables guards plan) ann29 (loopAt (bodyOf f29) 0) (⟨[(1, .data TGS guards), (8, .ptr 8 0), (9, .own 9 none), (27, .data TSS plan), (28, dI (plan.length : Int)), (29, dI i0)], [(8, .box [.own 26 none]), (9, .arr false TStep v0.1), (26, .arr false TInt v0.2)]⟩ : St) (thenW (fun s' => ∃ m', m' < m ∧ (L29 tables guards plan) 0 m' s' K) (exitN 0 (ann29 (behind 0)) K)) =
 (cond (decide (i0 < (plan.length : Int))) ((0 ≤ i0) ∧ (i0 < (plan.length : Int)) ∧ (Sm TPS ((((((nS plan i0).2).2).2).2).1)) ∧ (∀ r_2001_2 : LPt, r_2001_2 = (((((((nS plan i0).2).2).2).2).1)) → (Sm (Ty.sl TInt) (((((((nS plan i0).2).2).2).2).2).1)) ∧ (∀ r_2001_5 : (List Int), r_2001_5 = ((((((((nS plan i0).2).2).2).2).2).1)) → cond (!decide ((nS plan i0).1 = Z1)) ((0 ≤ ((nS plan i0).2).1) ∧ (((nS plan i0).2).1 < (v0.2.length : Int)) ∧ cond (M.two ((nS plan i0).1)) ((0 ≤ (((nS plan i0).2).2).1) ∧ ((((nS plan i0).2).2).1 < (v0.2.length : Int)) ∧ ((v0.1.length + [((nS plan i0).1, ((nI v0.2 (((nS plan i0).2).1)), ((nI v0.2 ((((nS plan i0).2).2).1)), (((((nS plan i0).2).2).2).1, ((cutList r_2001_2 (some (Z0, (r_2001_2.length : Int)))), ((cutList r_2001_5 (some (Z0, (r_2001_5.length : Int)))), ()))))))].length) * 80 ≤ lim) ∧ (Sm TGS guards) ∧ (∀ r_9_3 : LPt × Bool, r_9_3 = (M.guardOf guards (((((nS plan i0).2).2).2).1)) → cond (r_9_3.2 == true) (cond (decide ((nS plan i0).1 = Z1)) ((((v0.1 ++ [((nS plan i0).1, ((nI v0.2 (((nS plan i0).2).1)), ((nI v0.2 ((((nS plan i0).2).2).1)), (((((nS plan i0).2).2).2).1, ((cutList r_2001_2 (some (Z0, (r_2001_2.length : Int)))), ((cutList r_2001_5 (some (Z0, (r_2001_5.length : Int)))), ()))))))]).length + ([(Z2, (wrap64 (((v0.1 ++ [((nS plan i0).1, ((nI v0.2 (((nS plan i0).2).1)), ((nI v0.2 ((((nS plan i0).2).2).1)), (((((nS plan i0).2).2).2).1, ((cutList r_2001_2 (some (Z0, (r_2001_2.length : Int)))), ((cutList r_2001_5 (some (Z0, (r_2001_5.length : Int)))), ()))))))]).length : Int) - Z1), (Z0, (Z0, (r_9_3.1, ([], ()))))))] : List TStep.D).length) * 80 ≤ lim) ∧ (0 ≤ i0) ∧ (i0 < (v0.2.length : Int)) ∧ (let y_12_6 : (List Int) := (v0.2.set i0.toNat (wrap64 ((((v0.1 ++ [((nS plan i0).1, ((nI v0.2 (((nS plan i0).2).1)), ((nI v0.2 ((((nS plan i0).2).2).1)), (((((nS plan i0).2).2).2).1, ((cutList r_2001_2 (some (Z0, (r_2001_2.length : Int)))), ((cutList r_2001_5 (some (Z0, (r_2001_5.length : Int)))), ()))))))]) ++ [(Z2, (wrap64 (((v0.1 ++ [((nS plan i0).1, ((nI v0.2 (((nS plan i0).2).1)), ((nI v0.2 ((((nS plan i0).2).2).1)), (((((nS plan i0).2).2).2).1, ((cutList r_2001_2 (some (Z0, (r_2001_2.length : Int)))), ((cutList r_2001_5 (some (Z0, (r_2001_5.length : Int)))), ()))))))]).length : Int) - Z1), (Z0, (Z0, (r_9_3.1, ([], ()))))))]).length : Int) - Z1))); (∃ m_, m_ < m ∧ (L29 tables guards plan) 0 m_ (⟨[(1, .data TGS guards), (8, .ptr 8 0), (9, .own 9 none), (27, .data TSS plan), (28, dI (plan.length : Int)), (29, dI (wrap64 (i0 + Z1)))], [(8, .box [.own 26 none]), (9, .arr false TStep ((v0.1 ++ [((nS plan i0).1, ((nI v0.2 (((nS plan i0).2).1)), ((nI v0.2 ((((nS plan i0).2).2).1)), (((((nS plan i0).2).2).2).1, ((cutList r_2001_2 (some (Z0, (r_2001_2.length : Int)))), ((cutList r_2001_5 (some (Z0, (r_2001_5.length : Int)))), ()))))))]) ++ [(Z2, (wrap64 (((v0.1 ++ [((nS plan i0).1, ((nI v0.2 (((nS plan i0).2).1)), ((nI v0.2 ((((nS plan i0).2).2).1)), (((((nS plan i0).2).2).2).1, ((cutList r_2001_2 (some (Z0, (r_2001_2.length : Int)))), ((cutList r_2001_5 (some (Z0, (r_2001_5.length : Int)))), ()))))))]).length : Int) - Z1), (Z0, (Z0, (r_9_3.1, ([], ()))))))])), (26, .arr false TInt y_12_6)]⟩ : St) K))) ((0 ≤ i0) ∧ (i0 < (v0.2.length : Int)) ∧ (let y_12_6 : (List Int) := (v0.2.set i0.toNat (wrap64 (((v0.1 ++ [((nS plan i0).1, ((nI v0.2 (((nS plan i0).2).1)), ((nI v0.2 ((((nS plan i0).2).2).1)), (((((nS plan i0).2).2).2).1, ((cutList r_2001_2 (some (Z0, (r_2001_2.length : Int)))), ((cutList r_2001_5 (some (Z0, (r_2001_5.length : Int)))), ()))))))]).length : Int) - Z1))); (∃ m_, m_ < m ∧ (L29 tables guards plan) 0 m_ (⟨[(1, .data TGS guards), (8, .ptr 8 0), (9, .own 9 none), (27, .data TSS plan), (28, dI (plan.length : Int)), (29, dI (wrap64 (i0 + Z1)))], [(8, .box [.own 26 none]), (9, .arr false TStep (v0.1 ++ [((nS plan i0).1, ((nI v0.2 (((nS plan i0).2).1)), ((nI v0.2 ((((nS plan i0).2).2).1)), (((((nS plan i0).2).2).2).1, ((cutList r_2001_2 (some (Z0, (r_2001_2.length : Int)))), ((cutList r_2001_5 (some (Z0, (r_2001_5.length : Int)))), ()))))))])), (26, .arr false TInt y_12_6)]⟩ : St) K)))) ((0 ≤ i0) ∧ (i0 < (v0.2.length : Int)) ∧ (let y_12_6 : (List Int) := (v0.2.set i0.toNat (wrap64 (((v0.1 ++ [((nS plan i0).1, ((nI v0.2 (((nS plan i0).2).1)), ((nI v0.2 ((((nS plan i0).2).2).1)), (((((nS plan i0).2).2).2).1, ((cutList r_2001_2 (some (Z0, (r_2001_2.length : Int)))), ((cutList r_2001_5 (some (Z0, (r_2001_5.length : Int)))), ()))))))]).length : Int) - Z1))); (∃ m_, m_ < m ∧ (L29 tables guards plan) 0 m_ (⟨[(1, .data TGS guards), (8, .ptr 8 0), (9, .own 9 none), (27, .data TSS plan), (28, dI (plan.length : Int)), (29, dI (wrap64 (i0 + Z1)))], [(8, .box [.own 26 none]), (9, .arr false TStep (v0.1 ++ [((nS plan i0).1, ((nI v0.2 (((nS plan i0).2).1)), ((nI v0.2 ((((nS plan i0).2).2).1)), (((((nS plan i0).2).2).2).1, ((cutList r_2001_2 (some (Z0, (r_2001_2.length : Int)))), ((cutList r_2001_5 (some (Z0, (r_2001_5.length : Int)))), ()))))))])), (26, .arr false TInt y_12_6)]⟩ : St) K))))) (((v0.1.length + [((nS plan i0).1, ((nI v0.2 (((nS plan i0).2).1)), ((((nS plan i0).2).2).1, (((((nS plan i0).2).2).2).1, ((cutList r_2001_2 (some (Z0, (r_2001_2.length : Int)))), ((cutList r_2001_5 (some (Z0, (r_2001_5.length : Int)))), ()))))))].length) * 80 ≤ lim) ∧ (Sm TGS guards) ∧ (∀ r_9_3 : LPt × Bool, r_9_3 = (M.guardOf guards (((((nS plan i0).2).2).2).1)) → cond (r_9_3.2 == true) (cond (decide ((nS plan i0).1 = Z1)) ((((v0.1 ++ [((nS plan i0).1, ((nI v0.2 (((nS plan i0).2).1)), ((((nS plan i0).2).2).1, (((((nS plan i0).2).2).2).1, ((cutList r_2001_2 (some (Z0, (r_2001_2.length : Int)))), ((cutList r_2001_5 (some (Z0, (r_2001_5.length : Int)))), ()))))))]).length + ([(Z2, (wrap64 (((v0.1 ++ [((nS plan i0).1, ((nI v0.2 (((nS plan i0).2).1)), ((((nS plan i0).2).2).1, (((((nS plan i0).2).2).2).1, ((cutList r_2001_2 (some (Z0, (r_2001_2.length : Int)))), ((cutList r_2001_5 (some (Z0, (r_2001_5.length : Int)))), ()))))))]).length : Int) - Z1), (Z0, (Z0, (r_9_3.1, ([], ()))))))] : List TStep.D).length) * 80 ≤ lim) ∧ (0 ≤ i0) ∧ (i0 < (v0.2.length : Int)) ∧ (let y_12_6 : (List Int) := (v0.2.set i0.toNat (wrap64 ((((v0.1 ++ [((nS plan i0).1, ((nI v0.2 (((nS plan i0).2).1)), ((((nS plan i0).2).2).1, (((((nS plan i0).2).2).2).1, ((cutList r_2001_2 (some (Z0, (r_2001_2.length : Int)))), ((cutList r_2001_5 (some (Z0, (r_2001_5.length : Int)))), ()))))))]) ++ [(Z2, (wrap64 (((v0.1 ++ [((nS plan i0).1, ((nI v0.2 (((nS plan i0).2).1)), ((((nS plan i0).2).2).1, (((((nS plan i0).2).2).2).1, ((cutList r_2001_2 (some (Z0, (r_2001_2.length : Int)))), ((cutList r_2001_5 (some (Z0, (r_2001_5.length : Int)))), ()))))))]).length : Int) - Z1), (Z0, (Z0, (r_9_3.1, ([], ()))))))]).length : Int) - Z1))); (∃ m_, m_ < m ∧ (L29 tables guards plan) 0 m_ (⟨[(1, .data TGS guards), (8, .ptr 8 0), (9, .own 9 none), (27, .data TSS plan), (28, dI (plan.length : Int)), (29, dI (wrap64 (i0 + Z1)))], [(8, .box [.own 26 none]), (9, .arr false TStep ((v0.1 ++ [((nS plan i0).1, ((nI v0.2 (((nS plan i0).2).1)), ((((nS plan i0).2).2).1, (((((nS plan i0).2).2).2).1, ((cutList r_2001_2 (some (Z0, (r_2001_2.length : Int)))), ((cutList r_2001_5 (some (Z0, (r_2001_5.length : Int)))), ()))))))]) ++ [(Z2, (wrap64 (((v0.1 ++ [((nS plan i0).1, ((nI v0.2 (((nS plan i0).2).1)), ((((nS plan i0).2).2).1, (((((nS plan i0).2).2).2).1, ((cutList r_2001_2 (some (Z0, (r_2001_2.length : Int)))), ((cutList r_2001_5 (some (Z0, (r_2001_5.length : Int)))), ()))))))]).length : Int) - Z1), (Z0, (Z0, (r_9_3.1, ([], ()))))))])), (26, .arr false TInt y_12_6)]⟩ : St) K))) ((0 ≤ i0) ∧ (i0 < (v0.2.length : Int)) ∧ (let y_12_6 : (List Int) := (v0.2.set i0.toNat (wrap64 (((v0.1 ++ [((nS plan i0).1, ((nI v0.2 (((nS plan i0).2).1)), ((((nS plan i0).2).2).1, (((((nS plan i0).2).2).2).1, ((cutList r_2001_2 (some (Z0, (r_2001_2.length : Int)))), ((cutList r_2001_5 (some (Z0, (r_2001_5.length : Int)))), ()))))))]).length : Int) - Z1))); (∃ m_, m_ < m ∧ (L29 tables guards plan) 0 m_ (⟨[(1, .data TGS guards), (8, .ptr 8 0), (9, .own 9 none), (27, .data TSS plan), (28, dI (plan.length : Int)), (29, dI (wrap64 (i0 + Z1)))], [(8, .box [.own 26 none]), (9, .arr false TStep (v0.1 ++ [((nS plan i0).1, ((nI v0.2 (((nS plan i0).2).1)), ((((nS plan i0).2).2).1, (((((nS plan i0).2).2).2).1, ((cutList r_2001_2 (some (Z0, (r_2001_2.length : Int)))), ((cutList r_2001_5 (some (Z0, (r_2001_5.length : Int)))), ()))))))])), (26, .arr false TInt y_12_6)]⟩ : St) K)))) ((0 ≤ i0) ∧ (i0 < (v0.2.length : Int)) ∧ (let y_12_6 : (List Int) := (v0.2.set i0.toNat (wrap64 (((v0.1 ++ [((nS plan i0).1, ((nI v0.2 (((nS plan i0).2).1)), ((((nS plan i0).2).2).1, (((((nS plan i0).2).2).2).1, ((cutList r_2001_2 (some (Z0, (r_2001_2.length : Int)))), ((cutList r_2001_5 (some (Z0, (r_2001_5.length : Int)))), ()))))))]).length : Int) - Z1))); (∃ m_, m_ < m ∧ (L29 tables guards plan) 0 m_ (⟨[(1, .data TGS guards), (8, .ptr 8 0), (9, .own 9 none), (27, .data TSS plan), (28, dI (plan.length : Int)), (29, dI (wrap64 (i0 + Z1)))], [(8, .box [.own 26 none]), (9, .arr false TStep (v0.1 ++ [((nS plan i0).1, ((nI v0.2 (((nS plan i0).2).1)), ((((nS plan i0).2).2).1, (((((nS plan i0).2).2).2).1, ((cutList r_2001_2 (some (Z0, (r_2001_2.length : Int)))), ((cutList r_2001_5 (some (Z0, (r_2001_5.length : Int)))), ()))))))])), (26, .arr false TInt y_12_6)]⟩ : St) K)))))) (cond (M.two ((nS plan i0).1)) ((0 ≤ (((nS plan i0).2).2).1) ∧ ((((nS plan i0).2).2).1 < (v0.2.length : Int)) ∧ ((v0.1.length + [((nS plan i0).1, (((nS plan i0).2).1, ((nI v0.2 ((((nS plan i0).2).2).1)), (((((nS plan i0).2).2).2).1, ((cutList r_2001_2 (some (Z0, (r_2001_2.length : Int)))), ((cutList r_2001_5 (some (Z0, (r_2001_5.length : Int)))), ()))))))].length) * 80 ≤ lim) ∧ (Sm TGS guards) ∧ (∀ r_9_3 : LPt × Bool, r_9_3 = (M.guardOf guards (((((nS plan i0).2).2).2).1)) → cond (r_9_3.2 == true) (cond (decide ((nS plan i0).1 = Z1)) ((((v0.1 ++ [((nS plan i0).1, (((nS plan i0).2).1, ((nI v0.2 ((((nS plan i0).2).2).1)), (((((nS plan i0).2).2).2).1, ((cutList r_2001_2 (some (Z0, (r_2001_2.length : Int)))), ((cutList r_2001_5 (some (Z0, (r_2001_5.length : Int)))), ()))))))]).length + ([(Z2, (wrap64 (((v0.1 ++ [((nS plan i0).1, (((nS plan i0).2).1, ((nI v0.2 ((((nS plan i0).2).2).1)), (((((nS plan i0).2).2).2).1, ((cutList r_2001_2 (some (Z0, (r_2001_2.length : Int)))), ((cutList r_2001_5 (some (Z0, (r_2001_5.length : Int)))), ()))))))]).length : Int) - Z1), (Z0, (Z0, (r_9_3.1, ([], ()))))))] : List TStep.D).length) * 80 ≤ lim) ∧ (0 ≤ i0) ∧ (i0 < (v0.2.length : Int)) ∧ (let y_12_6 : (List Int) := (v0.2.set i0.toNat (wrap64 ((((v0.1 ++ [((nS plan i0).1, (((nS plan i0).2).1, ((nI v0.2 ((((nS plan i0).2).2).1)), (((((nS plan i0).2).2).2).1, ((cutList r_2001_2 (some (Z0, (r_2001_2.length : Int)))), ((cutList r_2001_5 (some (Z0, (r_2001_5.length : Int)))), ()))))))]) ++ [(Z2, (wrap64 (((v0.1 ++ [((nS plan i0).1, (((nS plan i0).2).1, ((nI v0.2 ((((nS plan i0).2).2).1)), (((((nS plan i0).2).2).2).1, ((cutList r_2001_2 (some (Z0, (r_2001_2.length : Int)))), ((cutList r_2001_5 (some (Z0, (r_2001_5.length : Int)))), ()))))))]).length : Int) - Z1), (Z0, (Z0, (r_9_3.1, ([], ()))))))]).length : Int) - Z1))); (∃ m_, m_ < m ∧ (L29 tables guards plan) 0 m_ (⟨[(1, .data TGS guards), (8, .ptr 8 0), (9, .own 9 none), (27, .data TSS plan), (28, dI (plan.length : Int)), (29, dI (wrap64 (i0 + Z1)))], [(8, .box [.own 26 none]), (9, .arr false TStep ((v0.1 ++ [((nS plan i0).1, (((nS plan i0).2).1, ((nI v0.2 ((((nS plan i0).2).2).1)), (((((nS plan i0).2).2).2).1, ((cutList r_2001_2 (some (Z0, (r_2001_2.length : Int)))), ((cutList r_2001_5 (some (Z0, (r_2001_5.length : Int)))), ()))))))]) ++ [(Z2, (wrap64 (((v0.1 ++ [((nS plan i0).1, (((nS plan i0).2).1, ((nI v0.2 ((((nS plan i0).2).2).1)), (((((nS plan i0).2).2).2).1, ((cutList r_2001_2 (some (Z0, (r_2001_2.length : Int)))), ((cutList r_2001_5 (some (Z0, (r_2001_5.length : Int)))), ()))))))]).length : Int) - Z1), (Z0, (Z0, (r_9_3.1, ([], ()))))))])), (26, .arr false TInt y_12_6)]⟩ : St) K))) ((0 ≤ i0) ∧ (i0 < (v0.2.length : Int)) ∧ (let y_12_6 : (List Int) := (v0.2.set i0.toNat (wrap64 (((v0.1 ++ [((nS plan i0).1, (((nS plan i0).2).1, ((nI v0.2 ((((nS plan i0).2).2).1)), (((((nS plan i0).2).2).2).1, ((cutList r_2001_2 (some (Z0, (r_2001_2.length : Int)))), ((cutList r_2001_5 (some (Z0, (r_2001_5.length : Int)))), ()))))))]).length : Int) - Z1))); (∃ m_, m_ < m ∧ (L29 tables guards plan) 0 m_ (⟨[(1, .data TGS guards), (8, .ptr 8 0), (9, .own 9 none), (27, .data TSS plan), (28, dI (plan.length : Int)), (29, dI (wrap64 (i0 + Z1)))], [(8, .box [.own 26 none]), (9, .arr false TStep (v0.1 ++ [((nS plan i0).1, (((nS plan i0).2).1, ((nI v0.2 ((((nS plan i0).2).2).1)), (((((nS plan i0).2).2).2).1, ((cutList r_2001_2 (some (Z0, (r_2001_2.length : Int)))), ((cutList r_2001_5 (some (Z0, (r_2001_5.length : Int)))), ()))))))])), (26, .arr false TInt y_12_6)]⟩ : St) K)))) ((0 ≤ i0) ∧ (i0 < (v0.2.length : Int)) ∧ (let y_12_6 : (List Int) := (v0.2.set i0.toNat (wrap64 (((v0.1 ++ [((nS plan i0).1, (((nS plan i0).2).1, ((nI v0.2 ((((nS plan i0).2).2).1)), (((((nS plan i0).2).2).2).1, ((cutList r_2001_2 (some (Z0, (r_2001_2.length : Int)))), ((cutList r_2001_5 (some (Z0, (r_2001_5.length : Int)))), ()))))))]).length : Int) - Z1))); (∃ m_, m_ < m ∧ (L29 tables guards plan) 0 m_ (⟨[(1, .data TGS guards), (8, .ptr 8 0), (9, .own 9 none), (27, .data TSS plan), (28, dI (plan.length : Int)), (29, dI (wrap64 (i0 + Z1)))], [(8, .box [.own 26 none]), (9, .arr false TStep (v0.1 ++ [((nS plan i0).1, (((nS plan i0).2).1, ((nI v0.2 ((((nS plan i0).2).2).1)), (((((nS plan i0).2).2).2).1, ((cutList r_2001_2 (some (Z0, (r_2001_2.length : Int)))), ((cutList r_2001_5 (some (Z0, (r_2001_5.length : Int)))), ()))))))])), (26, .arr false TInt y_12_6)]⟩ : St) K))))) (((v0.1.length + [((nS plan i0).1, (((nS plan i0).2).1, ((((nS plan i0).2).2).1, (((((nS plan i0).2).2).2).1, ((cutList r_2001_2 (some (Z0, (r_2001_2.length : Int)))), ((cutList r_2001_5 (some (Z0, (r_2001_5.length : Int)))), ()))))))].length) * 80 ≤ lim) ∧ (Sm TGS guards) ∧ (∀ r_9_3 : LPt × Bool, r_9_3 = (M.guardOf guards (((((nS plan i0).2).2).2).1)) → cond (r_9_3.2 == true) (cond (decide ((nS plan i0).1 = Z1)) ((((v0.1 ++ [((nS plan i0).1, (((nS plan i0).2).1, ((((nS plan i0).2).2).1, (((((nS plan i0).2).2).2).1, ((cutList r_2001_2 (some (Z0, (r_2001_2.length : Int)))), ((cutList r_2001_5 (some (Z0, (r_2001_5.length : Int)))), ()))))))]).length + ([(Z2, (wrap64 (((v0.1 ++ [((nS plan i0).1, (((nS plan i0).2).1, ((((nS plan i0).2).2).1, (((((nS plan i0).2).2).2).1, ((cutList r_2001_2 (some (Z0, (r_2001_2.length : Int)))), ((cutList r_2001_5 (some (Z0, (r_2001_5.length : Int)))), ()))))))]).length : Int) - Z1), (Z0, (Z0, (r_9_3.1, ([], ()))))))] : List TStep.D).length) * 80 ≤ lim) ∧ (0 ≤ i0) ∧ (i0 < (v0.2.length : Int)) ∧ (let y_12_6 : (List Int) := (v0.2.set i0.toNat (wrap64 ((((v0.1 ++ [((nS plan i0).1, (((nS plan i0).2).1, ((((nS plan i0).2).2).1, (((((nS plan i0).2).2).2).1, ((cutList r_2001_2 (some (Z0, (r_2001_2.length : Int)))), ((cutList r_2001_5 (some (Z0, (r_2001_5.length : Int)))), ()))))))]) ++ [(Z2, (wrap64 (((v0.1 ++ [((nS plan i0).1, (((nS plan i0).2).1, ((((nS plan i0).2).2).1, (((((nS plan i0).2).2).2).1, ((cutList r_2001_2 (some (Z0, (r_2001_2.length : Int)))), ((cutList r_2001_5 (some (Z0, (r_2001_5.length : Int)))), ()))))))]).length : Int) - Z1), (Z0, (Z0, (r_9_3.1, ([], ()))))))]).length : Int) - Z1))); (∃ m_, m_ < m ∧ (L29 tables guards plan) 0 m_ (⟨[(1, .data TGS guards), (8, .ptr 8 0), (9, .own 9 none), (27, .data TSS plan), (28, dI (plan.length : Int)), (29, dI (wrap64 (i0 + Z1)))], [(8, .box [.own 26 none]), (9, .arr false TStep ((v0.1 ++ [((nS plan i0).1, (((nS plan i0).2).1, ((((nS plan i0).2).2).1, (((((nS plan i0).2).2).2).1, ((cutList r_2001_2 (some (Z0, (r_2001_2.length : Int)))), ((cutList r_2001_5 (some (Z0, (r_2001_5.length : Int)))), ()))))))]) ++ [(Z2, (wrap64 (((v0.1 ++ [((nS plan i0).1, (((nS plan i0).2).1, ((((nS plan i0).2).2).1, (((((nS plan i0).2).2).2).1, ((cutList r_2001_2 (some (Z0, (r_2001_2.length : Int)))), ((cutList r_2001_5 (some (Z0, (r_2001_5.length : Int)))), ()))))))]).length : Int) - Z1), (Z0, (Z0, (r_9_3.1, ([], ()))))))])), (26, .arr false TInt y_12_6)]⟩ : St) K))) ((0 ≤ i0) ∧ (i0 < (v0.2.length : Int)) ∧ (let y_12_6 : (List Int) := (v0.2.set i0.toNat (wrap64 (((v0.1 ++ [((nS plan i0).1, (((nS plan i0).2).1, ((((nS plan i0).2).2).1, (((((nS plan i0).2).2).2).1, ((cutList r_2001_2 (some (Z0, (r_2001_2.length : Int)))), ((cutList r_2001_5 (some (Z0, (r_2001_5.length : Int)))), ()))))))]).length : Int) - Z1))); (∃ m_, m_ < m ∧ (L29 tables guards plan) 0 m_ (⟨[(1, .data TGS guards), (8, .ptr 8 0), (9, .own 9 none), (27, .data TSS plan), (28, dI (plan.length : Int)), (29, dI (wrap64 (i0 + Z1)))], [(8, .box [.own 26 none]), (9, .arr false TStep (v0.1 ++ [((nS plan i0).1, (((nS plan i0).2).1, ((((nS plan i0).2).2).1, (((((nS plan i0).2).2).2).1, ((cutList r_2001_2 (some (Z0, (r_2001_2.length : Int)))), ((cutList r_2001_5 (some (Z0, (r_2001_5.length : Int)))), ()))))))])), (26, .arr false TInt y_12_6)]⟩ : St) K)))) ((0 ≤ i0) ∧ (i0 < (v0.2.length : Int)) ∧ (let y_12_6 : (List Int) := (v0.2.set i0.toNat (wrap64 (((v0.1 ++ [((nS plan i0).1, (((nS plan i0).2).1, ((((nS plan i0).2).2).1, (((((nS plan i0).2).2).2).1, ((cutList r_2001_2 (some (Z0, (r_2001_2.length : Int)))), ((cutList r_2001_5 (some (Z0, (r_2001_5.length : Int)))), ()))))))]).length : Int) - Z1))); (∃ m_, m_ < m ∧ (L29 tables guards plan) 0 m_ (⟨[(1, .data TGS guards), (8, .ptr 8 0), (9, .own 9 none), (27, .data TSS plan), (28, dI (plan.length : Int)), (29, dI (wrap64 (i0 + Z1)))], [(8, .box [.own 26 none]), (9, .arr false TStep (v0.1 ++ [((nS plan i0).1, (((nS plan i0).2).1, ((((nS plan i0).2).2).1, (((((nS plan i0).2).2).2).1, ((cutList r_2001_2 (some (Z0, (r_2001_2.length : Int)))), ((cutList r_2001_5 (some (Z0, (r_2001_5.length : Int)))), ()))))))])), (26, .arr false TInt y_12_6)]⟩ : St) K))))))))) (K (.exit 0) (⟨[(9, .own 9 none)], [(9, .arr false TStep v0.1)]⟩ : St))) := by kernel_rfl
theorem con29_ok : ConOk P 29 c29 := by
 refine con_okR (fn := f29) (code := bodyOf f29) (tab_ok tab_check cmp_check) consOk29 mixed func29 rfl rfl fun args hp K h0 => ?_
 obtain ⟨a0, a1, a2, rfl, rfl, h1⟩ := args3_elim h0
 obtain ⟨tables, rfl, h2⟩ := withD_elim h1
 obtain ⟨guards, rfl, h3⟩ := withD_elim h2
 obtain ⟨plan, rfl, h4⟩ := withD_elim h3
 obtain ⟨h_tables, h_guards, h_plan, hK⟩ := h4
 have h : ok (F.impl_PlanGuarded tables guards plan) (fun r => K (.tup [.clp 0 (r.1.length : Int), dB r.2]) [(0, .arr true TStep r.1)]) := ok_of_eq (F.impl_PlanGuarded_eq tables guards plan h_tables h_guards h_plan) (hK _ rfl)
 refine ⟨⟨show (3 : Nat) ≤ 73 by decide, show (3 : Nat) ≤ 1000000 by decide⟩, ann29, (L29 tables guards plan), .raw, (loopsN1 (i0 := 0) (by kernel_rfl) ?_), ?_⟩
 ·clear h
  intro m_ s_ K_ h
  obtain ⟨hc0, i0, v0, rfl, hl0, rfl, hv0, h⟩ := (show LP29_0 tables guards plan m_ s_ K_ from h)
  rw [lvc29_0 tables guards plan i0 v0 _ K_]
  exact (loopI_step h (fun ht0 h => ⟨hl0, ⟨ht0, ⟨(sm_nth h_plan i0).2.2.2.2.1, (fun r_2001_2 e_r_2001_2 => have h := ok_let h r_2001_2 e_r_2001_2; ⟨(sm_nth h_plan i0).2.2.2.2.2.1, (fun r_2001_5 e_r_2001_5 => have h := ok_let h r_2001_5 e_r_2001_5; (ok_cond h (fun b_120083 h => ⟨(ok_guard h).1, have h := (ok_guard h).2; ⟨(ok_guard h).1, have h := (ok_guard h).2; (ok_cond h (fun b_130086 h => ⟨(ok_guard h).1, have h := (ok_guard h).2; ⟨(ok_guard h).1, have h := (ok_guard h).2; ⟨(ok_guard h).1, have h := (ok_guard h).2; ⟨h_guards, (fun r_9_3 e_r_9_3 => have h := ok_let h r_9_3 e_r_9_3; (ok_cond h (fun b_140090 h => (cond_f (bnt b_120083) ⟨hl0, ⟨(ok_guard h).1, have h := (ok_guard h).2; (let y_12_6 : (List Int) := (v0.2.set i0.toNat (wrap64 (((v0.1 ++ [((nS plan i0).1, ((nI v0.2 (((nS plan i0).2).1)), ((nI v0.2 ((((nS plan i0).2).2).1)), (((((nS plan i0).2).2).2).1, ((cutList r_2001_2 (some (Z0, (r_2001_2.length : Int)))), ((cutList r_2001_5 (some (Z0, (r_2001_5.length : Int)))), ()))))))]).length : Int) - Z1))); have h := ok_let h y_12_6 rfl; (loopI_next (fun m hm => (show LP29_0 tables guards plan m _ _ from ⟨hc0, hm⟩)) ((v0.1 ++ [((nS plan i0).1, ((nI v0.2 (((nS plan i0).2).1)), ((nI v0.2 ((((nS plan i0).2).2).1)), (((((nS plan i0).2).2).2).1, ((cutList r_2001_2 (some (Z0, (r_2001_2.length : Int)))), ((cutList r_2001_5 (some (Z0, (r_2001_5.length : Int)))), ()))))))]), y_12_6) rfl hl0 low0 ht0 (sm_len h_plan) trivial (ok_ret h :)))⟩⟩)) (fun b_140090 h => ⟨hl0, ⟨(ok_guard h).1, have h := (ok_guard h).2; (let y_12_6 : (List Int) := (v0.2.set i0.toNat (wrap64 (((v0.1 ++ [((nS plan i0).1, ((nI v0.2 (((nS plan i0).2).1)), ((nI v0.2 ((((nS plan i0).2).2).1)), (((((nS plan i0).2).2).2).1, ((cutList r_2001_2 (some (Z0, (r_2001_2.length : Int)))), ((cutList r_2001_5 (some (Z0, (r_2001_5.length : Int)))), ()))))))]).length : Int) - Z1))); have h := ok_let h y_12_6 rfl; (loopI_next (fun m hm => (show LP29_0 tables guards plan m _ _ from ⟨hc0, hm⟩)) ((v0.1 ++ [((nS plan i0).1, ((nI v0.2 (((nS plan i0).2).1)), ((nI v0.2 ((((nS plan i0).2).2).1)), (((((nS plan i0).2).2).2).1, ((cutList r_2001_2 (some (Z0, (r_2001_2.length : Int)))), ((cutList r_2001_5 (some (Z0, (r_2001_5.length : Int)))), ()))))))]), y_12_6) rfl hl0 low0 ht0 (sm_len h_plan) trivial (ok_ret h :)))⟩⟩)))⟩⟩⟩⟩) (fun b_130086 h => ⟨(ok_guard h).1, have h := (ok_guard h).2; ⟨h_guards, (fun r_9_3 e_r_9_3 => have h := ok_let h r_9_3 e_r_9_3; (ok_cond h (fun b_140097 h => (cond_f (bnt b_120083) ⟨hl0, ⟨(ok_guard h).1, have h := (ok_guard h).2; (let y_12_6 : (List Int) := (v0.2.set i0.toNat (wrap64 (((v0.1 ++ [((nS plan i0).1, ((nI v0.2 (((nS plan i0).2).1)), ((((nS plan i0).2).2).1, (((((nS plan i0).2).2).2).1, ((cutList r_2001_2 (some (Z0, (r_2001_2.length : Int)))), ((cutList r_2001_5 (some (Z0, (r_2001_5.length : Int)))), ()))))))]).length : Int) - Z1))); have h := ok_let h y_12_6 rfl; (loopI_next (fun m hm => (show LP29_0 tables guards plan m _ _ from ⟨hc0, hm⟩)) ((v0.1 ++ [((nS plan i0).1, ((nI v0.2 (((nS plan i0).2).1)), ((((nS plan i0).2).2).1, (((((nS plan i0).2).2).2).1, ((cutList r_2001_2 (some (Z0, (r_2001_2.length : Int)))), ((cutList r_2001_5 (some (Z0, (r_2001_5.length : Int)))), ()))))))]), y_12_6) rfl hl0 low0 ht0 (sm_len h_plan) trivial (ok_ret h :)))⟩⟩)) (fun b_140097 h => ⟨hl0, ⟨(ok_guard h).1, have h := (ok_guard h).2; (let y_12_6 : (List Int) := (v0.2.set i0.toNat (wrap64 (((v0.1 ++ [((nS plan i0).1, ((nI v0.2 (((nS plan i0).2).1)), ((((nS plan i0).2).2).1, (((((nS plan i0).2).2).2).1, ((cutList r_2001_2 (some (Z0, (r_2001_2.length : Int)))), ((cutList r_2001_5 (some (Z0, (r_2001_5.length : Int)))), ()))))))]).length : Int) - Z1))); have h := ok_let h y_12_6 rfl; (loopI_next (fun m hm => (show LP29_0 tables guards plan m _ _ from ⟨hc0, hm⟩)) ((v0.1 ++ [((nS plan i0).1, ((nI v0.2 (((nS plan i0).2).1)), ((((nS plan i0).2).2).1, (((((nS plan i0).2).2).2).1, ((cutList r_2001_2 (some (Z0, (r_2001_2.length : Int)))), ((cutList r_2001_5 (some (Z0, (r_2001_5.length : Int)))), ()))))))]), y_12_6) rfl hl0 low0 ht0 (sm_len h_plan) trivial (ok_ret h :)))⟩⟩)))⟩⟩))⟩⟩) (fun b_120083 h => (ok_cond h (fun b_140103 h => ⟨(ok_guard h).1, have h := (ok_guard h).2; ⟨(ok_guard h).1, have h := (ok_guard h).2; ⟨(ok_guard h).1, have h := (ok_guard h).2; ⟨h_guards, (fun r_9_3 e_r_9_3 => have h := ok_let h r_9_3 e_r_9_3; (ok_cond h (fun b_150107 h => (cond_t (bnf b_120083) ⟨(ok_guard h).1, have h := (ok_guard h).2; ⟨hl0, ⟨(ok_guard h).1, have h := (ok_guard h).2; (let y_12_6 : (List Int) := (v0.2.set i0.toNat (wrap64 ((((v0.1 ++ [((nS plan i0).1, (((nS plan i0).2).1, ((nI v0.2 ((((nS plan i0).2).2).1)), (((((nS plan i0).2).2).2).1, ((cutList r_2001_2 (some (Z0, (r_2001_2.length : Int)))), ((cutList r_2001_5 (some (Z0, (r_2001_5.length : Int)))), ()))))))]) ++ [(Z2, (wrap64 (((v0.1 ++ [((nS plan i0).1, (((nS plan i0).2).1, ((nI v0.2 ((((nS plan i0).2).2).1)), (((((nS plan i0).2).2).2).1, ((cutList r_2001_2 (some (Z0, (r_2001_2.length : Int)))), ((cutList r_2001_5 (some (Z0, (r_2001_5.length : Int)))), ()))))))]).length : Int) - Z1), (Z0, (Z0, (r_9_3.1, ([], ()))))))]).length : Int) - Z1))); have h := ok_let h y_12_6 rfl; (loopI_next (fun m hm => (show LP29_0 tables guards plan m _ _ from ⟨hc0, hm⟩)) (((v0.1 ++ [((nS plan i0).1, (((nS plan i0).2).1, ((nI v0.2 ((((nS plan i0).2).2).1)), (((((nS plan i0).2).2).2).1, ((cutList r_2001_2 (some (Z0, (r_2001_2.length : Int)))), ((cutList r_2001_5 (some (Z0, (r_2001_5.length : Int)))), ()))))))]) ++ [(Z2, (wrap64 (((v0.1 ++ [((nS plan i0).1, (((nS plan i0).2).1, ((nI v0.2 ((((nS plan i0).2).2).1)), (((((nS plan i0).2).2).2).1, ((cutList r_2001_2 (some (Z0, (r_2001_2.length : Int)))), ((cutList r_2001_5 (some (Z0, (r_2001_5.length : Int)))), ()))))))]).length : Int) - Z1), (Z0, (Z0, (r_9_3.1, ([], ()))))))]), y_12_6) rfl hl0 low0 ht0 (sm_len h_plan) trivial (ok_ret h :)))⟩⟩⟩)) (fun b_150107 h => ⟨hl0, ⟨(ok_guard h).1, have h := (ok_guard h).2; (let y_12_6 : (List Int) := (v0.2.set i0.toNat (wrap64 (((v0.1 ++ [((nS plan i0).1, (((nS plan i0).2).1, ((nI v0.2 ((((nS plan i0).2).2).1)), (((((nS plan i0).2).2).2).1, ((cutList r_2001_2 (some (Z0, (r_2001_2.length : Int)))), ((cutList r_2001_5 (some (Z0, (r_2001_5.length : Int)))), ()))))))]).length : Int) - Z1))); have h := ok_let h y_12_6 rfl; (loopI_next (fun m hm => (show LP29_0 tables guards plan m _ _ from ⟨hc0, hm⟩)) ((v0.1 ++ [((nS plan i0).1, (((nS plan i0).2).1, ((nI v0.2 ((((nS plan i0).2).2).1)), (((((nS plan i0).2).2).2).1, ((cutList r_2001_2 (some (Z0, (r_2001_2.length : Int)))), ((cutList r_2001_5 (some (Z0, (r_2001_5.length : Int)))), ()))))))]), y_12_6) rfl hl0 low0 ht0 (sm_len h_plan) trivial (ok_ret h :)))⟩⟩)))⟩⟩⟩⟩) (fun b_140103 h => ⟨(ok_guard h).1, have h := (ok_guard h).2; ⟨h_guards, (fun r_9_3 e_r_9_3 => have h := ok_let h r_9_3 e_r_9_3; (ok_cond h (fun b_150114 h => (cond_t (bnf b_120083) ⟨(ok_guard h).1, have h := (ok_guard h).2; ⟨hl0, ⟨(ok_guard h).1, have h := (ok_guard h).2; (let y_12_6 : (List Int) := (v0.2.set i0.toNat (wrap64 ((((v0.1 ++ [((nS plan i0).1, (((nS plan i0).2).1, ((((nS plan i0).2).2).1, (((((nS plan i0).2).2).2).1, ((cutList r_2001_2 (some (Z0, (r_2001_2.length : Int)))), ((cutList r_2001_5 (some (Z0, (r_2001_5.length : Int)))), ()))))))]) ++ [(Z2, (wrap64 (((v0.1 ++ [((nS plan i0).1, (((nS plan i0).2).1, ((((nS plan i0).2).2).1, (((((nS plan i0).2).2).2).1, ((cutList r_2001_2 (some (Z0, (r_2001_2.length : Int)))), ((cutList r_2001_5 (some (Z0, (r_2001_5.length : Int)))), ()))))))]).length : Int) - Z1), (Z0, (Z0, (r_9_3.1, ([], ()))))))]).length : Int) - Z1))); have h := ok_let h y_12_6 rfl; (loopI_next (fun m hm => (show LP29_0 tables guards plan m _ _ from ⟨hc0, hm⟩)) (((v0.1 ++ [((nS plan i0).1, (((nS plan i0).2).1, ((((nS plan i0).2).2).1, (((((nS plan i0).2).2).2).1, ((cutList r_2001_2 (some (Z0, (r_2001_2.length : Int)))), ((cutList r_2001_5 (some (Z0, (r_2001_5.length : Int)))), ()))))))]) ++ [(Z2, (wrap64 (((v0.1 ++ [((nS plan i0).1, (((nS plan i0).2).1, ((((nS plan i0).2).2).1, (((((nS plan i0).2).2).2).1, ((cutList r_2001_2 (some (Z0, (r_2001_2.length : Int)))), ((cutList r_2001_5 (some (Z0, (r_2001_5.length : Int)))), ()))))))]).length : Int) - Z1), (Z0, (Z0, (r_9_3.1, ([], ()))))))]), y_12_6) rfl hl0 low0 ht0 (sm_len h_plan) trivial (ok_ret h :)))⟩⟩⟩)) (fun b_150114 h => ⟨hl0, ⟨(ok_guard h).1, have h := (ok_guard h).2; (let y_12_6 : (List Int) := (v0.2.set i0.toNat (wrap64 (((v0.1 ++ [((nS plan i0).1, (((nS plan i0).2).1, ((((nS plan i0).2).2).1, (((((nS plan i0).2).2).2).1, ((cutList r_2001_2 (some (Z0, (r_2001_2.length : Int)))), ((cutList r_2001_5 (some (Z0, (r_2001_5.length : Int)))), ()))))))]).length : Int) - Z1))); have h := ok_let h y_12_6 rfl; (loopI_next (fun m hm => (show LP29_0 tables guards plan m _ _ from ⟨hc0, hm⟩)) ((v0.1 ++ [((nS plan i0).1, (((nS plan i0).2).1, ((((nS plan i0).2).2).1, (((((nS plan i0).2).2).2).1, ((cutList r_2001_2 (some (Z0, (r_2001_2.length : Int)))), ((cutList r_2001_5 (some (Z0, (r_2001_5.length : Int)))), ()))))))]), y_12_6) rfl hl0 low0 ht0 (sm_len h_plan) trivial (ok_ret h :)))⟩⟩)))⟩⟩)))))⟩)⟩⟩⟩) (fun h => (h trivial)))
 ·rw [vc29 tables guards plan K]
  exact ⟨h_tables, ⟨h_guards, (ok_cond h (fun b_1 h => ⟨h_tables, ⟨h_plan, (ok_cond h (fun b_2 h => (ok_ret h :)) (fun b_2 h => ⟨rfl, ⟨(Int.natCast_nonneg _), ⟨(sm_limI h_plan rfl), (loopI_start (fun m hm => ⟨trivial, hm⟩) Z0 ([], (List.replicate (plan.length : Int).toNat Z0)) rfl (Int.natCast_nonneg 0) trivial (ok_then h (fun v0 h hv0 => (ok_cond h (fun b_150120 h => (ok_ret h :)) (fun b_150120 h => ⟨(ok_guard h).1, have h := (ok_guard h).2; (fun r_16_1 e_r_16_1 => have h := ok_let h r_16_1 e_r_16_1; (ok_ret h :))⟩))) (fun _ h => h.elim)))⟩⟩⟩))⟩⟩) (fun b_1 h => (ok_ret h :)))⟩⟩
def c6 : Con := ⟨[.dat TTb, .dat TGS, .dat TSS], fun args hp K => args3 (fun a0 a1 a2 => withD TTb a0 fun aTables => withD TGS a1 fun aGuards => withD TSS a2 fun aPlan => (Ln TTb aTables) ∧ (Ln TGS aGuards) ∧ (Ln TSS aPlan) ∧ K (dB (true)) []) args hp, .plain⟩
def cons6 : Cons := [(8, c8), (9, c9), (11, c11), (12, c12), (14, c14), (15, c15), (16, c16), (17, c17), (18, c18), (19, c19), (21, c21), (23, c23), (24, c24), (28, c28), (29, c29)]
@[reducible] def C6 : Ctx := ⟨tab, fun t => memN t cmps, cons6, 142, [], 0, true⟩
theorem consOk6 : ConsOk P C6 := by
 refine consOk_cons (enter_ok (fn := f8) func8 (by kernel_rfl) rfl) con8_ok ?_
 refine consOk_cons (enter_ok (fn := f9) func9 (by kernel_rfl) rfl) con9_ok ?_
 refine consOk_cons (enter_ok (fn := f11) func11 (by kernel_rfl) rfl) con11_ok ?_
 refine consOk_cons (enter_ok (fn := f12) func12 (by kernel_rfl) rfl) con12_ok ?_
 refine consOk_cons (enter_ok (fn := f14) func14 (by kernel_rfl) rfl) con14_ok ?_
 refine consOk_cons (enter_ok (fn := f15) func15 (by kernel_rfl) rfl) con15_ok ?_
 refine consOk_cons (enter_ok (fn := f16) func16 (by kernel_rfl) rfl) con16_ok ?_
 refine consOk_cons (enter_ok (fn := f17) func17 (by kernel_rfl) rfl) con17_ok ?_
 refine consOk_cons (enter_ok (fn := f18) func18 (by kernel_rfl) rfl) con18_ok ?_
 refine consOk_cons (enter_ok (fn := f19) func19 (by kernel_rfl) rfl) con19_ok ?_
 refine consOk_cons (enter_ok (fn := f21) func21 (by kernel_rfl) rfl) con21_ok ?_
 refine consOk_cons (enter_ok (fn := f23) func23 (by kernel_rfl) rfl) con23_ok ?_
 refine consOk_cons (enter_ok (fn := f24) func24 (by kernel_rfl) rfl) con24_ok ?_
 refine consOk_cons (enter_ok (fn := f28) func28 (by kernel_rfl) rfl) con28_ok ?_
 refine consOk_cons (enter_ok (fn := f29) func29 (by kernel_rfl) rfl) con29_ok ?_
 exact consOk_nil
def ann6 : Nat → List Dir
 | 0 => [.keep [0, 1, 2]]
 | 1 => [.keep [0, 1, 2, 7]]
 | 2 => [.keep [0, 1, 2, 7]]
 | 3 => [.keep [0, 1, 2, 7, 24]]
 | 4 => [.keep [6]]
 | 5 => [.keep [0, 1, 2, 7]]
 | 6 => [.keep [0, 1, 2, 7, 29]]
 | 7 => [.keep [6]]
 | 8 => [.keep [0, 1, 2, 7]]
 | 9 => [.keep [0, 1, 2, 34]]
 | 10 => [.keep [6]]
 | 11 => [.keep [0, 1, 2, 8, 9]]
 | 12 => [.keep [0, 1, 2, 8, 9, 10]]
 | 13 => [.keep [0, 1, 2, 8, 9, 10, 11]]
 | 14 => [.keep [0, 1, 2, 8, 9, 10, 11, 12]]
 | 15 => [.keep [0, 1, 2, 8, 9, 10, 11, 12, 13, 14]]
 | 16 => [.keep [0, 1, 2, 8, 9, 10, 11, 12, 13, 14, 66]]
 | 17 => [.keep [6]]
 | 18 => [.keep [0, 1, 2, 8, 9, 10, 11, 12, 13, 14, 71]]
 | 19 => [.keep [6]]
 | 20 => [.keep [0, 1, 2, 8, 9, 10, 11, 12, 13, 14, 76]]
 | 21 => [.keep [6]]
 | 22 => [.keep [0, 1, 2, 8, 9, 10, 11, 12, 13, 14, 81]]
 | 23 => [.keep [6]]
 | 24 => [.keep [0, 1, 2, 8, 9, 10, 11, 12, 13, 14, 15]]
 | 25 => [.keep [0, 1, 2, 8, 9, 11, 12, 13, 14, 15]]
 | 26 => [.keep [0, 1, 2, 8, 9, 12, 13, 14, 15]]
 | 27 => [.keep [0, 1, 2, 8, 9, 13, 14, 15]]
 | 28 => [.keep [0, 1, 2, 8, 9, 13, 103]]
 | 29 => [.keep [6]]
 | 30 => [.keep [0, 1, 2, 8, 9, 13, 16]]
 | 31 => [.keep [0, 1, 2, 8, 9, 13, 16]]
 | 32 => [.keep [0, 1, 2, 8, 9, 13, 16, 17]]
 | 33 => [.keep [0, 1, 2, 8, 9, 13, 16, 17]]
 | 34 => [.keep [0, 1, 2, 8, 9, 13, 16, 17, 111]]
 | 35 => [.keep [6]]
 | 36 => [.keep [0, 1, 2, 8, 9, 13, 16, 114]]
 | 37 => [.keep [6]]
 | 38 => [.keep [8, 9, 13, 16, 18, 19]]
 | 39 => [.keep [13, 16, 133]]
 | 40 => [.keep [6]]
 | 41 => [.keep [13, 16, 17]]
 | 42 => [.keep [16, 17]]
 | 43 => [.keep [16, 17, 138]]
 | 44 => [.keep [6]]
 | 45 => [.keep [141]]
 | 46 => [.keep [6]]
 | 47 => [.keep [6]]
 | _ => []
def L6 (aTables : LTb) (aGuards : LG) (aPlan : LS) : Loops := fun id m st_ K => match id with
 | _ => False
theorem vc6 (aTables : LTb) (aGuards : LG) (aPlan : LS) (K : KA) : awp C6 (L6 aTables aGuards aPlan) ann6 (bodyOf f6) ⟨argEnv 0 [.data TTb aTables, .data TGS aGuards, .data TSS aPlan], []⟩ (outK tab true f6.results.toList (hasBox []) (resK (.dat Ty.bool) K)) =
 ((Ln TTb aTables) ∧ (0 ≤ (1048576 : Int)) ∧ ((1048576 : Int) ≤ 1048576) ∧ cond (decide ((M.szS M.szTable aTables (1048576 : Int)) < Z0)) (K (dB true) []) ((Ln TGS aGuards) ∧ (0 ≤ (M.szS M.szTable aTables (1048576 : Int))) ∧ ((M.szS M.szTable aTables (1048576 : Int)) ≤ 1048576) ∧ cond (decide ((M.szS M.szGuard aGuards (M.szS M.szTable aTables (1048576 : Int))) < Z0)) (K (dB true) []) ((Ln TSS aPlan) ∧ (0 ≤ (M.szS M.szGuard aGuards (M.szS M.szTable aTables (1048576 : Int)))) ∧ ((M.szS M.szGuard aGuards (M.szS M.szTable aTables (1048576 : Int))) ≤ 1048576) ∧ cond (decide ((M.szS M.szStep aPlan (M.szS M.szGuard aGuards (M.szS M.szTable aTables (1048576 : Int)))) < Z0)) (K (dB true) []) ((Sm TTb aTables) ∧ (∀ r_11_1 : LTb, r_11_1 = (aTables) → (Sm TGS aGuards) ∧ (∀ r_11_3 : LG, r_11_3 = (aGuards) → (Sm TSS aPlan) ∧ (∀ r_11_5 : LS, r_11_5 = (aPlan) → (Sm TTb r_11_1) ∧ (Sm TGS r_11_3) ∧ (Sm TSS r_11_5) ∧ (∀ r_11_6 : LS × Bool, r_11_6 = (M.planGuarded r_11_1 r_11_3 r_11_5) → (Sm TTb aTables) ∧ (∀ r_12_1 : LTb, r_12_1 = (aTables) → (Sm TGS aGuards) ∧ (∀ r_13_1 : LG, r_13_1 = (aGuards) → (Sm TSS aPlan) ∧ (∀ r_14_1 : LS, r_14_1 = (aPlan) → (Sm TTb r_12_1) ∧ (Sm TGS r_13_1) ∧ (Sm TSS r_14_1) ∧ (∀ r_15_3 : LS × Bool, r_15_3 = (M.planGuarded r_12_1 r_13_1 r_14_1) → (Sm TSS (cutList r_15_3.1 (some (Z0, (r_15_3.1.length : Int))))) ∧ (Sm TSS r_11_6.1) ∧ ((cutList r_15_3.1 (some (Z0, (r_15_3.1.length : Int)))) = r_11_6.1) ∧ cond ((!(true)) == false) (cond (!(Ty.beq Ty.bool r_15_3.2 r_11_6.2)) (K (dB false) []) ((Sm TTb aTables) ∧ (∀ r_18_2 : LTb, r_18_2 = (aTables) → (Sm TTb r_12_1) ∧ (Sm TTb r_18_2) ∧ (r_12_1 = r_18_2) ∧ cond (!(true)) (K (dB false) []) ((Sm TGS aGuards) ∧ (∀ r_20_2 : LG, r_20_2 = (aGuards) → (Sm TGS r_13_1) ∧ (Sm TGS r_20_2) ∧ (r_13_1 = r_20_2) ∧ cond (!(true)) (K (dB false) []) ((Sm TSS aPlan) ∧ (∀ r_22_2 : LS, r_22_2 = (aPlan) → (Sm TSS r_14_1) ∧ (Sm TSS r_22_2) ∧ (r_14_1 = r_22_2) ∧ cond (!(true)) (K (dB false) []) (((r_12_1.length : Int) = (r_12_1.length : Int)) ∧ (Ln TTb r_12_1) ∧ (0 ≤ Z1) ∧ (Z1 + (M.count TTb r_12_1 : Int) ≤ M.big) ∧ (∀ r_25_2 : LTb × Int, r_25_2 = ((M.mark TTb r_12_1 Z1, Z1 + (M.count TTb r_12_1 : Int))) → (r_25_2.1.length = r_12_1.length) ∧ ((r_13_1.length : Int) = (r_13_1.length : Int)) ∧ (Ln TGS r_13_1) ∧ (0 ≤ r_25_2.2) ∧ (r_25_2.2 + (M.count TGS r_13_1 : Int) ≤ M.big) ∧ (∀ r_26_2 : LG × Int, r_26_2 = ((M.mark TGS r_13_1 r_25_2.2, r_25_2.2 + (M.count TGS r_13_1 : Int))) → (r_26_2.1.length = r_13_1.length) ∧ ((r_14_1.length : Int) = (r_14_1.length : Int)) ∧ (Ln TSS r_14_1) ∧ (0 ≤ r_26_2.2) ∧ (r_26_2.2 + (M.count TSS r_14_1 : Int) ≤ M.big) ∧ (∀ r_27_2 : LS × Int, r_27_2 = ((M.mark TSS r_14_1 r_26_2.2, r_26_2.2 + (M.count TSS r_14_1 : Int))) → (r_27_2.1.length = r_14_1.length) ∧ cond ((decide (r_27_2.2 < Z0)) == false) ((Sm TSS (cutList r_15_3.1 (some (Z0, (r_15_3.1.length : Int))))) ∧ (Sm TSS r_11_6.1) ∧ ((cutList r_15_3.1 (some (Z0, (r_15_3.1.length : Int)))) = r_11_6.1) ∧ cond ((!(true)) == false) (cond (!(Ty.beq Ty.bool r_15_3.2 r_11_6.2)) (K (dB false) []) (((r_15_3.1.length : Int) = (r_15_3.1.length : Int)) ∧ ((r_15_3.1.length : Int) = (r_15_3.1.length : Int)) ∧ (Ln TSS r_15_3.1) ∧ (0 ≤ Z1) ∧ (Z1 + (M.count TSS r_15_3.1 : Int) ≤ M.big) ∧ (∀ r_31_2 : LS × Int, r_31_2 = ((M.mark TSS r_15_3.1 Z1, Z1 + (M.count TSS r_15_3.1 : Int))) → (r_31_2.1.length = r_15_3.1.length) ∧ (Ln TSS (cutList r_31_2.1 (some (Z0, (r_15_3.1.length : Int))))) ∧ (0 ≤ Z1) ∧ (Z1 + (M.count TSS (cutList r_31_2.1 (some (Z0, (r_15_3.1.length : Int)))) : Int) ≤ M.big) ∧ (M.mark TSS (cutList r_31_2.1 (some (Z0, (r_15_3.1.length : Int)))) Z1 = (cutList r_31_2.1 (some (Z0, (r_15_3.1.length : Int))))) ∧ cond (decide ((Z1 + (M.count TSS (cutList r_31_2.1 (some (Z0, (r_15_3.1.length : Int)))) : Int)) < Z0)) (K (dB false) []) (cond (!decide ((Z1 + (M.count TSS (cutList r_31_2.1 (some (Z0, (r_15_3.1.length : Int)))) : Int)) = r_31_2.2)) (K (dB false) []) ((Sm TTb aTables) ∧ (∀ r_38_1 : LTb, r_38_1 = (aTables) → (Sm TGS aGuards) ∧ (∀ r_38_3 : LG, r_38_3 = (aGuards) → (Sm TSS aPlan) ∧ (∀ r_38_5 : LS, r_38_5 = (aPlan) → (Sm TTb r_38_1) ∧ (Sm TGS r_38_3) ∧ (Sm TSS r_38_5) ∧ (∀ r_38_6 : LS × Bool, r_38_6 = (M.planGuarded r_38_1 r_38_3 r_38_5) → (Sm TSS (cutList r_38_6.1 (some (Z0, (r_38_6.1.length : Int))))) ∧ (Sm TSS r_11_6.1) ∧ ((cutList r_38_6.1 (some (Z0, (r_38_6.1.length : Int)))) = r_11_6.1) ∧ cond ((!(true)) == false) (cond (!(Ty.beq Ty.bool r_38_6.2 r_11_6.2)) (K (dB false) []) ((Ln TSS (cutList r_31_2.1 (some (Z0, (r_15_3.1.length : Int))))) ∧ (0 ≤ Z1) ∧ (Z1 + (M.count TSS (cutList r_31_2.1 (some (Z0, (r_15_3.1.length : Int)))) : Int) ≤ M.big) ∧ (M.mark TSS (cutList r_31_2.1 (some (Z0, (r_15_3.1.length : Int)))) Z1 = (cutList r_31_2.1 (some (Z0, (r_15_3.1.length : Int))))) ∧ cond (decide ((Z1 + (M.count TSS (cutList r_31_2.1 (some (Z0, (r_15_3.1.length : Int)))) : Int)) < Z0)) (K (dB false) []) (cond (!decide ((Z1 + (M.count TSS (cutList r_31_2.1 (some (Z0, (r_15_3.1.length : Int)))) : Int)) = r_31_2.2)) (K (dB false) []) (K (dB true) [])))) (K (dB false) [])))))))))) (K (dB false) [])) (K (dB false) [])))))))))))) (K (dB false) []))))))))))))) := by kernel_rfl
theorem con6_ok : ConOk P 6 c6 := by
 refine con_okR (fn := f6) (code := bodyOf f6) (tab_ok tab_check cmp_check) consOk6 mixed func6 rfl rfl fun args hp K h0 => ?_
 obtain ⟨a0, a1, a2, rfl, rfl, h1⟩ := args3_elim h0
 obtain ⟨aTables, rfl, h2⟩ := withD_elim h1
 obtain ⟨aGuards, rfl, h3⟩ := withD_elim h2
 obtain ⟨aPlan, rfl, h4⟩ := withD_elim h3
 obtain ⟨h_aTables, h_aGuards, h_aPlan, hK⟩ := h4
 have h : ok (F.laws_FnExactPlanGuarded aTables aGuards aPlan) (fun r => K (dB r) []) := ok_of_eq (F.laws_FnExactPlanGuarded_eq aTables aGuards aPlan h_aTables h_aGuards h_aPlan) hK
 refine ⟨⟨show (3 : Nat) ≤ 142 by decide, show (3 : Nat) ≤ 1000000 by decide⟩, ann6, (L6 aTables aGuards aPlan), (.dat Ty.bool), (no_loops (by kernel_rfl)), ?_⟩
 ·rw [vc6 aTables aGuards aPlan K]
  exact ⟨h_aTables, ⟨(ok_guard h).1, have h := (ok_guard h).2; ⟨(ok_guard h).1, have h := (ok_guard h).2; (ok_cond h (fun b_3 h => (ok_ret h :)) (fun b_3 h => ⟨h_aGuards, ⟨(ok_guard h).1, have h := (ok_guard h).2; ⟨(ok_guard h).1, have h := (ok_guard h).2; (ok_cond h (fun b_6 h => (ok_ret h :)) (fun b_6 h => ⟨h_aPlan, ⟨(ok_guard h).1, have h := (ok_guard h).2; ⟨(ok_guard h).1, have h := (ok_guard h).2; (ok_cond h (fun b_9 h => (ok_ret h :)) (fun b_9 h => ⟨(ok_guard h).1, have g_10 := (ok_guard h).1; have h := (ok_guard h).2; (fun r_11_1 e_r_11_1 => have h := ok_let h r_11_1 e_r_11_1; ⟨(ok_guard h).1, have g_11 := (ok_guard h).1; have h := (ok_guard h).2; (fun r_11_3 e_r_11_3 => have h := ok_let h r_11_3 e_r_11_3; ⟨(ok_guard h).1, have g_12 := (ok_guard h).1; have h := (ok_guard h).2; (fun r_11_5 e_r_11_5 => have h := ok_let h r_11_5 e_r_11_5; ⟨(ok_guard h).1, have h := (ok_guard h).2; ⟨(ok_guard h).1, have h := (ok_guard h).2; ⟨(ok_guard h).1, have h := (ok_guard h).2; (fun r_11_6 e_r_11_6 => have h := ok_let h r_11_6 e_r_11_6; ⟨g_10, (fun r_12_1 e_r_12_1 => have h := ok_let h r_12_1 e_r_12_1; ⟨g_11, (fun r_13_1 e_r_13_1 => have h := ok_let h r_13_1 e_r_13_1; ⟨g_12, (fun r_14_1 e_r_14_1 => have h := ok_let h r_14_1 e_r_14_1; ⟨(ok_guard h).1, have g_16 := (ok_guard h).1; have h := (ok_guard h).2; ⟨(ok_guard h).1, have g_17 := (ok_guard h).1; have h := (ok_guard h).2; ⟨(ok_guard h).1, have g_18 := (ok_guard h).1; have h := (ok_guard h).2; (fun r_15_3 e_r_15_3 => have h := ok_let h r_15_3 e_r_15_3; ⟨(ok_guard h).1, have g_19 := (ok_guard h).1; have h := (ok_guard h).2; ⟨(ok_guard h).1, have g_20 := (ok_guard h).1; have h := (ok_guard h).2; ⟨(ok_guard h).1, have g_21 := (ok_guard h).1; have h := (ok_guard h).2; (ok_cond h (fun b_22 h => (ok_cond h (fun b_23 h => (ok_ret h :)) (fun b_23 h => ⟨g_10, (fun r_18_2 e_r_18_2 => have h := ok_let h r_18_2 e_r_18_2; ⟨g_16, ⟨(ok_guard h).1, have h := (ok_guard h).2; ⟨(ok_guard h).1, have h := (ok_guard h).2; (cond_f (unf (bnf (bgt b_22))) ⟨g_11, (fun r_20_2 e_r_20_2 => have h := ok_let h r_20_2 e_r_20_2; ⟨g_17, ⟨(ok_guard h).1, have h := (ok_guard h).2; ⟨(ok_guard h).1, have h := (ok_guard h).2; (cond_f (unf (bnf (bgt b_22))) ⟨g_12, (fun r_22_2 e_r_22_2 => have h := ok_let h r_22_2 e_r_22_2; ⟨g_18, ⟨(ok_guard h).1, have h := (ok_guard h).2; ⟨(ok_guard h).1, have h := (ok_guard h).2; (cond_f (unf (bnf (bgt b_22))) ⟨rfl, ⟨(ok_guard h).1, have h := (ok_guard h).2; ⟨(ok_guard h).1, have g_34 := (ok_guard h).1; have h := (ok_guard h).2; ⟨(ok_guard h).1, have h := (ok_guard h).2; (fun r_25_2 e_r_25_2 => have h := ok_let h r_25_2 e_r_25_2; ⟨(by rw [e_r_25_2]; exact (M.mark_len TTable _ _)), ⟨rfl, ⟨(ok_guard h).1, have h := (ok_guard h).2; ⟨(ok_guard h).1, have h := (ok_guard h).2; ⟨(ok_guard h).1, have h := (ok_guard h).2; (fun r_26_2 e_r_26_2 => have h := ok_let h r_26_2 e_r_26_2; ⟨(by rw [e_r_26_2]; exact (M.mark_len TGuard _ _)), ⟨rfl, ⟨(ok_guard h).1, have h := (ok_guard h).2; ⟨(ok_guard h).1, have h := (ok_guard h).2; ⟨(ok_guard h).1, have h := (ok_guard h).2; (fun r_27_2 e_r_27_2 => have h := ok_let h r_27_2 e_r_27_2; ⟨(by rw [e_r_27_2]; exact (M.mark_len TStep _ _)), (ok_cond h (fun b_42 h => ⟨g_19, ⟨g_20, ⟨g_21, (cond_t (ugt (unf (bnf (bgt b_22)))) (cond_f (unf (bnf b_23)) ⟨rfl, ⟨rfl, ⟨(ok_guard h).1, have h := (ok_guard h).2; ⟨g_34, ⟨(ok_guard h).1, have h := (ok_guard h).2; (fun r_31_2 e_r_31_2 => have h := ok_let h r_31_2 e_r_31_2; ⟨(by rw [e_r_31_2]; exact (M.mark_len TStep _ _)), ⟨(ok_guard h).1, have g_47 := (ok_guard h).1; have h := (ok_guard h).2; ⟨g_34, ⟨(ok_guard h).1, have g_48 := (ok_guard h).1; have h := (ok_guard h).2; ⟨(ok_guard h).1, have g_49 := (ok_guard h).1; have h := (ok_guard h).2; (ok_cond h (fun b_50 h => (ok_ret h :)) (fun b_50 h => (ok_cond h (fun b_51 h => (ok_ret h :)) (fun b_51 h => ⟨g_10, (fun r_38_1 e_r_38_1 => have h := ok_let h r_38_1 e_r_38_1; ⟨g_11, (fun r_38_3 e_r_38_3 => have h := ok_let h r_38_3 e_r_38_3; ⟨g_12, (fun r_38_5 e_r_38_5 => have h := ok_let h r_38_5 e_r_38_5; ⟨(ok_guard h).1, have h := (ok_guard h).2; ⟨(ok_guard h).1, have h := (ok_guard h).2; ⟨(ok_guard h).1, have h := (ok_guard h).2; (fun r_38_6 e_r_38_6 => have h := ok_let h r_38_6 e_r_38_6; ⟨(ok_guard h).1, have h := (ok_guard h).2; ⟨g_20, ⟨(ok_guard h).1, have h := (ok_guard h).2; (cond_t (ugt (unf (bnf (bgt b_22)))) (ok_cond h (fun b_58 h => (ok_ret h :)) (fun b_58 h => ⟨g_47, ⟨g_34, ⟨g_48, ⟨g_49, (cond_f b_50 (cond_f (unf (bnf b_51)) (ok_ret h :)))⟩⟩⟩⟩)))⟩⟩⟩)⟩⟩⟩)⟩)⟩)⟩))))⟩⟩⟩⟩⟩)⟩⟩⟩⟩⟩))⟩⟩⟩) (fun b_42 h => (ok_ret h :)))⟩)⟩⟩⟩⟩⟩)⟩⟩⟩⟩⟩)⟩⟩⟩⟩)⟩⟩⟩)⟩)⟩⟩⟩)⟩)⟩⟩⟩)⟩))) (fun b_22 h => (ok_ret h :)))⟩⟩⟩)⟩⟩⟩)⟩)⟩)⟩)⟩⟩⟩)⟩)⟩)⟩))⟩⟩⟩))⟩⟩⟩))⟩⟩⟩
end Go.AE
