/- Contracts. -/
import Derived.Test.YtgfcmofoaglfkaaGreatAeSeat
import Derived.Test.YtgfcmofoaglfkaaGreatAeEq
import Derived.Test.YtgfcmofoaglfkaaGreatAeInl
import Derived.Test.YtgfcmofoaglfkaaGreatAeC0
namespace Go.AE
open Go Go.RowKit
set_option maxRecDepth 100000
set_option linter.unusedVariables false

/-! 105: loop.example/tablehouse/spec.BondOk -/
def c105 : Con := ⟨[.dat (Ty.sl TTable), .dat TBond], fun args hp K => args2 (fun a0 a1 => withD (Ty.sl TTable) a0 fun tables => withD TBond a1 fun b => (Sm (Ty.sl TTable) tables) ∧ (Sm TBond b) ∧ K (.data Ty.bool (M.tablesOk tables && M.bondOk tables b)) []) args hp⟩
def cons105 : Cons := [(78, c78), (79, c79), (93, c93), (142, c142)]
def inl105 : List (Nat × Inl) := []
@[reducible] def C105 : Ctx := ⟨tab, fun t => memN t cmps, cons105, 158, inl105, 0⟩
theorem consOk105 : ConsOk P C105 := by
  refine consOk_cons (enter_ok (fn := Go.Proofs.Tryz.f78) Go.Proofs.Tryz.func78 (by kernel_rfl) rfl) con78_ok ?_
  refine consOk_cons (enter_ok (fn := Go.Proofs.Tryz.f79) Go.Proofs.Tryz.func79 (by kernel_rfl) rfl) con79_ok ?_
  refine consOk_cons (enter_ok (fn := Go.Proofs.Tryz.f93) Go.Proofs.Tryz.func93 (by kernel_rfl) rfl) con93_ok ?_
  refine consOk_cons (enter_ok (fn := Go.Proofs.Tryz.f142) Go.Proofs.Tryz.func142 (by kernel_rfl) rfl) con142_ok ?_
  exact consOk_nil
def ann105 : Nat → List Dir
  | 0 => [.fixRow 3 TBond, .keep [0, 3]]
  | 1 => [.keep [0, 3, 18]]
  | 2 => [.keep [4]]
  | 3 => [.keep [0, 3, 5]]
  | 4 => [.keep [0, 3, 5, 26]]
  | 5 => [.keep [0, 3, 5, 26, 27]]
  | 6 => [.keep [4]]
  | 7 => [.keep [0, 3, 5, 26, 55]]
  | 8 => [.keep [4]]
  | 9 => [.keep [0, 3, 5, 84]]
  | 10 => [.keep [0, 3, 5, 126]]
  | 11 => [.keep [4]]
  | 12 => [.keep [0, 3, 5, 6]]
  | 13 => [.keep [0, 3, 5, 6, 131]]
  | 14 => [.keep [0, 3, 5, 6]]
  | 15 => [.keep [0, 3, 5, 6, 157]]
  | 16 => [.keep [4]]
  | 17 => [.keep [4]]
  | 18 => [.keep [4]]
  | 100001 => [.keep []]
  | _ => []
@[reducible] def LP105_1 (tables : (List (TTable).D)) (b : (TBond).D) (m : Nat) (st_ : St) (K : X → St → Prop) : Prop := (True) ∧ LoopI (fun (i1 : Int) (v1 : Unit) => (⟨[(0, .data (Ty.sl TTable) tables), (3, .adr TBond b), (5, .data (Ty.sl TColumn) ((nth (t := TTable) tables b.2.1).1)), (6, .data (Ty.int .i64) i1)], []⟩ : St)) (0 : Int) (b.2.2.1.length : Int) (F.spec_BondOk_l1 tables b) (fun v1 : Unit => True) (outD (fun v1 : Unit => True → K (.exit 1) (⟨[], []⟩ : St)) (fun q1 : Unit => K .ret (⟨[(4, .data Ty.bool false)], []⟩ : St))) m st_
def L105 (tables : (List (TTable).D)) (b : (TBond).D) : Loops := fun id m st_ K => match id with
  | 1 => LP105_1 tables b m st_ K
  | _ => False
theorem vc105 (tables : (List (TTable).D)) (b : (TBond).D) (K : AV → Hp → Prop) : awp C105 (L105 tables b) ann105 (bodyOf Go.Proofs.Tryz.f105) ⟨argEnv 0 [.data (Ty.sl TTable) tables, .data TBond b], []⟩ (outK tab Go.Proofs.Tryz.f105.results.toList (hasBox []) (resK (.dat Ty.bool) K)) =
  ((Sm (Ty.sl TTable) tables) ∧ cond ((!(M.tablesOk tables)) == false) (cond (!(M.inR b.2.1 (0 : Int) (wrap64 ((tables.length : Int) - (1 : Int))))) (K (.data Ty.bool false) []) ((0 ≤ b.2.1) ∧ (b.2.1 < (tables.length : Int)) ∧ cond (decide (b.1 = (1 : Int))) ((Sm (Ty.sl TColumn) ((nth (t := TTable) tables b.2.1).1)) ∧ (Sm (Ty.sl (Ty.int .i64)) b.2.2.1) ∧ cond ((M.listOk ((nth (t := TTable) tables b.2.1).1) b.2.2.1) == true) (cond ((decide (b.2.2.2.1 = (0 : Int))) == true) (cond ((decide ((b.2.2.2.2.1.length : Int) = (0 : Int))) == true) (cond ((!b.2.2.2.2.2.1) == true) (K (.data Ty.bool (decide ((b.2.2.2.2.2.2.1.length : Int) = (0 : Int)))) []) (K (.data Ty.bool false) [])) (K (.data Ty.bool false) [])) (K (.data Ty.bool false) [])) (K (.data Ty.bool false) [])) (cond (decide (b.1 = (3 : Int))) ((Sm (Ty.sl TColumn) ((nth (t := TTable) tables b.2.1).1)) ∧ (Sm (Ty.sl TPart) b.2.2.2.2.2.2.1) ∧ cond ((decide ((M.exprKind ((nth (t := TTable) tables b.2.1).1) b.2.2.2.2.2.2.1) = (3 : Int))) == true) (cond ((decide ((b.2.2.1.length : Int) = (0 : Int))) == true) (cond ((decide (b.2.2.2.1 = (0 : Int))) == true) (cond ((decide ((b.2.2.2.2.1.length : Int) = (0 : Int))) == true) (K (.data Ty.bool (!b.2.2.2.2.2.1)) []) (K (.data Ty.bool false) [])) (K (.data Ty.bool false) [])) (K (.data Ty.bool false) [])) (K (.data Ty.bool false) [])) (cond (decide (b.1 = (2 : Int))) (cond ((!(M.inR b.2.2.2.1 (0 : Int) (wrap64 ((tables.length : Int) - (1 : Int))))) == false) ((Sm (Ty.sl TColumn) ((nth (t := TTable) tables b.2.1).1)) ∧ (Sm (Ty.sl (Ty.int .i64)) b.2.2.1) ∧ cond ((!(M.listOk ((nth (t := TTable) tables b.2.1).1) b.2.2.1)) == false) ((0 ≤ b.2.2.2.1) ∧ (b.2.2.2.1 < (tables.length : Int)) ∧ (Sm (Ty.sl TColumn) ((nth (t := TTable) tables b.2.2.2.1).1)) ∧ (Sm (Ty.sl (Ty.int .i64)) b.2.2.2.2.1) ∧ cond ((!(M.listOk ((nth (t := TTable) tables b.2.2.2.1).1) b.2.2.2.2.1)) == false) (cond ((!decide ((b.2.2.1.length : Int) = (b.2.2.2.2.1.length : Int))) == false) (cond (decide ((0 : Int) < (b.2.2.2.2.2.2.1.length : Int))) (K (.data Ty.bool false) []) ((∃ m_, (True) ∧ LoopI (fun (i1 : Int) (v1 : Unit) => (⟨[(0, .data (Ty.sl TTable) tables), (3, .adr TBond b), (5, .data (Ty.sl TColumn) ((nth (t := TTable) tables b.2.1).1)), (6, .data (Ty.int .i64) i1)], []⟩ : St)) (0 : Int) (b.2.2.1.length : Int) (F.spec_BondOk_l1 tables b) (fun v1 : Unit => True) (outD (fun v1 : Unit => True → K (.data Ty.bool true) []) (fun q1 : Unit => K (.data Ty.bool false) [])) m_ (⟨[(0, .data (Ty.sl TTable) tables), (3, .adr TBond b), (5, .data (Ty.sl TColumn) ((nth (t := TTable) tables b.2.1).1)), (6, .data (Ty.int .i64) (0 : Int))], []⟩ : St)))) (K (.data Ty.bool false) [])) (K (.data Ty.bool false) [])) (K (.data Ty.bool false) [])) (K (.data Ty.bool false) [])) (K (.data Ty.bool false) []))))) (K (.data Ty.bool false) [])) := by kernel_rfl
theorem lvc105_0 (tables : (List (TTable).D)) (b : (TBond).D)  (i1 : Int) (v1 : Unit) (m : Nat) (K : X → St → Prop) : awp C105 (L105 tables b) ann105 (loopAt (bodyOf Go.Proofs.Tryz.f105) 0) (⟨[(0, .data (Ty.sl TTable) tables), (3, .adr TBond b), (5, .data (Ty.sl TColumn) ((nth (t := TTable) tables b.2.1).1)), (6, .data (Ty.int .i64) i1)], []⟩ : St) (thenW (fun s' => ∃ m', m' < m ∧ (L105 tables b) 1 m' s' K) (exitN 1 (ann105 (behind 1)) K)) =
  (cond (decide (i1 < (b.2.2.1.length : Int))) ((0 ≤ i1) ∧ (i1 < (b.2.2.1.length : Int)) ∧ (0 ≤ (nth (t := (Ty.int .i64)) b.2.2.1 i1)) ∧ ((nth (t := (Ty.int .i64)) b.2.2.1 i1) < (((nth (t := TTable) tables b.2.1).1).length : Int)) ∧ (0 ≤ b.2.2.2.1) ∧ (b.2.2.2.1 < (tables.length : Int)) ∧ (0 ≤ i1) ∧ (i1 < (b.2.2.2.2.1.length : Int)) ∧ (0 ≤ (nth (t := (Ty.int .i64)) b.2.2.2.2.1 i1)) ∧ ((nth (t := (Ty.int .i64)) b.2.2.2.2.1 i1) < (((nth (t := TTable) tables b.2.2.2.1).1).length : Int)) ∧ cond (!decide ((nth (t := TColumn) ((nth (t := TTable) tables b.2.1).1) (nth (t := (Ty.int .i64)) b.2.2.1 i1)).1 = (nth (t := TColumn) ((nth (t := TTable) tables b.2.2.2.1).1) (nth (t := (Ty.int .i64)) b.2.2.2.2.1 i1)).1)) (K .ret (⟨[(4, .data Ty.bool false)], []⟩ : St)) ((∃ m_, m_ < m ∧ (L105 tables b) 1 m_ (⟨[(0, .data (Ty.sl TTable) tables), (3, .adr TBond b), (5, .data (Ty.sl TColumn) ((nth (t := TTable) tables b.2.1).1)), (6, .data (Ty.int .i64) (wrap64 (i1 + (1 : Int))))], []⟩ : St) K))) (K (.exit 1) (⟨[], []⟩ : St))) := by kernel_rfl
theorem con105_ok : ConOk P 105 c105 := by
  refine con_okR (fn := Go.Proofs.Tryz.f105) (code := bodyOf Go.Proofs.Tryz.f105) (tab_ok tab_check cmp_check) consOk105 mixed Go.Proofs.Tryz.func105 rfl rfl fun args hp K h0 => ?_
  obtain ⟨a0, a1, rfl, rfl, h1⟩ := args2_elim h0
  obtain ⟨tables, rfl, h2⟩ := withD_elim h1
  obtain ⟨b, rfl, h3⟩ := withD_elim h2
  obtain ⟨h_tables, h_b, hK⟩ := h3
  have h : ok (F.spec_BondOk tables b) (fun r => K (.data Ty.bool r) []) := ok_of_eq (F.spec_BondOk_eq tables b h_tables h_b) hK
  refine ⟨⟨show (2 : Nat) ≤ 158 by decide, show (2 : Nat) ≤ 1000000 by decide⟩, ann105, (L105 tables b), (.dat Ty.bool), (loopsN1 (i0 := 1) (by kernel_rfl) ?_), ?_⟩
  · clear h
    intro m_ s_ K_ h
    obtain ⟨hc1, i1, v1, rfl, hl1, rfl, hv1, h⟩ := (show LP105_1 tables b m_ s_ K_ from h)
    rw [lvc105_0 tables b i1 v1 _ K_]
    exact (loopI_step h (fun ht1 h => ⟨hl1, ⟨ht1, ⟨(ok_guard h).1, have g_41 := (ok_guard h).1; have h := (ok_guard h).2; ⟨(ok_guard h).1, have g_42 := (ok_guard h).1; have h := (ok_guard h).2; ⟨(ok_guard h).1, have g_43 := (ok_guard h).1; have h := (ok_guard h).2; ⟨(ok_guard h).1, have g_44 := (ok_guard h).1; have h := (ok_guard h).2; ⟨hl1, ⟨(ok_guard h).1, have g_45 := (ok_guard h).1; have h := (ok_guard h).2; ⟨(ok_guard h).1, have g_46 := (ok_guard h).1; have h := (ok_guard h).2; ⟨(ok_guard h).1, have g_47 := (ok_guard h).1; have h := (ok_guard h).2; (ok_cond h (fun b_48 h => (have h := ok_ret h; h)) (fun b_48 h => (loopI_next (fun m hm => (show LP105_1 tables b m _ _ from ⟨hc1, hm⟩)) () rfl hl1 low0 ht1 (sm_len h_b.2.2.1) trivial (have h := ok_ret h; h))))⟩⟩⟩⟩⟩⟩⟩⟩⟩⟩) (fun h => (h trivial)))
  · rw [vc105 tables b K]
    exact ⟨h_tables, (ok_cond h (fun b_1 h => (ok_cond h (fun b_2 h => (have h := ok_ret h; h)) (fun b_2 h => ⟨(inR_lo (bnf b_2)), ⟨(inR_hi (bnf b_2)), (ok_cond h (fun b_3 h => ⟨(sm_nth h_tables b.2.1).1, ⟨h_b.2.2.1, (ok_cond h (fun b_4 h => (ok_cond h (fun b_5 h => (ok_cond h (fun b_6 h => (ok_cond h (fun b_7 h => (have h := ok_ret h; h)) (fun b_7 h => (have h := ok_ret h; h)))) (fun b_6 h => (have h := ok_ret h; h)))) (fun b_5 h => (have h := ok_ret h; h)))) (fun b_4 h => (have h := ok_ret h; h)))⟩⟩) (fun b_3 h => (ok_cond h (fun b_8 h => ⟨(sm_nth h_tables b.2.1).1, ⟨h_b.2.2.2.2.2.2.1, (ok_cond h (fun b_9 h => (ok_cond h (fun b_10 h => (ok_cond h (fun b_11 h => (ok_cond h (fun b_12 h => (have h := ok_ret h; h)) (fun b_12 h => (have h := ok_ret h; h)))) (fun b_11 h => (have h := ok_ret h; h)))) (fun b_10 h => (have h := ok_ret h; h)))) (fun b_9 h => (have h := ok_ret h; h)))⟩⟩) (fun b_8 h => (ok_cond h (fun b_13 h => (ok_cond h (fun b_14 h => ⟨(sm_nth h_tables b.2.1).1, ⟨h_b.2.2.1, (ok_cond h (fun b_15 h => ⟨(inR_lo (bnf (bgt b_14))), ⟨(inR_hi (bnf (bgt b_14))), ⟨(sm_nth h_tables b.2.2.2.1).1, ⟨h_b.2.2.2.2.1, (ok_cond h (fun b_16 h => (ok_cond h (fun b_17 h => (ok_cond h (fun b_18 h => (have h := ok_ret h; h)) (fun b_18 h => (loopI_start (fun m hm => ⟨trivial, hm⟩) (0 : Int) () rfl (Int.natCast_nonneg 0) trivial (ok_then h (fun v1 h hv1 => (have h := ok_ret h; h)) (fun q1 h => (have h := ok_ret h; h))))))) (fun b_17 h => (have h := ok_ret h; h)))) (fun b_16 h => (have h := ok_ret h; h)))⟩⟩⟩⟩) (fun b_15 h => (have h := ok_ret h; h)))⟩⟩) (fun b_14 h => (have h := ok_ret h; h)))) (fun b_13 h => (have h := ok_ret h; h)))))))⟩⟩))) (fun b_1 h => (have h := ok_ret h; h)))⟩

/-! 96: loop.example/tablehouse/spec.ValueOf -/
def c96 : Con := ⟨[.dat (Ty.int .i64)], fun args hp K => args1 (fun a0 => withD (Ty.int .i64) a0 fun truth => (∀ r : (TValue).D, r = (M.valueOf truth) → K (.data TValue r) [])) args hp⟩
def cons96 : Cons := []
def inl96 : List (Nat × Inl) := []
@[reducible] def C96 : Ctx := ⟨tab, fun t => memN t cmps, cons96, 12, inl96, 0⟩
theorem consOk96 : ConsOk P C96 := by
  exact consOk_nil
def ann96 : Nat → List Dir
  | 0 => [.keep [0, 2]]
  | 1 => [.keep [0, 2, 8]]
  | 2 => [.keep [2]]
  | 3 => [.keep [2]]
  | _ => []
def L96 (truth : Int) : Loops := fun id m st_ K => match id with
  | _ => False
theorem vc96 (truth : Int) (K : AV → Hp → Prop) : awp C96 (L96 truth) ann96 (bodyOf Go.Proofs.Tryz.f96) ⟨argEnv 0 [.data (Ty.int .i64) truth], []⟩ (outK tab Go.Proofs.Tryz.f96.results.toList (hasBox []) (resK (.dat TValue) K)) =
  (cond ((decide (truth = (0 : Int))) == false) (cond (decide (truth = (1 : Int))) (K (.data TValue ((3 : Int), (truth, ((⟨#[]⟩ : ByteArray), ())))) []) (K (.data TValue ((0 : Int), ((0 : Int), ((⟨#[]⟩ : ByteArray), ())))) [])) (K (.data TValue ((3 : Int), (truth, ((⟨#[]⟩ : ByteArray), ())))) [])) := by kernel_rfl
theorem con96_ok : ConOk P 96 c96 := by
  refine con_okR (fn := Go.Proofs.Tryz.f96) (code := bodyOf Go.Proofs.Tryz.f96) (tab_ok tab_check cmp_check) consOk96 mixed Go.Proofs.Tryz.func96 rfl rfl fun args hp K h0 => ?_
  obtain ⟨a0, rfl, rfl, h1⟩ := args1_elim h0
  obtain ⟨truth, rfl, h2⟩ := withD_elim h1
  have hK := h2
  have h : ok (F.spec_ValueOf truth) (fun r => K (.data TValue r) []) := ok_of_eq (F.spec_ValueOf_eq truth) (hK _ rfl)
  refine ⟨⟨show (1 : Nat) ≤ 12 by decide, show (1 : Nat) ≤ 1000000 by decide⟩, ann96, (L96 truth), (.dat TValue), (no_loops (by kernel_rfl)), ?_⟩
  · rw [vc96 truth K]
    exact (ok_cond h (fun b_1 h => (ok_cond h (fun b_2 h => (have h := ok_ret h; h)) (fun b_2 h => (have h := ok_ret h; h)))) (fun b_1 h => (have h := ok_ret h; h)))

/-! 164: loop.example/tablehouse/spec.l4Sum -/
def c164 : Con := ⟨[.dat TValue, .dat TValue], fun args hp K => args2 (fun a0 a1 => withD TValue a0 fun a => withD TValue a1 fun b => (Sm TValue a) ∧ (Sm TValue b) ∧ (∀ r : (TValue).D, r = (M.sum a b) → K (.data TValue r) [])) args hp⟩
def cons164 : Cons := [(79, c79)]
def inl164 : List (Nat × Inl) := []
@[reducible] def C164 : Ctx := ⟨tab, fun t => memN t cmps, cons164, 27, inl164, 0⟩
theorem consOk164 : ConsOk P C164 := by
  refine consOk_cons (enter_ok (fn := Go.Proofs.Tryz.f79) Go.Proofs.Tryz.func79 (by kernel_rfl) rfl) con79_ok ?_
  exact consOk_nil
def ann164 : Nat → List Dir
  | 0 => [.fixRow 2 TValue, .fixRow 3 TValue, .keep [2, 3, 4]]
  | 1 => [.keep [2, 3, 4, 5]]
  | 2 => [.keep [4, 5, 23]]
  | 3 => [.keep [4]]
  | 4 => [.keep [4]]
  | _ => []
def L164 (a : (TValue).D) (b : (TValue).D) : Loops := fun id m st_ K => match id with
  | _ => False
theorem vc164 (a : (TValue).D) (b : (TValue).D) (K : AV → Hp → Prop) : awp C164 (L164 a b) ann164 (bodyOf Go.Proofs.Tryz.f164) ⟨argEnv 0 [.data TValue a, .data TValue b], []⟩ (outK tab Go.Proofs.Tryz.f164.results.toList (hasBox []) (resK (.dat TValue) K)) =
  (cond ((decide (a.1 = (0 : Int))) == false) (cond ((decide (b.1 = (0 : Int))) == false) (cond (!(M.inR (wrap64 (a.2.1 + b.2.1)) (-9999 : Int) (9999 : Int))) (K (.data TValue ((0 : Int), ((0 : Int), ((⟨#[]⟩ : ByteArray), ())))) []) (K (.data TValue ((1 : Int), (wrap64 (a.2.1 + b.2.1), ((⟨#[]⟩ : ByteArray), ())))) [])) (K (.data TValue ((0 : Int), ((0 : Int), ((⟨#[]⟩ : ByteArray), ())))) [])) (K (.data TValue ((0 : Int), ((0 : Int), ((⟨#[]⟩ : ByteArray), ())))) [])) := by kernel_rfl
theorem con164_ok : ConOk P 164 c164 := by
  refine con_okR (fn := Go.Proofs.Tryz.f164) (code := bodyOf Go.Proofs.Tryz.f164) (tab_ok tab_check cmp_check) consOk164 mixed Go.Proofs.Tryz.func164 rfl rfl fun args hp K h0 => ?_
  obtain ⟨a0, a1, rfl, rfl, h1⟩ := args2_elim h0
  obtain ⟨a, rfl, h2⟩ := withD_elim h1
  obtain ⟨b, rfl, h3⟩ := withD_elim h2
  obtain ⟨h_a, h_b, hK⟩ := h3
  have h : ok (F.spec_l4Sum a b) (fun r => K (.data TValue r) []) := ok_of_eq (F.spec_l4Sum_eq a b h_a h_b) (hK _ rfl)
  refine ⟨⟨show (2 : Nat) ≤ 27 by decide, show (2 : Nat) ≤ 1000000 by decide⟩, ann164, (L164 a b), (.dat TValue), (no_loops (by kernel_rfl)), ?_⟩
  · rw [vc164 a b K]
    exact (ok_cond h (fun b_1 h => (ok_cond h (fun b_2 h => (ok_cond h (fun b_3 h => (have h := ok_ret h; h)) (fun b_3 h => (have h := ok_ret h; h)))) (fun b_2 h => (have h := ok_ret h; h)))) (fun b_1 h => (have h := ok_ret h; h)))

/-! 170: loop.example/tablehouse/spec.l2Bool -/
def c170 : Con := ⟨[.dat Ty.bool], fun args hp K => args1 (fun a0 => withD Ty.bool a0 fun b => K (.data (Ty.int .i64) (M.bool b)) []) args hp⟩
def cons170 : Cons := []
def inl170 : List (Nat × Inl) := []
@[reducible] def C170 : Ctx := ⟨tab, fun t => memN t cmps, cons170, 4, inl170, 0⟩
theorem consOk170 : ConsOk P C170 := by
  exact consOk_nil
def ann170 : Nat → List Dir
  | 0 => [.keep [0]]
  | 1 => [.keep [3]]
  | 2 => [.keep [2]]
  | 3 => [.keep [2]]
  | _ => []
def L170 (b : Bool) : Loops := fun id m st_ K => match id with
  | _ => False
theorem vc170 (b : Bool) (K : AV → Hp → Prop) : awp C170 (L170 b) ann170 (bodyOf Go.Proofs.Tryz.f170) ⟨argEnv 0 [.data Ty.bool b], []⟩ (outK tab Go.Proofs.Tryz.f170.results.toList (hasBox []) (resK (.dat (Ty.int .i64)) K)) =
  (cond b (K (.data (Ty.int .i64) (1 : Int)) []) (K (.data (Ty.int .i64) (0 : Int)) [])) := by kernel_rfl
theorem con170_ok : ConOk P 170 c170 := by
  refine con_okR (fn := Go.Proofs.Tryz.f170) (code := bodyOf Go.Proofs.Tryz.f170) (tab_ok tab_check cmp_check) consOk170 mixed Go.Proofs.Tryz.func170 rfl rfl fun args hp K h0 => ?_
  obtain ⟨a0, rfl, rfl, h1⟩ := args1_elim h0
  obtain ⟨b, rfl, h2⟩ := withD_elim h1
  have hK := h2
  have h : ok (F.spec_l2Bool b) (fun r => K (.data (Ty.int .i64) r) []) := ok_of_eq (F.spec_l2Bool_eq b) hK
  refine ⟨⟨show (1 : Nat) ≤ 4 by decide, show (1 : Nat) ≤ 1000000 by decide⟩, ann170, (L170 b), (.dat (Ty.int .i64)), (no_loops (by kernel_rfl)), ?_⟩
  · rw [vc170 b K]
    exact (ok_cond h (fun b_1 h => (have h := ok_ret h; h)) (fun b_1 h => (have h := ok_ret h; h)))

/-! 217: loop.example/tablehouse/spec.l1Less -/
def c217 : Con := ⟨[.dat (Ty.int .i64), .dat (Ty.int .i64)], fun args hp K => args2 (fun a0 a1 => withD (Ty.int .i64) a0 fun a => withD (Ty.int .i64) a1 fun b => K (.data (Ty.int .i64) (M.less a b)) []) args hp⟩
def cons217 : Cons := []
def inl217 : List (Nat × Inl) := []
@[reducible] def C217 : Ctx := ⟨tab, fun t => memN t cmps, cons217, 8, inl217, 0⟩
theorem consOk217 : ConsOk P C217 := by
  exact consOk_nil
def ann217 : Nat → List Dir
  | 0 => [.keep [0, 1]]
  | 1 => [.keep [7]]
  | 2 => [.keep [4]]
  | 3 => [.keep [4]]
  | _ => []
def L217 (a : Int) (b : Int) : Loops := fun id m st_ K => match id with
  | _ => False
theorem vc217 (a : Int) (b : Int) (K : AV → Hp → Prop) : awp C217 (L217 a b) ann217 (bodyOf Go.Proofs.Tryz.f217) ⟨argEnv 0 [.data (Ty.int .i64) a, .data (Ty.int .i64) b], []⟩ (outK tab Go.Proofs.Tryz.f217.results.toList (hasBox []) (resK (.dat (Ty.int .i64)) K)) =
  (cond (decide (a < b)) (K (.data (Ty.int .i64) (1 : Int)) []) (K (.data (Ty.int .i64) (0 : Int)) [])) := by kernel_rfl
theorem con217_ok : ConOk P 217 c217 := by
  refine con_okR (fn := Go.Proofs.Tryz.f217) (code := bodyOf Go.Proofs.Tryz.f217) (tab_ok tab_check cmp_check) consOk217 mixed Go.Proofs.Tryz.func217 rfl rfl fun args hp K h0 => ?_
  obtain ⟨a0, a1, rfl, rfl, h1⟩ := args2_elim h0
  obtain ⟨a, rfl, h2⟩ := withD_elim h1
  obtain ⟨b, rfl, h3⟩ := withD_elim h2
  have hK := h3
  have h : ok (F.spec_l1Less a b) (fun r => K (.data (Ty.int .i64) r) []) := ok_of_eq (F.spec_l1Less_eq a b) hK
  refine ⟨⟨show (2 : Nat) ≤ 8 by decide, show (2 : Nat) ≤ 1000000 by decide⟩, ann217, (L217 a b), (.dat (Ty.int .i64)), (no_loops (by kernel_rfl)), ?_⟩
  · rw [vc217 a b K]
    exact (ok_cond h (fun b_1 h => (have h := ok_ret h; h)) (fun b_1 h => (have h := ok_ret h; h)))

/-! 218: loop.example/tablehouse/spec.l1Cmp -/
def c218 : Con := ⟨[.dat Ty.str, .dat Ty.str], fun args hp K => args2 (fun a0 a1 => withD Ty.str a0 fun a => withD Ty.str a1 fun b => (Sm Ty.str a) ∧ (Sm Ty.str b) ∧ K (.data (Ty.int .i64) (M.cmpS a b)) []) args hp⟩
def cons218 : Cons := []
def inl218 : List (Nat × Inl) := []
@[reducible] def C218 : Ctx := ⟨tab, fun t => memN t cmps, cons218, 11, inl218, 0⟩
theorem consOk218 : ConsOk P C218 := by
  exact consOk_nil
def ann218 : Nat → List Dir
  | 0 => [.keep [0, 1]]
  | 1 => [.keep [0, 1, 7]]
  | 2 => [.keep [4]]
  | 3 => [.keep [10]]
  | 4 => [.keep [4]]
  | 5 => [.keep [4]]
  | _ => []
def L218 (a : ByteArray) (b : ByteArray) : Loops := fun id m st_ K => match id with
  | _ => False
theorem vc218 (a : ByteArray) (b : ByteArray) (K : AV → Hp → Prop) : awp C218 (L218 a b) ann218 (bodyOf Go.Proofs.Tryz.f218) ⟨argEnv 0 [.data Ty.str a, .data Ty.str b], []⟩ (outK tab Go.Proofs.Tryz.f218.results.toList (hasBox []) (resK (.dat (Ty.int .i64)) K)) =
  (cond (Op.bytesLess a.toList b.toList) (K (.data (Ty.int .i64) (-1 : Int)) []) (cond (!(Op.bytesLess a.toList b.toList || decide (a = b))) (K (.data (Ty.int .i64) (1 : Int)) []) (K (.data (Ty.int .i64) (0 : Int)) []))) := by kernel_rfl
theorem con218_ok : ConOk P 218 c218 := by
  refine con_okR (fn := Go.Proofs.Tryz.f218) (code := bodyOf Go.Proofs.Tryz.f218) (tab_ok tab_check cmp_check) consOk218 mixed Go.Proofs.Tryz.func218 rfl rfl fun args hp K h0 => ?_
  obtain ⟨a0, a1, rfl, rfl, h1⟩ := args2_elim h0
  obtain ⟨a, rfl, h2⟩ := withD_elim h1
  obtain ⟨b, rfl, h3⟩ := withD_elim h2
  obtain ⟨h_a, h_b, hK⟩ := h3
  have h : ok (F.spec_l1Cmp a b) (fun r => K (.data (Ty.int .i64) r) []) := ok_of_eq (F.spec_l1Cmp_eq a b h_a h_b) hK
  refine ⟨⟨show (2 : Nat) ≤ 11 by decide, show (2 : Nat) ≤ 1000000 by decide⟩, ann218, (L218 a b), (.dat (Ty.int .i64)), (no_loops (by kernel_rfl)), ?_⟩
  · rw [vc218 a b K]
    exact (ok_cond h (fun b_1 h => (have h := ok_ret h; h)) (fun b_1 h => (ok_cond h (fun b_2 h => (have h := ok_ret h; h)) (fun b_2 h => (have h := ok_ret h; h)))))

/-! 204: loop.example/tablehouse/spec.ValueOrder -/
def c204 : Con := ⟨[.dat TValue, .dat TValue], fun args hp K => args2 (fun a0 a1 => withD TValue a0 fun a => withD TValue a1 fun b => (Sm TValue a) ∧ (Sm TValue b) ∧ K (.data (Ty.int .i64) (M.valueOrder a b)) []) args hp⟩
def cons204 : Cons := [(163, c163), (217, c217), (218, c218)]
def inl204 : List (Nat × Inl) := []
@[reducible] def C204 : Ctx := ⟨tab, fun t => memN t cmps, cons204, 44, inl204, 0⟩
theorem consOk204 : ConsOk P C204 := by
  refine consOk_cons (enter_ok (fn := Go.Proofs.Tryz.f163) Go.Proofs.Tryz.func163 (by kernel_rfl) rfl) con163_ok ?_
  refine consOk_cons (enter_ok (fn := Go.Proofs.Tryz.f217) Go.Proofs.Tryz.func217 (by kernel_rfl) rfl) con217_ok ?_
  refine consOk_cons (enter_ok (fn := Go.Proofs.Tryz.f218) Go.Proofs.Tryz.func218 (by kernel_rfl) rfl) con218_ok ?_
  exact consOk_nil
def ann204 : Nat → List Dir
  | 0 => [.fixRow 2 TValue, .fixRow 3 TValue, .keep [2, 3]]
  | 1 => [.keep [2, 3, 12]]
  | 2 => [.keep [4]]
  | 3 => [.keep [2, 3, 13]]
  | 4 => [.keep [4]]
  | 5 => [.keep [2, 3, 26]]
  | 6 => [.keep [4]]
  | 7 => [.keep [4]]
  | _ => []
def L204 (a : (TValue).D) (b : (TValue).D) : Loops := fun id m st_ K => match id with
  | _ => False
theorem vc204 (a : (TValue).D) (b : (TValue).D) (K : AV → Hp → Prop) : awp C204 (L204 a b) ann204 (bodyOf Go.Proofs.Tryz.f204) ⟨argEnv 0 [.data TValue a, .data TValue b], []⟩ (outK tab Go.Proofs.Tryz.f204.results.toList (hasBox []) (resK (.dat (Ty.int .i64)) K)) =
  ((Sm TValue a) ∧ cond ((!(M.valueOk a)) == false) ((Sm TValue b) ∧ cond (!(M.valueOk b)) (K (.data (Ty.int .i64) (0 : Int)) []) (cond (!decide (a.1 = b.1)) (K (.data (Ty.int .i64) (wrap64 (wrap64 ((2 : Int) * (M.less b.1 a.1)) - (1 : Int)))) []) (cond (!decide (a.2.1 = b.2.1)) (K (.data (Ty.int .i64) (wrap64 (wrap64 ((2 : Int) * (M.less b.2.1 a.2.1)) - (1 : Int)))) []) ((Sm Ty.str a.2.2.1) ∧ (Sm Ty.str b.2.2.1) ∧ K (.data (Ty.int .i64) (M.cmpS a.2.2.1 b.2.2.1)) [])))) (K (.data (Ty.int .i64) (0 : Int)) [])) := by kernel_rfl
theorem con204_ok : ConOk P 204 c204 := by
  refine con_okR (fn := Go.Proofs.Tryz.f204) (code := bodyOf Go.Proofs.Tryz.f204) (tab_ok tab_check cmp_check) consOk204 mixed Go.Proofs.Tryz.func204 rfl rfl fun args hp K h0 => ?_
  obtain ⟨a0, a1, rfl, rfl, h1⟩ := args2_elim h0
  obtain ⟨a, rfl, h2⟩ := withD_elim h1
  obtain ⟨b, rfl, h3⟩ := withD_elim h2
  obtain ⟨h_a, h_b, hK⟩ := h3
  have h : ok (F.spec_ValueOrder a b) (fun r => K (.data (Ty.int .i64) r) []) := ok_of_eq (F.spec_ValueOrder_eq a b h_a h_b) hK
  refine ⟨⟨show (2 : Nat) ≤ 44 by decide, show (2 : Nat) ≤ 1000000 by decide⟩, ann204, (L204 a b), (.dat (Ty.int .i64)), (no_loops (by kernel_rfl)), ?_⟩
  · rw [vc204 a b K]
    exact ⟨h_a, (ok_cond h (fun b_1 h => ⟨h_b, (ok_cond h (fun b_2 h => (have h := ok_ret h; h)) (fun b_2 h => (ok_cond h (fun b_3 h => (have h := ok_ret h; h)) (fun b_3 h => (ok_cond h (fun b_4 h => (have h := ok_ret h; h)) (fun b_4 h => ⟨h_a.2.2.1, ⟨h_b.2.2.1, (have h := ok_ret h; h)⟩⟩))))))⟩) (fun b_1 h => (have h := ok_ret h; h)))⟩

/-! 165: loop.example/tablehouse/spec.Compare -/
def c165 : Con := ⟨[.dat (Ty.int .i64), .dat TValue, .dat TValue], fun args hp K => args3 (fun a0 a1 a2 => withD (Ty.int .i64) a0 fun kind => withD TValue a1 fun a => withD TValue a2 fun b => (Sm TValue a) ∧ (Sm TValue b) ∧ K (.data (Ty.int .i64) (M.compare kind a b)) []) args hp⟩
def cons165 : Cons := [(79, c79), (163, c163), (170, c170), (204, c204)]
def inl165 : List (Nat × Inl) := []
@[reducible] def C165 : Ctx := ⟨tab, fun t => memN t cmps, cons165, 65, inl165, 0⟩
theorem consOk165 : ConsOk P C165 := by
  refine consOk_cons (enter_ok (fn := Go.Proofs.Tryz.f79) Go.Proofs.Tryz.func79 (by kernel_rfl) rfl) con79_ok ?_
  refine consOk_cons (enter_ok (fn := Go.Proofs.Tryz.f163) Go.Proofs.Tryz.func163 (by kernel_rfl) rfl) con163_ok ?_
  refine consOk_cons (enter_ok (fn := Go.Proofs.Tryz.f170) Go.Proofs.Tryz.func170 (by kernel_rfl) rfl) con170_ok ?_
  refine consOk_cons (enter_ok (fn := Go.Proofs.Tryz.f204) Go.Proofs.Tryz.func204 (by kernel_rfl) rfl) con204_ok ?_
  exact consOk_nil
def ann165 : Nat → List Dir
  | 0 => [.fixRow 4 TValue, .fixRow 5 TValue, .keep [0, 4, 5]]
  | 1 => [.keep [0, 4, 5, 7]]
  | 2 => [.keep [6]]
  | 3 => [.keep [0, 4, 5, 21]]
  | 4 => [.keep [6]]
  | 5 => [.keep [0, 4, 5, 30]]
  | 6 => [.keep [6]]
  | 7 => [.keep [0, 4, 5, 36]]
  | 8 => [.keep [6]]
  | 9 => [.keep [0, 4, 5, 44]]
  | 10 => [.keep [6]]
  | 11 => [.keep [4, 5, 52]]
  | 12 => [.keep [6]]
  | 13 => [.keep [6]]
  | _ => []
def L165 (kind : Int) (a : (TValue).D) (b : (TValue).D) : Loops := fun id m st_ K => match id with
  | _ => False
theorem vc165 (kind : Int) (a : (TValue).D) (b : (TValue).D) (K : AV → Hp → Prop) : awp C165 (L165 kind a b) ann165 (bodyOf Go.Proofs.Tryz.f165) ⟨argEnv 0 [.data (Ty.int .i64) kind, .data TValue a, .data TValue b], []⟩ (outK tab Go.Proofs.Tryz.f165.results.toList (hasBox []) (resK (.dat (Ty.int .i64)) K)) =
  (cond ((!(M.inR kind (1 : Int) (4 : Int))) == false) ((Sm TValue a) ∧ cond ((!(M.valueOk a)) == false) ((Sm TValue b) ∧ cond (!(M.valueOk b)) (K (.data (Ty.int .i64) (-1 : Int)) []) (cond ((decide (a.1 = (0 : Int))) == false) (cond (decide (b.1 = (0 : Int))) (K (.data (Ty.int .i64) (2 : Int)) []) (cond (!decide (a.1 = b.1)) (K (.data (Ty.int .i64) (-1 : Int)) []) (cond (decide (kind = (1 : Int))) ((Sm TValue a) ∧ (Sm TValue b) ∧ K (.data (Ty.int .i64) (M.bool (decide ((M.valueOrder a b) = (0 : Int))))) []) (cond (decide (kind = (2 : Int))) ((Sm TValue a) ∧ (Sm TValue b) ∧ K (.data (Ty.int .i64) (M.bool (!decide ((M.valueOrder a b) = (0 : Int))))) []) (cond (decide (kind = (3 : Int))) ((Sm TValue a) ∧ (Sm TValue b) ∧ K (.data (Ty.int .i64) (M.bool (decide ((M.valueOrder a b) < (0 : Int))))) []) ((Sm TValue a) ∧ (Sm TValue b) ∧ K (.data (Ty.int .i64) (M.bool (decide ((M.valueOrder a b) ≤ (0 : Int))))) [])))))) (K (.data (Ty.int .i64) (2 : Int)) []))) (K (.data (Ty.int .i64) (-1 : Int)) [])) (K (.data (Ty.int .i64) (-1 : Int)) [])) := by kernel_rfl
theorem con165_ok : ConOk P 165 c165 := by
  refine con_okR (fn := Go.Proofs.Tryz.f165) (code := bodyOf Go.Proofs.Tryz.f165) (tab_ok tab_check cmp_check) consOk165 mixed Go.Proofs.Tryz.func165 rfl rfl fun args hp K h0 => ?_
  obtain ⟨a0, a1, a2, rfl, rfl, h1⟩ := args3_elim h0
  obtain ⟨kind, rfl, h2⟩ := withD_elim h1
  obtain ⟨a, rfl, h3⟩ := withD_elim h2
  obtain ⟨b, rfl, h4⟩ := withD_elim h3
  obtain ⟨h_a, h_b, hK⟩ := h4
  have h : ok (F.spec_Compare kind a b) (fun r => K (.data (Ty.int .i64) r) []) := ok_of_eq (F.spec_Compare_eq kind a b h_a h_b) hK
  refine ⟨⟨show (3 : Nat) ≤ 65 by decide, show (3 : Nat) ≤ 1000000 by decide⟩, ann165, (L165 kind a b), (.dat (Ty.int .i64)), (no_loops (by kernel_rfl)), ?_⟩
  · rw [vc165 kind a b K]
    exact (ok_cond h (fun b_1 h => ⟨h_a, (ok_cond h (fun b_2 h => ⟨h_b, (ok_cond h (fun b_3 h => (have h := ok_ret h; h)) (fun b_3 h => (ok_cond h (fun b_4 h => (ok_cond h (fun b_5 h => (have h := ok_ret h; h)) (fun b_5 h => (ok_cond h (fun b_6 h => (have h := ok_ret h; h)) (fun b_6 h => (ok_cond h (fun b_7 h => ⟨h_a, ⟨h_b, (have h := ok_ret h; h)⟩⟩) (fun b_7 h => (ok_cond h (fun b_8 h => ⟨h_a, ⟨h_b, (have h := ok_ret h; h)⟩⟩) (fun b_8 h => (ok_cond h (fun b_9 h => ⟨h_a, ⟨h_b, (have h := ok_ret h; h)⟩⟩) (fun b_9 h => ⟨h_a, ⟨h_b, (have h := ok_ret h; h)⟩⟩))))))))))) (fun b_4 h => (have h := ok_ret h; h)))))⟩) (fun b_2 h => (have h := ok_ret h; h)))⟩) (fun b_1 h => (have h := ok_ret h; h)))

/-! 205: loop.example/tablehouse/spec.TruthOk -/
def c205 : Con := ⟨[.dat (Ty.int .i64)], fun args hp K => args1 (fun a0 => withD (Ty.int .i64) a0 fun n => K (.data Ty.bool (M.inR n 0 2)) []) args hp⟩
def cons205 : Cons := [(79, c79)]
def inl205 : List (Nat × Inl) := []
@[reducible] def C205 : Ctx := ⟨tab, fun t => memN t cmps, cons205, 5, inl205, 0⟩
theorem consOk205 : ConsOk P C205 := by
  refine consOk_cons (enter_ok (fn := Go.Proofs.Tryz.f79) Go.Proofs.Tryz.func79 (by kernel_rfl) rfl) con79_ok ?_
  exact consOk_nil
def ann205 : Nat → List Dir
  | 0 => [.keep [0]]
  | 1 => [.keep [2]]
  | _ => []
def L205 (n : Int) : Loops := fun id m st_ K => match id with
  | _ => False
theorem vc205 (n : Int) (K : AV → Hp → Prop) : awp C205 (L205 n) ann205 (bodyOf Go.Proofs.Tryz.f205) ⟨argEnv 0 [.data (Ty.int .i64) n], []⟩ (outK tab Go.Proofs.Tryz.f205.results.toList (hasBox []) (resK (.dat Ty.bool) K)) =
  (K (.data Ty.bool (M.inR n (0 : Int) (2 : Int))) []) := by kernel_rfl
theorem con205_ok : ConOk P 205 c205 := by
  refine con_okR (fn := Go.Proofs.Tryz.f205) (code := bodyOf Go.Proofs.Tryz.f205) (tab_ok tab_check cmp_check) consOk205 mixed Go.Proofs.Tryz.func205 rfl rfl fun args hp K h0 => ?_
  obtain ⟨a0, rfl, rfl, h1⟩ := args1_elim h0
  obtain ⟨n, rfl, h2⟩ := withD_elim h1
  have hK := h2
  have h : ok (F.spec_TruthOk n) (fun r => K (.data Ty.bool r) []) := ok_of_eq (F.spec_TruthOk_eq n) hK
  refine ⟨⟨show (1 : Nat) ≤ 5 by decide, show (1 : Nat) ≤ 1000000 by decide⟩, ann205, (L205 n), (.dat Ty.bool), (no_loops (by kernel_rfl)), ?_⟩
  · rw [vc205 n K]
    exact (have h := ok_ret h; h)

/-! 206: loop.example/tablehouse/spec.l2Sure -/
def c206 : Con := ⟨[.dat (Ty.int .i64)], fun args hp K => args1 (fun a0 => withD (Ty.int .i64) a0 fun n => (M.inR n 0 2 = true) ∧ K (.data (Ty.int .i64) (M.sure n)) []) args hp⟩
def cons206 : Cons := []
def inl206 : List (Nat × Inl) := []
@[reducible] def C206 : Ctx := ⟨tab, fun t => memN t cmps, cons206, 7, inl206, 0⟩
theorem consOk206 : ConsOk P C206 := by
  exact consOk_nil
def ann206 : Nat → List Dir
  | 0 => [.keep [0]]
  | 1 => [.keep [2]]
  | _ => []
def L206 (n : Int) : Loops := fun id m st_ K => match id with
  | _ => False
theorem vc206 (n : Int) (K : AV → Hp → Prop) : awp C206 (L206 n) ann206 (bodyOf Go.Proofs.Tryz.f206) ⟨argEnv 0 [.data (Ty.int .i64) n], []⟩ (outK tab Go.Proofs.Tryz.f206.results.toList (hasBox []) (resK (.dat (Ty.int .i64)) K)) =
  ((0 ≤ n) ∧ (n < ([(0 : Int), (2 : Int), (1 : Int)].length : Int)) ∧ K (.data (Ty.int .i64) (nth (t := (Ty.int .i64)) [(0 : Int), (2 : Int), (1 : Int)] n)) []) := by kernel_rfl
theorem con206_ok : ConOk P 206 c206 := by
  refine con_okR (fn := Go.Proofs.Tryz.f206) (code := bodyOf Go.Proofs.Tryz.f206) (tab_ok tab_check cmp_check) consOk206 mixed Go.Proofs.Tryz.func206 rfl rfl fun args hp K h0 => ?_
  obtain ⟨a0, rfl, rfl, h1⟩ := args1_elim h0
  obtain ⟨n, rfl, h2⟩ := withD_elim h1
  obtain ⟨p0, hK⟩ := h2
  have h : ok (F.spec_l2Sure n) (fun r => K (.data (Ty.int .i64) r) []) := ok_of_eq (F.spec_l2Sure_eq n p0) hK
  refine ⟨⟨show (1 : Nat) ≤ 7 by decide, show (1 : Nat) ≤ 1000000 by decide⟩, ann206, (L206 n), (.dat (Ty.int .i64)), (no_loops (by kernel_rfl)), ?_⟩
  · rw [vc206 n K]
    exact ⟨(ok_guard h).1, have g_1 := (ok_guard h).1; have h := (ok_guard h).2; ⟨(ok_guard h).1, have g_2 := (ok_guard h).1; have h := (ok_guard h).2; (have h := ok_ret h; h)⟩⟩

/-! 166: loop.example/tablehouse/spec.AndOf -/
def c166 : Con := ⟨[.dat (Ty.int .i64), .dat (Ty.int .i64)], fun args hp K => args2 (fun a0 a1 => withD (Ty.int .i64) a0 fun a => withD (Ty.int .i64) a1 fun b => K (.data (Ty.int .i64) (M.andOf a b)) []) args hp⟩
def cons166 : Cons := [(205, c205), (206, c206)]
def inl166 : List (Nat × Inl) := []
@[reducible] def C166 : Ctx := ⟨tab, fun t => memN t cmps, cons166, 19, inl166, 0⟩
theorem consOk166 : ConsOk P C166 := by
  refine consOk_cons (enter_ok (fn := Go.Proofs.Tryz.f205) Go.Proofs.Tryz.func205 (by kernel_rfl) rfl) con205_ok ?_
  refine consOk_cons (enter_ok (fn := Go.Proofs.Tryz.f206) Go.Proofs.Tryz.func206 (by kernel_rfl) rfl) con206_ok ?_
  exact consOk_nil
def ann166 : Nat → List Dir
  | 0 => [.keep [0, 1]]
  | 1 => [.keep [0, 1, 12]]
  | 2 => [.keep [4]]
  | 3 => [.keep [4]]
  | _ => []
def L166 (a : Int) (b : Int) : Loops := fun id m st_ K => match id with
  | _ => False
theorem vc166 (a : Int) (b : Int) (K : AV → Hp → Prop) : awp C166 (L166 a b) ann166 (bodyOf Go.Proofs.Tryz.f166) ⟨argEnv 0 [.data (Ty.int .i64) a, .data (Ty.int .i64) b], []⟩ (outK tab Go.Proofs.Tryz.f166.results.toList (hasBox []) (resK (.dat (Ty.int .i64)) K)) =
  (cond ((!(M.inR a 0 2)) == false) (cond (!(M.inR b 0 2)) (K (.data (Ty.int .i64) (-1 : Int)) []) ((M.inR a 0 2 = true) ∧ (M.inR b 0 2 = true) ∧ (M.inR (minI (M.sure a) (M.sure b)) 0 2 = true) ∧ K (.data (Ty.int .i64) (M.sure (minI (M.sure a) (M.sure b)))) [])) (K (.data (Ty.int .i64) (-1 : Int)) [])) := by kernel_rfl
theorem con166_ok : ConOk P 166 c166 := by
  refine con_okR (fn := Go.Proofs.Tryz.f166) (code := bodyOf Go.Proofs.Tryz.f166) (tab_ok tab_check cmp_check) consOk166 mixed Go.Proofs.Tryz.func166 rfl rfl fun args hp K h0 => ?_
  obtain ⟨a0, a1, rfl, rfl, h1⟩ := args2_elim h0
  obtain ⟨a, rfl, h2⟩ := withD_elim h1
  obtain ⟨b, rfl, h3⟩ := withD_elim h2
  have hK := h3
  have h : ok (F.spec_AndOf a b) (fun r => K (.data (Ty.int .i64) r) []) := ok_of_eq (F.spec_AndOf_eq a b) hK
  refine ⟨⟨show (2 : Nat) ≤ 19 by decide, show (2 : Nat) ≤ 1000000 by decide⟩, ann166, (L166 a b), (.dat (Ty.int .i64)), (no_loops (by kernel_rfl)), ?_⟩
  · rw [vc166 a b K]
    exact (ok_cond h (fun b_1 h => (ok_cond h (fun b_2 h => (have h := ok_ret h; h)) (fun b_2 h => ⟨(bnf (bgt b_1)), ⟨(bnf b_2), ⟨(ok_guard h).1, have g_3 := (ok_guard h).1; have h := (ok_guard h).2; (have h := ok_ret h; h)⟩⟩⟩))) (fun b_1 h => (have h := ok_ret h; h)))

/-! 167: loop.example/tablehouse/spec.TruthOf -/
def c167 : Con := ⟨[.dat TValue], fun args hp K => args1 (fun a0 => withD TValue a0 fun v => (Sm TValue v) ∧ K (.data (Ty.int .i64) (M.truthOf v)) []) args hp⟩
def cons167 : Cons := [(163, c163)]
def inl167 : List (Nat × Inl) := []
@[reducible] def C167 : Ctx := ⟨tab, fun t => memN t cmps, cons167, 23, inl167, 0⟩
theorem consOk167 : ConsOk P C167 := by
  refine consOk_cons (enter_ok (fn := Go.Proofs.Tryz.f163) Go.Proofs.Tryz.func163 (by kernel_rfl) rfl) con163_ok ?_
  exact consOk_nil
def ann167 : Nat → List Dir
  | 0 => [.fixRow 1 TValue, .keep [1]]
  | 1 => [.keep [1, 3]]
  | 2 => [.keep [2]]
  | 3 => [.keep [1, 17]]
  | 4 => [.keep [2]]
  | 5 => [.keep [2]]
  | _ => []
def L167 (v : (TValue).D) : Loops := fun id m st_ K => match id with
  | _ => False
theorem vc167 (v : (TValue).D) (K : AV → Hp → Prop) : awp C167 (L167 v) ann167 (bodyOf Go.Proofs.Tryz.f167) ⟨argEnv 0 [.data TValue v], []⟩ (outK tab Go.Proofs.Tryz.f167.results.toList (hasBox []) (resK (.dat (Ty.int .i64)) K)) =
  ((Sm TValue v) ∧ cond ((!(M.valueOk v)) == false) (cond ((decide (v.1 = (1 : Int))) == false) (cond (decide (v.1 = (2 : Int))) (K (.data (Ty.int .i64) (-1 : Int)) []) (cond (decide (v.1 = (0 : Int))) (K (.data (Ty.int .i64) (2 : Int)) []) (K (.data (Ty.int .i64) v.2.1) []))) (K (.data (Ty.int .i64) (-1 : Int)) [])) (K (.data (Ty.int .i64) (-1 : Int)) [])) := by kernel_rfl
theorem con167_ok : ConOk P 167 c167 := by
  refine con_okR (fn := Go.Proofs.Tryz.f167) (code := bodyOf Go.Proofs.Tryz.f167) (tab_ok tab_check cmp_check) consOk167 mixed Go.Proofs.Tryz.func167 rfl rfl fun args hp K h0 => ?_
  obtain ⟨a0, rfl, rfl, h1⟩ := args1_elim h0
  obtain ⟨v, rfl, h2⟩ := withD_elim h1
  obtain ⟨h_v, hK⟩ := h2
  have h : ok (F.spec_TruthOf v) (fun r => K (.data (Ty.int .i64) r) []) := ok_of_eq (F.spec_TruthOf_eq v h_v) hK
  refine ⟨⟨show (1 : Nat) ≤ 23 by decide, show (1 : Nat) ≤ 1000000 by decide⟩, ann167, (L167 v), (.dat (Ty.int .i64)), (no_loops (by kernel_rfl)), ?_⟩
  · rw [vc167 v K]
    exact ⟨h_v, (ok_cond h (fun b_1 h => (ok_cond h (fun b_2 h => (ok_cond h (fun b_3 h => (have h := ok_ret h; h)) (fun b_3 h => (ok_cond h (fun b_4 h => (have h := ok_ret h; h)) (fun b_4 h => (have h := ok_ret h; h)))))) (fun b_2 h => (have h := ok_ret h; h)))) (fun b_1 h => (have h := ok_ret h; h)))⟩

/-! 168: loop.example/tablehouse/spec.OrOf -/
def c168 : Con := ⟨[.dat (Ty.int .i64), .dat (Ty.int .i64)], fun args hp K => args2 (fun a0 a1 => withD (Ty.int .i64) a0 fun a => withD (Ty.int .i64) a1 fun b => K (.data (Ty.int .i64) (M.orOf a b)) []) args hp⟩
def cons168 : Cons := [(205, c205), (206, c206)]
def inl168 : List (Nat × Inl) := []
@[reducible] def C168 : Ctx := ⟨tab, fun t => memN t cmps, cons168, 19, inl168, 0⟩
theorem consOk168 : ConsOk P C168 := by
  refine consOk_cons (enter_ok (fn := Go.Proofs.Tryz.f205) Go.Proofs.Tryz.func205 (by kernel_rfl) rfl) con205_ok ?_
  refine consOk_cons (enter_ok (fn := Go.Proofs.Tryz.f206) Go.Proofs.Tryz.func206 (by kernel_rfl) rfl) con206_ok ?_
  exact consOk_nil
def ann168 : Nat → List Dir
  | 0 => [.keep [0, 1]]
  | 1 => [.keep [0, 1, 12]]
  | 2 => [.keep [4]]
  | 3 => [.keep [4]]
  | _ => []
def L168 (a : Int) (b : Int) : Loops := fun id m st_ K => match id with
  | _ => False
theorem vc168 (a : Int) (b : Int) (K : AV → Hp → Prop) : awp C168 (L168 a b) ann168 (bodyOf Go.Proofs.Tryz.f168) ⟨argEnv 0 [.data (Ty.int .i64) a, .data (Ty.int .i64) b], []⟩ (outK tab Go.Proofs.Tryz.f168.results.toList (hasBox []) (resK (.dat (Ty.int .i64)) K)) =
  (cond ((!(M.inR a 0 2)) == false) (cond (!(M.inR b 0 2)) (K (.data (Ty.int .i64) (-1 : Int)) []) ((M.inR a 0 2 = true) ∧ (M.inR b 0 2 = true) ∧ (M.inR (maxI (M.sure a) (M.sure b)) 0 2 = true) ∧ K (.data (Ty.int .i64) (M.sure (maxI (M.sure a) (M.sure b)))) [])) (K (.data (Ty.int .i64) (-1 : Int)) [])) := by kernel_rfl
theorem con168_ok : ConOk P 168 c168 := by
  refine con_okR (fn := Go.Proofs.Tryz.f168) (code := bodyOf Go.Proofs.Tryz.f168) (tab_ok tab_check cmp_check) consOk168 mixed Go.Proofs.Tryz.func168 rfl rfl fun args hp K h0 => ?_
  obtain ⟨a0, a1, rfl, rfl, h1⟩ := args2_elim h0
  obtain ⟨a, rfl, h2⟩ := withD_elim h1
  obtain ⟨b, rfl, h3⟩ := withD_elim h2
  have hK := h3
  have h : ok (F.spec_OrOf a b) (fun r => K (.data (Ty.int .i64) r) []) := ok_of_eq (F.spec_OrOf_eq a b) hK
  refine ⟨⟨show (2 : Nat) ≤ 19 by decide, show (2 : Nat) ≤ 1000000 by decide⟩, ann168, (L168 a b), (.dat (Ty.int .i64)), (no_loops (by kernel_rfl)), ?_⟩
  · rw [vc168 a b K]
    exact (ok_cond h (fun b_1 h => (ok_cond h (fun b_2 h => (have h := ok_ret h; h)) (fun b_2 h => ⟨(bnf (bgt b_1)), ⟨(bnf b_2), ⟨(ok_guard h).1, have g_3 := (ok_guard h).1; have h := (ok_guard h).2; (have h := ok_ret h; h)⟩⟩⟩))) (fun b_1 h => (have h := ok_ret h; h)))

/-! 169: loop.example/tablehouse/spec.NotOf -/
def c169 : Con := ⟨[.dat (Ty.int .i64)], fun args hp K => args1 (fun a0 => withD (Ty.int .i64) a0 fun a => K (.data (Ty.int .i64) (M.notOf a)) []) args hp⟩
def cons169 : Cons := [(205, c205), (206, c206)]
def inl169 : List (Nat × Inl) := []
@[reducible] def C169 : Ctx := ⟨tab, fun t => memN t cmps, cons169, 10, inl169, 0⟩
theorem consOk169 : ConsOk P C169 := by
  refine consOk_cons (enter_ok (fn := Go.Proofs.Tryz.f205) Go.Proofs.Tryz.func205 (by kernel_rfl) rfl) con205_ok ?_
  refine consOk_cons (enter_ok (fn := Go.Proofs.Tryz.f206) Go.Proofs.Tryz.func206 (by kernel_rfl) rfl) con206_ok ?_
  exact consOk_nil
def ann169 : Nat → List Dir
  | 0 => [.keep [0]]
  | 1 => [.keep [0, 5]]
  | 2 => [.keep [2]]
  | 3 => [.keep [2]]
  | _ => []
def L169 (a : Int) : Loops := fun id m st_ K => match id with
  | _ => False
theorem vc169 (a : Int) (K : AV → Hp → Prop) : awp C169 (L169 a) ann169 (bodyOf Go.Proofs.Tryz.f169) ⟨argEnv 0 [.data (Ty.int .i64) a], []⟩ (outK tab Go.Proofs.Tryz.f169.results.toList (hasBox []) (resK (.dat (Ty.int .i64)) K)) =
  (cond (!(M.inR a 0 2)) (K (.data (Ty.int .i64) (-1 : Int)) []) ((M.inR a 0 2 = true) ∧ (M.inR (wrap64 ((2 : Int) - (M.sure a))) 0 2 = true) ∧ K (.data (Ty.int .i64) (M.sure (wrap64 ((2 : Int) - (M.sure a))))) [])) := by kernel_rfl
theorem con169_ok : ConOk P 169 c169 := by
  refine con_okR (fn := Go.Proofs.Tryz.f169) (code := bodyOf Go.Proofs.Tryz.f169) (tab_ok tab_check cmp_check) consOk169 mixed Go.Proofs.Tryz.func169 rfl rfl fun args hp K h0 => ?_
  obtain ⟨a0, rfl, rfl, h1⟩ := args1_elim h0
  obtain ⟨a, rfl, h2⟩ := withD_elim h1
  have hK := h2
  have h : ok (F.spec_NotOf a) (fun r => K (.data (Ty.int .i64) r) []) := ok_of_eq (F.spec_NotOf_eq a) hK
  refine ⟨⟨show (1 : Nat) ≤ 10 by decide, show (1 : Nat) ≤ 1000000 by decide⟩, ann169, (L169 a), (.dat (Ty.int .i64)), (no_loops (by kernel_rfl)), ?_⟩
  · rw [vc169 a K]
    exact (ok_cond h (fun b_1 h => (have h := ok_ret h; h)) (fun b_1 h => ⟨(bnf b_1), ⟨(ok_guard h).1, have g_2 := (ok_guard h).1; have h := (ok_guard h).2; (have h := ok_ret h; h)⟩⟩))

/-! 130: loop.example/tablehouse/spec.l4Do, in place -/
def cons130 : Cons := [(96, c96), (164, c164), (165, c165), (166, c166), (167, c167), (168, c168), (169, c169), (170, c170)]
@[reducible] def C130 : Ctx := ⟨tab, fun t => memN t cmps, cons130, 145, [], 200000⟩
theorem consOk130 : ConsOk P C130 := by
  refine consOk_cons (enter_ok (fn := Go.Proofs.Tryz.f96) Go.Proofs.Tryz.func96 (by kernel_rfl) rfl) con96_ok ?_
  refine consOk_cons (enter_ok (fn := Go.Proofs.Tryz.f164) Go.Proofs.Tryz.func164 (by kernel_rfl) rfl) con164_ok ?_
  refine consOk_cons (enter_ok (fn := Go.Proofs.Tryz.f165) Go.Proofs.Tryz.func165 (by kernel_rfl) rfl) con165_ok ?_
  refine consOk_cons (enter_ok (fn := Go.Proofs.Tryz.f166) Go.Proofs.Tryz.func166 (by kernel_rfl) rfl) con166_ok ?_
  refine consOk_cons (enter_ok (fn := Go.Proofs.Tryz.f167) Go.Proofs.Tryz.func167 (by kernel_rfl) rfl) con167_ok ?_
  refine consOk_cons (enter_ok (fn := Go.Proofs.Tryz.f168) Go.Proofs.Tryz.func168 (by kernel_rfl) rfl) con168_ok ?_
  refine consOk_cons (enter_ok (fn := Go.Proofs.Tryz.f169) Go.Proofs.Tryz.func169 (by kernel_rfl) rfl) con169_ok ?_
  refine consOk_cons (enter_ok (fn := Go.Proofs.Tryz.f170) Go.Proofs.Tryz.func170 (by kernel_rfl) rfl) con170_ok ?_
  exact consOk_nil
def T130 : Inl := inlT C130 (fun _ => []) (bodyOf Go.Proofs.Tryz.f130) Go.Proofs.Tryz.f130.results.toList
theorem inlOk130 : InlOk P 130 T130 := inl_ok (fn := Go.Proofs.Tryz.f130) (code := bodyOf Go.Proofs.Tryz.f130) (tab_ok tab_check cmp_check) consOk130 mixed Go.Proofs.Tryz.func130 rfl rfl (by kernel_rfl)

/-! 95: loop.example/tablehouse/spec.l4Value -/
def c95 : Con := ⟨[.dat (Ty.sl TValue), .dat (Ty.sl TPart)], fun args hp K => args2 (fun a0 a1 => withD (Ty.sl TValue) a0 fun row => withD (Ty.sl TPart) a1 fun e => (Sm (Ty.sl TValue) row) ∧ (Sm (Ty.sl TPart) e) ∧ (M.exprSafe row.length e) ∧ (∀ r : (TValue).D, r = (M.exprValue row e) → K (.data TValue r) [])) args hp⟩
def cons95 : Cons := []
def inl95 : List (Nat × Inl) := [(130, T130)]
@[reducible] def C95 : Ctx := ⟨tab, fun t => memN t cmps, cons95, 24, inl95, 0⟩
theorem consOk95 : ConsOk P C95 := by
  refine consOk_inl (enter_ok (fn := Go.Proofs.Tryz.f130) Go.Proofs.Tryz.func130 (by kernel_rfl) rfl) inlOk130 ?_
  exact consOk_nil
def ann95 : Nat → List Dir
  | 0 => [.keep [0, 1, 4]]
  | 1 => [.keep [0, 1, 4, 5]]
  | 2 => [.keep [0, 1, 4, 5, 6]]
  | 3 => [.keep [0, 1, 4, 5, 6, 11]]
  | 4 => [.keep [0, 1, 4, 5, 6]]
  | 5 => [.keep [0, 1, 4, 5, 6]]
  | 6 => [.keep [4]]
  | 100000 => [.keep [4, 5]]
  | _ => []
@[reducible] def LP95_0 (row : (List (TValue).D)) (e : (List (TPart).D)) (m : Nat) (st_ : St) (K : X → St → Prop) : Prop := (True) ∧ LoopE (t := TPart) (fun (i0 : Int) (v0 : (List (TValue).D)) => (⟨[(0, .data (Ty.sl TValue) row), (1, .data (Ty.sl TPart) e), (4, .ptr 4 0), (5, .own 7 none), (6, .data (Ty.int .i64) i0)], [(4, .box [.data (Ty.int .i64) (0 : Int), .data (Ty.int .i64) (0 : Int), .data Ty.str (⟨#[]⟩ : ByteArray)]), (7, .arr TValue v0)]⟩ : St)) e (F.spec_l4Value_l0 row e) (fun v0 : (List (TValue).D) => True) (outD (fun v0 : (List (TValue).D) => True → K (.exit 0) (⟨[(4, .ptr 4 0), (5, .own 7 none)], [(4, .box [.data (Ty.int .i64) (0 : Int), .data (Ty.int .i64) (0 : Int), .data Ty.str (⟨#[]⟩ : ByteArray)]), (7, .arr TValue v0)]⟩ : St)) (fun _ => False)) m st_
def L95 (row : (List (TValue).D)) (e : (List (TPart).D)) : Loops := fun id m st_ K => match id with
  | 0 => LP95_0 row e m st_ K
  | _ => False
theorem vc95 (row : (List (TValue).D)) (e : (List (TPart).D)) (K : AV → Hp → Prop) : awp C95 (L95 row e) ann95 (bodyOf Go.Proofs.Tryz.f95) ⟨argEnv 0 [.data (Ty.sl TValue) row, .data (Ty.sl TPart) e], []⟩ (outK tab Go.Proofs.Tryz.f95.results.toList (hasBox []) (resK (.dat TValue) K)) =
  ((∃ m_, (True) ∧ LoopE (t := TPart) (fun (i0 : Int) (v0 : (List (TValue).D)) => (⟨[(0, .data (Ty.sl TValue) row), (1, .data (Ty.sl TPart) e), (4, .ptr 4 0), (5, .own 7 none), (6, .data (Ty.int .i64) i0)], [(4, .box [.data (Ty.int .i64) (0 : Int), .data (Ty.int .i64) (0 : Int), .data Ty.str (⟨#[]⟩ : ByteArray)]), (7, .arr TValue v0)]⟩ : St)) e (F.spec_l4Value_l0 row e) (fun v0 : (List (TValue).D) => True) (outD (fun v0 : (List (TValue).D) => True → (0 ≤ (0 : Int)) ∧ ((0 : Int) < (v0.length : Int)) ∧ K (.data TValue (nth (t := TValue) v0 (0 : Int))) []) (fun _ => False)) m_ (⟨[(0, .data (Ty.sl TValue) row), (1, .data (Ty.sl TPart) e), (4, .ptr 4 0), (5, .own 7 none), (6, .data (Ty.int .i64) (0 : Int))], [(4, .box [.data (Ty.int .i64) (0 : Int), .data (Ty.int .i64) (0 : Int), .data Ty.str (⟨#[]⟩ : ByteArray)]), (7, .arr TValue [])]⟩ : St))) := by kernel_rfl
theorem lvc95_0 (row : (List (TValue).D)) (e : (List (TPart).D))  (i0 : Int) (v0 : (List (TValue).D)) (m : Nat) (K : X → St → Prop) : awp C95 (L95 row e) ann95 (loopAt (bodyOf Go.Proofs.Tryz.f95) 0) (⟨[(0, .data (Ty.sl TValue) row), (1, .data (Ty.sl TPart) e), (4, .ptr 4 0), (5, .own 7 none), (6, .data (Ty.int .i64) i0)], [(4, .box [.data (Ty.int .i64) (0 : Int), .data (Ty.int .i64) (0 : Int), .data Ty.str (⟨#[]⟩ : ByteArray)]), (7, .arr TValue v0)]⟩ : St) (thenW (fun s' => ∃ m', m' < m ∧ (L95 row e) 0 m' s' K) (exitN 0 (ann95 (behind 0)) K)) =
  (cond (decide (i0 < (e.length : Int))) ((0 ≤ i0) ∧ (i0 < (e.length : Int)) ∧ cond (decide ((nth (t := TPart) e i0).1 = (1 : Int))) (((v0.length + [(((nth (t := TPart) e i0).2).2).1].length) * 32 ≤ lim) ∧ (∃ m_, m_ < m ∧ (L95 row e) 0 m_ (⟨[(0, .data (Ty.sl TValue) row), (1, .data (Ty.sl TPart) e), (4, .ptr 4 0), (5, .own 7 none), (6, .data (Ty.int .i64) (wrap64 (i0 + (1 : Int))))], [(4, .box [.data (Ty.int .i64) (0 : Int), .data (Ty.int .i64) (0 : Int), .data Ty.str (⟨#[]⟩ : ByteArray)]), (7, .arr TValue (v0 ++ [(((nth (t := TPart) e i0).2).2).1]))]⟩ : St) K)) (cond (decide ((nth (t := TPart) e i0).1 = (2 : Int))) ((0 ≤ ((nth (t := TPart) e i0).2).1) ∧ (((nth (t := TPart) e i0).2).1 < (row.length : Int)) ∧ ((v0.length + [(nth (t := TValue) row (((nth (t := TPart) e i0).2).1))].length) * 32 ≤ lim) ∧ (∃ m_, m_ < m ∧ (L95 row e) 0 m_ (⟨[(0, .data (Ty.sl TValue) row), (1, .data (Ty.sl TPart) e), (4, .ptr 4 0), (5, .own 7 none), (6, .data (Ty.int .i64) (wrap64 (i0 + (1 : Int))))], [(4, .box [.data (Ty.int .i64) (0 : Int), .data (Ty.int .i64) (0 : Int), .data Ty.str (⟨#[]⟩ : ByteArray)]), (7, .arr TValue (v0 ++ [(nth (t := TValue) row (((nth (t := TPart) e i0).2).1))]))]⟩ : St) K)) (cond (decide ((nth (t := TPart) e i0).1 = (3 : Int))) ((0 ≤ (0 : Int)) ∧ ((0 : Int) ≤ wrap64 ((v0.length : Int) - (2 : Int))) ∧ (wrap64 ((v0.length : Int) - (2 : Int)) ≤ (v0.length : Int)) ∧ (wrap64 ((v0.length : Int) - (2 : Int)) = wrap64 ((v0.length : Int) - (2 : Int))) ∧ (0 ≤ wrap64 ((v0.length : Int) - (2 : Int))) ∧ (wrap64 ((v0.length : Int) - (2 : Int)) < (v0.length : Int)) ∧ (0 ≤ wrap64 ((v0.length : Int) - (1 : Int))) ∧ (wrap64 ((v0.length : Int) - (1 : Int)) < (v0.length : Int)) ∧ (Sm TValue (nth (t := TValue) v0 (wrap64 ((v0.length : Int) - (2 : Int))))) ∧ (Sm TValue (nth (t := TValue) v0 (wrap64 ((v0.length : Int) - (1 : Int))))) ∧ (∀ r_1008_14 : (TValue).D, r_1008_14 = (M.sum (nth (t := TValue) v0 (wrap64 ((v0.length : Int) - (2 : Int)))) (nth (t := TValue) v0 (wrap64 ((v0.length : Int) - (1 : Int))))) → ((0 : Int) = 0) ∧ (((wrap64 ((v0.length : Int) - (2 : Int))).toNat + [r_1008_14].length) * 32 ≤ lim) ∧ (∃ m_, m_ < m ∧ (L95 row e) 0 m_ (⟨[(0, .data (Ty.sl TValue) row), (1, .data (Ty.sl TPart) e), (4, .ptr 4 0), (5, .own 7 none), (6, .data (Ty.int .i64) (wrap64 (i0 + (1 : Int))))], [(4, .box [.data (Ty.int .i64) (0 : Int), .data (Ty.int .i64) (0 : Int), .data Ty.str (⟨#[]⟩ : ByteArray)]), (7, .arr TValue (v0.take (wrap64 ((v0.length : Int) - (2 : Int))).toNat ++ [r_1008_14]))]⟩ : St) K))) (cond (decide ((nth (t := TPart) e i0).1 = (4 : Int))) ((0 ≤ (0 : Int)) ∧ ((0 : Int) ≤ wrap64 ((v0.length : Int) - (2 : Int))) ∧ (wrap64 ((v0.length : Int) - (2 : Int)) ≤ (v0.length : Int)) ∧ (wrap64 ((v0.length : Int) - (2 : Int)) = wrap64 ((v0.length : Int) - (2 : Int))) ∧ (0 ≤ wrap64 ((v0.length : Int) - (2 : Int))) ∧ (wrap64 ((v0.length : Int) - (2 : Int)) < (v0.length : Int)) ∧ (0 ≤ wrap64 ((v0.length : Int) - (1 : Int))) ∧ (wrap64 ((v0.length : Int) - (1 : Int)) < (v0.length : Int)) ∧ (Sm TValue (nth (t := TValue) v0 (wrap64 ((v0.length : Int) - (2 : Int))))) ∧ (Sm TValue (nth (t := TValue) v0 (wrap64 ((v0.length : Int) - (1 : Int))))) ∧ (∀ r_1010_17 : (TValue).D, r_1010_17 = (M.valueOf (M.compare (((nth (t := TPart) e i0).2).1) (nth (t := TValue) v0 (wrap64 ((v0.length : Int) - (2 : Int)))) (nth (t := TValue) v0 (wrap64 ((v0.length : Int) - (1 : Int)))))) → ((0 : Int) = 0) ∧ (((wrap64 ((v0.length : Int) - (2 : Int))).toNat + [r_1010_17].length) * 32 ≤ lim) ∧ (∃ m_, m_ < m ∧ (L95 row e) 0 m_ (⟨[(0, .data (Ty.sl TValue) row), (1, .data (Ty.sl TPart) e), (4, .ptr 4 0), (5, .own 7 none), (6, .data (Ty.int .i64) (wrap64 (i0 + (1 : Int))))], [(4, .box [.data (Ty.int .i64) (0 : Int), .data (Ty.int .i64) (0 : Int), .data Ty.str (⟨#[]⟩ : ByteArray)]), (7, .arr TValue (v0.take (wrap64 ((v0.length : Int) - (2 : Int))).toNat ++ [r_1010_17]))]⟩ : St) K))) (cond (decide ((nth (t := TPart) e i0).1 = (5 : Int))) ((0 ≤ (0 : Int)) ∧ ((0 : Int) ≤ wrap64 ((v0.length : Int) - (2 : Int))) ∧ (wrap64 ((v0.length : Int) - (2 : Int)) ≤ (v0.length : Int)) ∧ (wrap64 ((v0.length : Int) - (2 : Int)) = wrap64 ((v0.length : Int) - (2 : Int))) ∧ (0 ≤ wrap64 ((v0.length : Int) - (2 : Int))) ∧ (wrap64 ((v0.length : Int) - (2 : Int)) < (v0.length : Int)) ∧ (0 ≤ wrap64 ((v0.length : Int) - (1 : Int))) ∧ (wrap64 ((v0.length : Int) - (1 : Int)) < (v0.length : Int)) ∧ (Sm TValue (nth (t := TValue) v0 (wrap64 ((v0.length : Int) - (2 : Int))))) ∧ (Sm TValue (nth (t := TValue) v0 (wrap64 ((v0.length : Int) - (1 : Int))))) ∧ (∀ r_1012_17 : (TValue).D, r_1012_17 = (M.valueOf (M.andOf (M.truthOf (nth (t := TValue) v0 (wrap64 ((v0.length : Int) - (2 : Int))))) (M.truthOf (nth (t := TValue) v0 (wrap64 ((v0.length : Int) - (1 : Int))))))) → ((0 : Int) = 0) ∧ (((wrap64 ((v0.length : Int) - (2 : Int))).toNat + [r_1012_17].length) * 32 ≤ lim) ∧ (∃ m_, m_ < m ∧ (L95 row e) 0 m_ (⟨[(0, .data (Ty.sl TValue) row), (1, .data (Ty.sl TPart) e), (4, .ptr 4 0), (5, .own 7 none), (6, .data (Ty.int .i64) (wrap64 (i0 + (1 : Int))))], [(4, .box [.data (Ty.int .i64) (0 : Int), .data (Ty.int .i64) (0 : Int), .data Ty.str (⟨#[]⟩ : ByteArray)]), (7, .arr TValue (v0.take (wrap64 ((v0.length : Int) - (2 : Int))).toNat ++ [r_1012_17]))]⟩ : St) K))) (cond (decide ((nth (t := TPart) e i0).1 = (6 : Int))) ((0 ≤ (0 : Int)) ∧ ((0 : Int) ≤ wrap64 ((v0.length : Int) - (2 : Int))) ∧ (wrap64 ((v0.length : Int) - (2 : Int)) ≤ (v0.length : Int)) ∧ (wrap64 ((v0.length : Int) - (2 : Int)) = wrap64 ((v0.length : Int) - (2 : Int))) ∧ (0 ≤ wrap64 ((v0.length : Int) - (2 : Int))) ∧ (wrap64 ((v0.length : Int) - (2 : Int)) < (v0.length : Int)) ∧ (0 ≤ wrap64 ((v0.length : Int) - (1 : Int))) ∧ (wrap64 ((v0.length : Int) - (1 : Int)) < (v0.length : Int)) ∧ (Sm TValue (nth (t := TValue) v0 (wrap64 ((v0.length : Int) - (2 : Int))))) ∧ (Sm TValue (nth (t := TValue) v0 (wrap64 ((v0.length : Int) - (1 : Int))))) ∧ (∀ r_1014_17 : (TValue).D, r_1014_17 = (M.valueOf (M.orOf (M.truthOf (nth (t := TValue) v0 (wrap64 ((v0.length : Int) - (2 : Int))))) (M.truthOf (nth (t := TValue) v0 (wrap64 ((v0.length : Int) - (1 : Int))))))) → ((0 : Int) = 0) ∧ (((wrap64 ((v0.length : Int) - (2 : Int))).toNat + [r_1014_17].length) * 32 ≤ lim) ∧ (∃ m_, m_ < m ∧ (L95 row e) 0 m_ (⟨[(0, .data (Ty.sl TValue) row), (1, .data (Ty.sl TPart) e), (4, .ptr 4 0), (5, .own 7 none), (6, .data (Ty.int .i64) (wrap64 (i0 + (1 : Int))))], [(4, .box [.data (Ty.int .i64) (0 : Int), .data (Ty.int .i64) (0 : Int), .data Ty.str (⟨#[]⟩ : ByteArray)]), (7, .arr TValue (v0.take (wrap64 ((v0.length : Int) - (2 : Int))).toNat ++ [r_1014_17]))]⟩ : St) K))) (cond (decide ((nth (t := TPart) e i0).1 = (7 : Int))) ((0 ≤ (0 : Int)) ∧ ((0 : Int) ≤ wrap64 ((v0.length : Int) - (1 : Int))) ∧ (wrap64 ((v0.length : Int) - (1 : Int)) ≤ (v0.length : Int)) ∧ (wrap64 ((v0.length : Int) - (1 : Int)) = wrap64 ((v0.length : Int) - (1 : Int))) ∧ (0 ≤ wrap64 ((v0.length : Int) - (1 : Int))) ∧ (wrap64 ((v0.length : Int) - (1 : Int)) < (v0.length : Int)) ∧ (Sm TValue (nth (t := TValue) v0 (wrap64 ((v0.length : Int) - (1 : Int))))) ∧ (∀ r_1016_11 : (TValue).D, r_1016_11 = (M.valueOf (M.notOf (M.truthOf (nth (t := TValue) v0 (wrap64 ((v0.length : Int) - (1 : Int))))))) → ((0 : Int) = 0) ∧ (((wrap64 ((v0.length : Int) - (1 : Int))).toNat + [r_1016_11].length) * 32 ≤ lim) ∧ (∃ m_, m_ < m ∧ (L95 row e) 0 m_ (⟨[(0, .data (Ty.sl TValue) row), (1, .data (Ty.sl TPart) e), (4, .ptr 4 0), (5, .own 7 none), (6, .data (Ty.int .i64) (wrap64 (i0 + (1 : Int))))], [(4, .box [.data (Ty.int .i64) (0 : Int), .data (Ty.int .i64) (0 : Int), .data Ty.str (⟨#[]⟩ : ByteArray)]), (7, .arr TValue (v0.take (wrap64 ((v0.length : Int) - (1 : Int))).toNat ++ [r_1016_11]))]⟩ : St) K))) ((0 ≤ (0 : Int)) ∧ ((0 : Int) ≤ wrap64 ((v0.length : Int) - (1 : Int))) ∧ (wrap64 ((v0.length : Int) - (1 : Int)) ≤ (v0.length : Int)) ∧ (wrap64 ((v0.length : Int) - (1 : Int)) = wrap64 ((v0.length : Int) - (1 : Int))) ∧ (0 ≤ wrap64 ((v0.length : Int) - (1 : Int))) ∧ (wrap64 ((v0.length : Int) - (1 : Int)) < (v0.length : Int)) ∧ (∀ r_1017_12 : (TValue).D, r_1017_12 = (M.valueOf (M.bool (decide ((nth (t := TValue) v0 (wrap64 ((v0.length : Int) - (1 : Int)))).1 = (0 : Int))))) → ((0 : Int) = 0) ∧ (((wrap64 ((v0.length : Int) - (1 : Int))).toNat + [r_1017_12].length) * 32 ≤ lim) ∧ (∃ m_, m_ < m ∧ (L95 row e) 0 m_ (⟨[(0, .data (Ty.sl TValue) row), (1, .data (Ty.sl TPart) e), (4, .ptr 4 0), (5, .own 7 none), (6, .data (Ty.int .i64) (wrap64 (i0 + (1 : Int))))], [(4, .box [.data (Ty.int .i64) (0 : Int), .data (Ty.int .i64) (0 : Int), .data Ty.str (⟨#[]⟩ : ByteArray)]), (7, .arr TValue (v0.take (wrap64 ((v0.length : Int) - (1 : Int))).toNat ++ [r_1017_12]))]⟩ : St) K)))))))))) (K (.exit 0) (⟨[(4, .ptr 4 0), (5, .own 7 none)], [(4, .box [.data (Ty.int .i64) (0 : Int), .data (Ty.int .i64) (0 : Int), .data Ty.str (⟨#[]⟩ : ByteArray)]), (7, .arr TValue v0)]⟩ : St))) := by kernel_rfl
theorem con95_ok : ConOk P 95 c95 := by
  refine con_okR (fn := Go.Proofs.Tryz.f95) (code := bodyOf Go.Proofs.Tryz.f95) (tab_ok tab_check cmp_check) consOk95 mixed Go.Proofs.Tryz.func95 rfl rfl fun args hp K h0 => ?_
  obtain ⟨a0, a1, rfl, rfl, h1⟩ := args2_elim h0
  obtain ⟨row, rfl, h2⟩ := withD_elim h1
  obtain ⟨e, rfl, h3⟩ := withD_elim h2
  obtain ⟨h_row, h_e, p0, hK⟩ := h3
  have h : ok (F.spec_l4Value row e) (fun r => K (.data TValue r) []) := ok_of_eq (F.spec_l4Value_eq row e h_row h_e p0) (hK _ rfl)
  refine ⟨⟨show (2 : Nat) ≤ 24 by decide, show (2 : Nat) ≤ 1000000 by decide⟩, ann95, (L95 row e), (.dat TValue), (loopsN1 (i0 := 0) (by kernel_rfl) ?_), ?_⟩
  · clear h
    intro m_ s_ K_ h
    obtain ⟨hc0, i0, v0, rfl, hl0, rfl, hv0, h⟩ := (show LP95_0 row e m_ s_ K_ from h)
    rw [lvc95_0 row e i0 v0 _ K_]
    exact (loopE_step (t := TPart) hl0 h (fun ht0 h => ⟨hl0, ⟨ht0, (ok_cond h (fun b_30112 h => ⟨(ok_guard h).1, have g_30113 := (ok_guard h).1; have h := (ok_guard h).2; (loopE_next (t := TPart) (fun m hm => (show LP95_0 row e m _ _ from ⟨hc0, hm⟩)) (v0 ++ [(((nth (t := TPart) e i0).2).2).1]) rfl hl0 ht0 (sm_len h_e) trivial (have h := ok_ret h; h))⟩) (fun b_30112 h => (ok_cond h (fun b_30114 h => ⟨(ok_guard h).1, have g_30115 := (ok_guard h).1; have h := (ok_guard h).2; ⟨(ok_guard h).1, have g_30116 := (ok_guard h).1; have h := (ok_guard h).2; ⟨(ok_guard h).1, have g_30117 := (ok_guard h).1; have h := (ok_guard h).2; (loopE_next (t := TPart) (fun m hm => (show LP95_0 row e m _ _ from ⟨hc0, hm⟩)) (v0 ++ [(nth (t := TValue) row (((nth (t := TPart) e i0).2).1))]) rfl hl0 ht0 (sm_len h_e) trivial (have h := ok_ret h; h))⟩⟩⟩) (fun b_30114 h => (ok_cond h (fun b_30118 h => ⟨(Int.natCast_nonneg 0), ⟨(ok_guard h).1, have g_30119 := (ok_guard h).1; have h := (ok_guard h).2; ⟨(ok_guard h).1, have g_30120 := (ok_guard h).1; have h := (ok_guard h).2; ⟨rfl, ⟨(ok_guard h).1, have g_30121 := (ok_guard h).1; have h := (ok_guard h).2; ⟨(ok_guard h).1, have g_30122 := (ok_guard h).1; have h := (ok_guard h).2; ⟨(ok_guard h).1, have g_30123 := (ok_guard h).1; have h := (ok_guard h).2; ⟨(ok_guard h).1, have g_30124 := (ok_guard h).1; have h := (ok_guard h).2; ⟨(ok_guard h).1, have g_30125 := (ok_guard h).1; have h := (ok_guard h).2; ⟨(ok_guard h).1, have g_30126 := (ok_guard h).1; have h := (ok_guard h).2; (fun r_1008_14 e_r_1008_14 => have h := ok_let h r_1008_14 e_r_1008_14; ⟨rfl, ⟨(ok_guard h).1, have g_30127 := (ok_guard h).1; have h := (ok_guard h).2; (loopE_next (t := TPart) (fun m hm => (show LP95_0 row e m _ _ from ⟨hc0, hm⟩)) (v0.take (wrap64 ((v0.length : Int) - (2 : Int))).toNat ++ [r_1008_14]) rfl hl0 ht0 (sm_len h_e) trivial (have h := ok_ret h; h))⟩⟩)⟩⟩⟩⟩⟩⟩⟩⟩⟩⟩) (fun b_30118 h => (ok_cond h (fun b_30128 h => ⟨(Int.natCast_nonneg 0), ⟨(ok_guard h).1, have g_30129 := (ok_guard h).1; have h := (ok_guard h).2; ⟨(ok_guard h).1, have g_30130 := (ok_guard h).1; have h := (ok_guard h).2; ⟨rfl, ⟨(ok_guard h).1, have g_30131 := (ok_guard h).1; have h := (ok_guard h).2; ⟨(ok_guard h).1, have g_30132 := (ok_guard h).1; have h := (ok_guard h).2; ⟨(ok_guard h).1, have g_30133 := (ok_guard h).1; have h := (ok_guard h).2; ⟨(ok_guard h).1, have g_30134 := (ok_guard h).1; have h := (ok_guard h).2; ⟨(ok_guard h).1, have g_30135 := (ok_guard h).1; have h := (ok_guard h).2; ⟨(ok_guard h).1, have g_30136 := (ok_guard h).1; have h := (ok_guard h).2; (fun r_1010_17 e_r_1010_17 => have h := ok_let h r_1010_17 e_r_1010_17; ⟨rfl, ⟨(ok_guard h).1, have g_30137 := (ok_guard h).1; have h := (ok_guard h).2; (loopE_next (t := TPart) (fun m hm => (show LP95_0 row e m _ _ from ⟨hc0, hm⟩)) (v0.take (wrap64 ((v0.length : Int) - (2 : Int))).toNat ++ [r_1010_17]) rfl hl0 ht0 (sm_len h_e) trivial (have h := ok_ret h; h))⟩⟩)⟩⟩⟩⟩⟩⟩⟩⟩⟩⟩) (fun b_30128 h => (ok_cond h (fun b_30138 h => ⟨(Int.natCast_nonneg 0), ⟨(ok_guard h).1, have g_30139 := (ok_guard h).1; have h := (ok_guard h).2; ⟨(ok_guard h).1, have g_30140 := (ok_guard h).1; have h := (ok_guard h).2; ⟨rfl, ⟨(ok_guard h).1, have g_30141 := (ok_guard h).1; have h := (ok_guard h).2; ⟨(ok_guard h).1, have g_30142 := (ok_guard h).1; have h := (ok_guard h).2; ⟨(ok_guard h).1, have g_30143 := (ok_guard h).1; have h := (ok_guard h).2; ⟨(ok_guard h).1, have g_30144 := (ok_guard h).1; have h := (ok_guard h).2; ⟨(ok_guard h).1, have g_30145 := (ok_guard h).1; have h := (ok_guard h).2; ⟨(ok_guard h).1, have g_30146 := (ok_guard h).1; have h := (ok_guard h).2; (fun r_1012_17 e_r_1012_17 => have h := ok_let h r_1012_17 e_r_1012_17; ⟨rfl, ⟨(ok_guard h).1, have g_30147 := (ok_guard h).1; have h := (ok_guard h).2; (loopE_next (t := TPart) (fun m hm => (show LP95_0 row e m _ _ from ⟨hc0, hm⟩)) (v0.take (wrap64 ((v0.length : Int) - (2 : Int))).toNat ++ [r_1012_17]) rfl hl0 ht0 (sm_len h_e) trivial (have h := ok_ret h; h))⟩⟩)⟩⟩⟩⟩⟩⟩⟩⟩⟩⟩) (fun b_30138 h => (ok_cond h (fun b_30148 h => ⟨(Int.natCast_nonneg 0), ⟨(ok_guard h).1, have g_30149 := (ok_guard h).1; have h := (ok_guard h).2; ⟨(ok_guard h).1, have g_30150 := (ok_guard h).1; have h := (ok_guard h).2; ⟨rfl, ⟨(ok_guard h).1, have g_30151 := (ok_guard h).1; have h := (ok_guard h).2; ⟨(ok_guard h).1, have g_30152 := (ok_guard h).1; have h := (ok_guard h).2; ⟨(ok_guard h).1, have g_30153 := (ok_guard h).1; have h := (ok_guard h).2; ⟨(ok_guard h).1, have g_30154 := (ok_guard h).1; have h := (ok_guard h).2; ⟨(ok_guard h).1, have g_30155 := (ok_guard h).1; have h := (ok_guard h).2; ⟨(ok_guard h).1, have g_30156 := (ok_guard h).1; have h := (ok_guard h).2; (fun r_1014_17 e_r_1014_17 => have h := ok_let h r_1014_17 e_r_1014_17; ⟨rfl, ⟨(ok_guard h).1, have g_30157 := (ok_guard h).1; have h := (ok_guard h).2; (loopE_next (t := TPart) (fun m hm => (show LP95_0 row e m _ _ from ⟨hc0, hm⟩)) (v0.take (wrap64 ((v0.length : Int) - (2 : Int))).toNat ++ [r_1014_17]) rfl hl0 ht0 (sm_len h_e) trivial (have h := ok_ret h; h))⟩⟩)⟩⟩⟩⟩⟩⟩⟩⟩⟩⟩) (fun b_30148 h => (ok_cond h (fun b_30158 h => ⟨(Int.natCast_nonneg 0), ⟨(ok_guard h).1, have g_30159 := (ok_guard h).1; have h := (ok_guard h).2; ⟨(ok_guard h).1, have g_30160 := (ok_guard h).1; have h := (ok_guard h).2; ⟨rfl, ⟨(ok_guard h).1, have g_30161 := (ok_guard h).1; have h := (ok_guard h).2; ⟨(ok_guard h).1, have g_30162 := (ok_guard h).1; have h := (ok_guard h).2; ⟨(ok_guard h).1, have g_30163 := (ok_guard h).1; have h := (ok_guard h).2; (fun r_1016_11 e_r_1016_11 => have h := ok_let h r_1016_11 e_r_1016_11; ⟨rfl, ⟨(ok_guard h).1, have g_30164 := (ok_guard h).1; have h := (ok_guard h).2; (loopE_next (t := TPart) (fun m hm => (show LP95_0 row e m _ _ from ⟨hc0, hm⟩)) (v0.take (wrap64 ((v0.length : Int) - (1 : Int))).toNat ++ [r_1016_11]) rfl hl0 ht0 (sm_len h_e) trivial (have h := ok_ret h; h))⟩⟩)⟩⟩⟩⟩⟩⟩⟩) (fun b_30158 h => ⟨(Int.natCast_nonneg 0), ⟨(ok_guard h).1, have g_30165 := (ok_guard h).1; have h := (ok_guard h).2; ⟨(ok_guard h).1, have g_30166 := (ok_guard h).1; have h := (ok_guard h).2; ⟨rfl, ⟨(ok_guard h).1, have g_30167 := (ok_guard h).1; have h := (ok_guard h).2; ⟨(ok_guard h).1, have g_30168 := (ok_guard h).1; have h := (ok_guard h).2; (fun r_1017_12 e_r_1017_12 => have h := ok_let h r_1017_12 e_r_1017_12; ⟨rfl, ⟨(ok_guard h).1, have g_30169 := (ok_guard h).1; have h := (ok_guard h).2; (loopE_next (t := TPart) (fun m hm => (show LP95_0 row e m _ _ from ⟨hc0, hm⟩)) (v0.take (wrap64 ((v0.length : Int) - (1 : Int))).toNat ++ [r_1017_12]) rfl hl0 ht0 (sm_len h_e) trivial (have h := ok_ret h; h))⟩⟩)⟩⟩⟩⟩⟩⟩))))))))))))))⟩⟩) (fun h => (h trivial)))
  · rw [vc95 row e K]
    exact (loopE_start (t := TPart) (fun m hm => ⟨trivial, hm⟩) [] rfl trivial (ok_then h (fun v0 h hv0 => ⟨(Int.natCast_nonneg 0), ⟨(ok_guard h).1, have g_30170 := (ok_guard h).1; have h := (ok_guard h).2; (have h := ok_ret h; h)⟩⟩) (fun _ h => h.elim)))

/-! 143: loop.example/tablehouse/spec.l6Taken -/
def c143 : Con := ⟨[.dat (Ty.sl TValue), .dat (Ty.sl (Ty.int .i64))], fun args hp K => args2 (fun a0 a1 => withD (Ty.sl TValue) a0 fun row => withD (Ty.sl (Ty.int .i64)) a1 fun list => (Sm (Ty.sl TValue) row) ∧ (Sm (Ty.sl (Ty.int .i64)) list) ∧ (M.inRow row list) ∧ (∀ r : (List (TValue).D), r = (M.taken row list) → K (.own 0 none) [(0, .arr TValue r)])) args hp⟩
def cons143 : Cons := []
def inl143 : List (Nat × Inl) := []
@[reducible] def C143 : Ctx := ⟨tab, fun t => memN t cmps, cons143, 25, inl143, 0⟩
theorem consOk143 : ConsOk P C143 := by
  exact consOk_nil
def ann143 : Nat → List Dir
  | 0 => [.keep [0, 1]]
  | 1 => [.keep [0, 1, 5]]
  | 2 => [.keep [0, 1, 5, 6]]
  | 3 => [.keep [0, 1, 5, 6, 11]]
  | 4 => [.keep [0, 1, 5, 6]]
  | 5 => [.keep [0, 1, 5, 6]]
  | 6 => [.keep [4]]
  | 100000 => [.keep [5]]
  | _ => []
@[reducible] def LP143_0 (row : (List (TValue).D)) (list : (List Int)) (m : Nat) (st_ : St) (K : X → St → Prop) : Prop := (True) ∧ LoopE (t := (Ty.int .i64)) (fun (i0 : Int) (v0 : (List (TValue).D)) => (⟨[(0, .data (Ty.sl TValue) row), (1, .data (Ty.sl (Ty.int .i64)) list), (5, .own 7 none), (6, .data (Ty.int .i64) i0)], [(7, .arr TValue v0)]⟩ : St)) list (F.spec_l6Taken_l0 row list) (fun v0 : (List (TValue).D) => True) (outD (fun v0 : (List (TValue).D) => True → K (.exit 0) (⟨[(5, .own 7 none)], [(7, .arr TValue v0)]⟩ : St)) (fun _ => False)) m st_
def L143 (row : (List (TValue).D)) (list : (List Int)) : Loops := fun id m st_ K => match id with
  | 0 => LP143_0 row list m st_ K
  | _ => False
theorem vc143 (row : (List (TValue).D)) (list : (List Int)) (K : AV → Hp → Prop) : awp C143 (L143 row list) ann143 (bodyOf Go.Proofs.Tryz.f143) ⟨argEnv 0 [.data (Ty.sl TValue) row, .data (Ty.sl (Ty.int .i64)) list], []⟩ (outK tab Go.Proofs.Tryz.f143.results.toList (hasBox []) (resK .raw K)) =
  ((∃ m_, (True) ∧ LoopE (t := (Ty.int .i64)) (fun (i0 : Int) (v0 : (List (TValue).D)) => (⟨[(0, .data (Ty.sl TValue) row), (1, .data (Ty.sl (Ty.int .i64)) list), (5, .own 7 none), (6, .data (Ty.int .i64) i0)], [(7, .arr TValue v0)]⟩ : St)) list (F.spec_l6Taken_l0 row list) (fun v0 : (List (TValue).D) => True) (outD (fun v0 : (List (TValue).D) => True → K (.own 0 none) [(0, .arr TValue v0)]) (fun _ => False)) m_ (⟨[(0, .data (Ty.sl TValue) row), (1, .data (Ty.sl (Ty.int .i64)) list), (5, .own 7 none), (6, .data (Ty.int .i64) (0 : Int))], [(7, .arr TValue [])]⟩ : St))) := by kernel_rfl
theorem lvc143_0 (row : (List (TValue).D)) (list : (List Int))  (i0 : Int) (v0 : (List (TValue).D)) (m : Nat) (K : X → St → Prop) : awp C143 (L143 row list) ann143 (loopAt (bodyOf Go.Proofs.Tryz.f143) 0) (⟨[(0, .data (Ty.sl TValue) row), (1, .data (Ty.sl (Ty.int .i64)) list), (5, .own 7 none), (6, .data (Ty.int .i64) i0)], [(7, .arr TValue v0)]⟩ : St) (thenW (fun s' => ∃ m', m' < m ∧ (L143 row list) 0 m' s' K) (exitN 0 (ann143 (behind 0)) K)) =
  (cond (decide (i0 < (list.length : Int))) ((0 ≤ i0) ∧ (i0 < (list.length : Int)) ∧ (0 ≤ (nth (t := (Ty.int .i64)) list i0)) ∧ ((nth (t := (Ty.int .i64)) list i0) < (row.length : Int)) ∧ ((v0.length + [(nth (t := TValue) row (nth (t := (Ty.int .i64)) list i0))].length) * 32 ≤ lim) ∧ (∃ m_, m_ < m ∧ (L143 row list) 0 m_ (⟨[(0, .data (Ty.sl TValue) row), (1, .data (Ty.sl (Ty.int .i64)) list), (5, .own 7 none), (6, .data (Ty.int .i64) (wrap64 (i0 + (1 : Int))))], [(7, .arr TValue (v0 ++ [(nth (t := TValue) row (nth (t := (Ty.int .i64)) list i0))]))]⟩ : St) K)) (K (.exit 0) (⟨[(5, .own 7 none)], [(7, .arr TValue v0)]⟩ : St))) := by kernel_rfl
theorem con143_ok : ConOk P 143 c143 := by
  refine con_okR (fn := Go.Proofs.Tryz.f143) (code := bodyOf Go.Proofs.Tryz.f143) (tab_ok tab_check cmp_check) consOk143 mixed Go.Proofs.Tryz.func143 rfl rfl fun args hp K h0 => ?_
  obtain ⟨a0, a1, rfl, rfl, h1⟩ := args2_elim h0
  obtain ⟨row, rfl, h2⟩ := withD_elim h1
  obtain ⟨list, rfl, h3⟩ := withD_elim h2
  obtain ⟨h_row, h_list, p0, hK⟩ := h3
  have h : ok (F.spec_l6Taken row list) (fun r => K (.own 0 none) [(0, .arr TValue r)]) := ok_of_eq (F.spec_l6Taken_eq row list h_row h_list p0) (hK _ rfl)
  refine ⟨⟨show (2 : Nat) ≤ 25 by decide, show (2 : Nat) ≤ 1000000 by decide⟩, ann143, (L143 row list), .raw, (loopsN1 (i0 := 0) (by kernel_rfl) ?_), ?_⟩
  · clear h
    intro m_ s_ K_ h
    obtain ⟨hc0, i0, v0, rfl, hl0, rfl, hv0, h⟩ := (show LP143_0 row list m_ s_ K_ from h)
    rw [lvc143_0 row list i0 v0 _ K_]
    exact (loopE_step (t := (Ty.int .i64)) hl0 h (fun ht0 h => ⟨hl0, ⟨ht0, ⟨(ok_guard h).1, have g_17 := (ok_guard h).1; have h := (ok_guard h).2; ⟨(ok_guard h).1, have g_18 := (ok_guard h).1; have h := (ok_guard h).2; ⟨(ok_guard h).1, have g_19 := (ok_guard h).1; have h := (ok_guard h).2; (loopE_next (t := (Ty.int .i64)) (fun m hm => (show LP143_0 row list m _ _ from ⟨hc0, hm⟩)) (v0 ++ [(nth (t := TValue) row (nth (t := (Ty.int .i64)) list i0))]) rfl hl0 ht0 (sm_len h_list) trivial (have h := ok_ret h; h))⟩⟩⟩⟩⟩) (fun h => (h trivial)))
  · rw [vc143 row list K]
    exact (loopE_start (t := (Ty.int .i64)) (fun m hm => ⟨trivial, hm⟩) [] rfl trivial (ok_then h (fun v0 h hv0 => (have h := ok_ret h; h)) (fun _ h => h.elim)))

/-! 144: loop.example/tablehouse/spec.l12None -/
def c144 : Con := ⟨[.dat (Ty.sl TValue)], fun args hp K => args1 (fun a0 => withD (Ty.sl TValue) a0 fun values => (Sm (Ty.sl TValue) values) ∧ K (.data Ty.bool (M.hasNone values)) []) args hp⟩
def cons144 : Cons := []
def inl144 : List (Nat × Inl) := []
@[reducible] def C144 : Ctx := ⟨tab, fun t => memN t cmps, cons144, 16, inl144, 0⟩
theorem consOk144 : ConsOk P C144 := by
  exact consOk_nil
def ann144 : Nat → List Dir
  | 0 => [.keep [0]]
  | 1 => [.keep [0, 3]]
  | 2 => [.keep [0, 3, 7]]
  | 3 => [.keep [0, 3]]
  | 4 => [.keep [0, 3, 15]]
  | 5 => [.keep [2]]
  | 6 => [.keep [2]]
  | 100000 => [.keep []]
  | _ => []
@[reducible] def LP144_0 (values : (List (TValue).D)) (m : Nat) (st_ : St) (K : X → St → Prop) : Prop := (True) ∧ LoopE (t := TValue) (fun (i0 : Int) (v0 : Unit) => (⟨[(0, .data (Ty.sl TValue) values), (3, .data (Ty.int .i64) i0)], []⟩ : St)) values (F.spec_l12None_l0 values) (fun v0 : Unit => True) (outD (fun v0 : Unit => True → K (.exit 0) (⟨[], []⟩ : St)) (fun q0 : Unit => K .ret (⟨[(2, .data Ty.bool true)], []⟩ : St))) m st_
def L144 (values : (List (TValue).D)) : Loops := fun id m st_ K => match id with
  | 0 => LP144_0 values m st_ K
  | _ => False
theorem vc144 (values : (List (TValue).D)) (K : AV → Hp → Prop) : awp C144 (L144 values) ann144 (bodyOf Go.Proofs.Tryz.f144) ⟨argEnv 0 [.data (Ty.sl TValue) values], []⟩ (outK tab Go.Proofs.Tryz.f144.results.toList (hasBox []) (resK (.dat Ty.bool) K)) =
  ((∃ m_, (True) ∧ LoopE (t := TValue) (fun (i0 : Int) (v0 : Unit) => (⟨[(0, .data (Ty.sl TValue) values), (3, .data (Ty.int .i64) i0)], []⟩ : St)) values (F.spec_l12None_l0 values) (fun v0 : Unit => True) (outD (fun v0 : Unit => True → K (.data Ty.bool false) []) (fun q0 : Unit => K (.data Ty.bool true) [])) m_ (⟨[(0, .data (Ty.sl TValue) values), (3, .data (Ty.int .i64) (0 : Int))], []⟩ : St))) := by kernel_rfl
theorem lvc144_0 (values : (List (TValue).D))  (i0 : Int) (v0 : Unit) (m : Nat) (K : X → St → Prop) : awp C144 (L144 values) ann144 (loopAt (bodyOf Go.Proofs.Tryz.f144) 0) (⟨[(0, .data (Ty.sl TValue) values), (3, .data (Ty.int .i64) i0)], []⟩ : St) (thenW (fun s' => ∃ m', m' < m ∧ (L144 values) 0 m' s' K) (exitN 0 (ann144 (behind 0)) K)) =
  (cond (decide (i0 < (values.length : Int))) ((0 ≤ i0) ∧ (i0 < (values.length : Int)) ∧ cond (decide ((nth (t := TValue) values i0).1 = (0 : Int))) (K .ret (⟨[(2, .data Ty.bool true)], []⟩ : St)) ((∃ m_, m_ < m ∧ (L144 values) 0 m_ (⟨[(0, .data (Ty.sl TValue) values), (3, .data (Ty.int .i64) (wrap64 (i0 + (1 : Int))))], []⟩ : St) K))) (K (.exit 0) (⟨[], []⟩ : St))) := by kernel_rfl
theorem con144_ok : ConOk P 144 c144 := by
  refine con_okR (fn := Go.Proofs.Tryz.f144) (code := bodyOf Go.Proofs.Tryz.f144) (tab_ok tab_check cmp_check) consOk144 mixed Go.Proofs.Tryz.func144 rfl rfl fun args hp K h0 => ?_
  obtain ⟨a0, rfl, rfl, h1⟩ := args1_elim h0
  obtain ⟨values, rfl, h2⟩ := withD_elim h1
  obtain ⟨h_values, hK⟩ := h2
  have h : ok (F.spec_l12None values) (fun r => K (.data Ty.bool r) []) := ok_of_eq (F.spec_l12None_eq values h_values) hK
  refine ⟨⟨show (1 : Nat) ≤ 16 by decide, show (1 : Nat) ≤ 1000000 by decide⟩, ann144, (L144 values), (.dat Ty.bool), (loopsN1 (i0 := 0) (by kernel_rfl) ?_), ?_⟩
  · clear h
    intro m_ s_ K_ h
    obtain ⟨hc0, i0, v0, rfl, hl0, rfl, hv0, h⟩ := (show LP144_0 values m_ s_ K_ from h)
    rw [lvc144_0 values i0 v0 _ K_]
    exact (loopE_step (t := TValue) hl0 h (fun ht0 h => ⟨hl0, ⟨ht0, (ok_cond h (fun b_9 h => (have h := ok_ret h; h)) (fun b_9 h => (loopE_next (t := TValue) (fun m hm => (show LP144_0 values m _ _ from ⟨hc0, hm⟩)) () rfl hl0 ht0 (sm_len h_values) trivial (have h := ok_ret h; h))))⟩⟩) (fun h => (h trivial)))
  · rw [vc144 values K]
    exact (loopE_start (t := TValue) (fun m hm => ⟨trivial, hm⟩) () rfl trivial (ok_then h (fun v0 h hv0 => (have h := ok_ret h; h)) (fun q0 h => (have h := ok_ret h; h))))

/-! 145: loop.example/tablehouse/spec.l3Same -/
def c145 : Con := ⟨[.dat (Ty.sl TValue), .dat (Ty.sl TValue)], fun args hp K => args2 (fun a0 a1 => withD (Ty.sl TValue) a0 fun a => withD (Ty.sl TValue) a1 fun b => (Sm (Ty.sl TValue) a) ∧ (Sm (Ty.sl TValue) b) ∧ K (.data Ty.bool (decide (a = b))) []) args hp⟩
def cons145 : Cons := []
def inl145 : List (Nat × Inl) := []
@[reducible] def C145 : Ctx := ⟨tab, fun t => memN t cmps, cons145, 26, inl145, 0⟩
theorem consOk145 : ConsOk P C145 := by
  exact consOk_nil
def ann145 : Nat → List Dir
  | 0 => [.keep [0, 1]]
  | 1 => [.keep [0, 1, 10]]
  | 2 => [.keep [4]]
  | 3 => [.keep [0, 1, 5]]
  | 4 => [.keep [0, 1, 5, 14]]
  | 5 => [.keep [0, 1, 5]]
  | 6 => [.keep [0, 1, 5, 25]]
  | 7 => [.keep [4]]
  | 8 => [.keep [4]]
  | 100000 => [.keep []]
  | _ => []
@[reducible] def LP145_0 (a : (List (TValue).D)) (b : (List (TValue).D)) (m : Nat) (st_ : St) (K : X → St → Prop) : Prop := (True) ∧ LoopI (fun (i0 : Int) (v0 : Unit) => (⟨[(0, .data (Ty.sl TValue) a), (1, .data (Ty.sl TValue) b), (5, .data (Ty.int .i64) i0)], []⟩ : St)) (0 : Int) (a.length : Int) (F.spec_l3Same_l0 a b) (fun v0 : Unit => True) (outD (fun v0 : Unit => True → K (.exit 0) (⟨[], []⟩ : St)) (fun q0 : Unit => K .ret (⟨[(4, .data Ty.bool false)], []⟩ : St))) m st_
def L145 (a : (List (TValue).D)) (b : (List (TValue).D)) : Loops := fun id m st_ K => match id with
  | 0 => LP145_0 a b m st_ K
  | _ => False
theorem vc145 (a : (List (TValue).D)) (b : (List (TValue).D)) (K : AV → Hp → Prop) : awp C145 (L145 a b) ann145 (bodyOf Go.Proofs.Tryz.f145) ⟨argEnv 0 [.data (Ty.sl TValue) a, .data (Ty.sl TValue) b], []⟩ (outK tab Go.Proofs.Tryz.f145.results.toList (hasBox []) (resK (.dat Ty.bool) K)) =
  (cond (!decide ((a.length : Int) = (b.length : Int))) (K (.data Ty.bool false) []) ((∃ m_, (True) ∧ LoopI (fun (i0 : Int) (v0 : Unit) => (⟨[(0, .data (Ty.sl TValue) a), (1, .data (Ty.sl TValue) b), (5, .data (Ty.int .i64) i0)], []⟩ : St)) (0 : Int) (a.length : Int) (F.spec_l3Same_l0 a b) (fun v0 : Unit => True) (outD (fun v0 : Unit => True → K (.data Ty.bool true) []) (fun q0 : Unit => K (.data Ty.bool false) [])) m_ (⟨[(0, .data (Ty.sl TValue) a), (1, .data (Ty.sl TValue) b), (5, .data (Ty.int .i64) (0 : Int))], []⟩ : St)))) := by kernel_rfl
theorem lvc145_0 (a : (List (TValue).D)) (b : (List (TValue).D))  (i0 : Int) (v0 : Unit) (m : Nat) (K : X → St → Prop) : awp C145 (L145 a b) ann145 (loopAt (bodyOf Go.Proofs.Tryz.f145) 0) (⟨[(0, .data (Ty.sl TValue) a), (1, .data (Ty.sl TValue) b), (5, .data (Ty.int .i64) i0)], []⟩ : St) (thenW (fun s' => ∃ m', m' < m ∧ (L145 a b) 0 m' s' K) (exitN 0 (ann145 (behind 0)) K)) =
  (cond (decide (i0 < (a.length : Int))) ((0 ≤ i0) ∧ (i0 < (a.length : Int)) ∧ (0 ≤ i0) ∧ (i0 < (b.length : Int)) ∧ cond (!(Ty.beq TValue (nth (t := TValue) a i0) (nth (t := TValue) b i0))) (K .ret (⟨[(4, .data Ty.bool false)], []⟩ : St)) ((∃ m_, m_ < m ∧ (L145 a b) 0 m_ (⟨[(0, .data (Ty.sl TValue) a), (1, .data (Ty.sl TValue) b), (5, .data (Ty.int .i64) (wrap64 (i0 + (1 : Int))))], []⟩ : St) K))) (K (.exit 0) (⟨[], []⟩ : St))) := by kernel_rfl
theorem con145_ok : ConOk P 145 c145 := by
  refine con_okR (fn := Go.Proofs.Tryz.f145) (code := bodyOf Go.Proofs.Tryz.f145) (tab_ok tab_check cmp_check) consOk145 mixed Go.Proofs.Tryz.func145 rfl rfl fun args hp K h0 => ?_
  obtain ⟨a0, a1, rfl, rfl, h1⟩ := args2_elim h0
  obtain ⟨a, rfl, h2⟩ := withD_elim h1
  obtain ⟨b, rfl, h3⟩ := withD_elim h2
  obtain ⟨h_a, h_b, hK⟩ := h3
  have h : ok (F.spec_l3Same a b) (fun r => K (.data Ty.bool r) []) := ok_of_eq (F.spec_l3Same_eq a b h_a h_b) hK
  refine ⟨⟨show (2 : Nat) ≤ 26 by decide, show (2 : Nat) ≤ 1000000 by decide⟩, ann145, (L145 a b), (.dat Ty.bool), (loopsN1 (i0 := 0) (by kernel_rfl) ?_), ?_⟩
  · clear h
    intro m_ s_ K_ h
    obtain ⟨hc0, i0, v0, rfl, hl0, rfl, hv0, h⟩ := (show LP145_0 a b m_ s_ K_ from h)
    rw [lvc145_0 a b i0 v0 _ K_]
    exact (loopI_step h (fun ht0 h => ⟨hl0, ⟨ht0, ⟨hl0, ⟨(ok_guard h).1, have g_12 := (ok_guard h).1; have h := (ok_guard h).2; (ok_cond h (fun b_13 h => (have h := ok_ret h; h)) (fun b_13 h => (loopI_next (fun m hm => (show LP145_0 a b m _ _ from ⟨hc0, hm⟩)) () rfl hl0 low0 ht0 (sm_len h_a) trivial (have h := ok_ret h; h))))⟩⟩⟩⟩) (fun h => (h trivial)))
  · rw [vc145 a b K]
    exact (ok_cond h (fun b_1 h => (have h := ok_ret h; h)) (fun b_1 h => (loopI_start (fun m hm => ⟨trivial, hm⟩) (0 : Int) () rfl (Int.natCast_nonneg 0) trivial (ok_then h (fun v0 h hv0 => (have h := ok_ret h; h)) (fun q0 h => (have h := ok_ret h; h))))))

/-! 106: loop.example/tablehouse/spec.l12Broken -/
def c106 : Con := ⟨[.dat (Ty.sl TTable), .dat TBond], fun args hp K => args2 (fun a0 a1 => withD (Ty.sl TTable) a0 fun tables => withD TBond a1 fun b => (Sm (Ty.sl TTable) tables) ∧ (Sm TBond b) ∧ ((M.tablesOk tables && M.bondOk tables b) = true) ∧ K (.data (Ty.int .i64) (M.broken tables b)) []) args hp⟩
def cons106 : Cons := [(95, c95), (96, c96), (143, c143), (144, c144), (145, c145)]
def inl106 : List (Nat × Inl) := []
@[reducible] def C106 : Ctx := ⟨tab, fun t => memN t cmps, cons106, 110, inl106, 0⟩
theorem consOk106 : ConsOk P C106 := by
  refine consOk_cons (enter_ok (fn := Go.Proofs.Tryz.f95) Go.Proofs.Tryz.func95 (by kernel_rfl) rfl) con95_ok ?_
  refine consOk_cons (enter_ok (fn := Go.Proofs.Tryz.f96) Go.Proofs.Tryz.func96 (by kernel_rfl) rfl) con96_ok ?_
  refine consOk_cons (enter_ok (fn := Go.Proofs.Tryz.f143) Go.Proofs.Tryz.func143 (by kernel_rfl) rfl) con143_ok ?_
  refine consOk_cons (enter_ok (fn := Go.Proofs.Tryz.f144) Go.Proofs.Tryz.func144 (by kernel_rfl) rfl) con144_ok ?_
  refine consOk_cons (enter_ok (fn := Go.Proofs.Tryz.f145) Go.Proofs.Tryz.func145 (by kernel_rfl) rfl) con145_ok ?_
  exact consOk_nil
def ann106 : Nat → List Dir
  | 0 => [.fixRow 3 TBond, .keep [0, 3]]
  | 1 => [.keep [0, 3, 5]]
  | 2 => [.keep [0, 3, 5, 6]]
  | 3 => [.keep [0, 3, 5, 6, 21]]
  | 4 => [.keep [0, 3, 5, 6]]
  | 5 => [.keep [0, 3, 5, 6, 25]]
  | 6 => [.keep [0, 3, 5, 6, 25, 26]]
  | 7 => [.keep [0, 3, 5, 6, 36]]
  | 8 => [.keep [4]]
  | 9 => [.keep [0, 3, 5, 6, 25, 38]]
  | 10 => [.keep [0, 3, 5, 6, 7]]
  | 11 => [.freeze 46, .keep [0, 3, 5, 6, 7, 8]]
  | 12 => [.keep [0, 3, 5, 6, 7, 8, 54]]
  | 13 => [.keep [0, 3, 5, 6, 7, 8]]
  | 14 => [.keep [0, 3, 5, 6, 7, 8, 65]]
  | 15 => [.keep [4]]
  | 16 => [.keep [0, 3, 5, 6, 67]]
  | 17 => [.keep [0, 3, 5, 6, 9]]
  | 18 => [.keep [0, 3, 5, 6, 9, 10]]
  | 19 => [.keep [0, 3, 5, 6, 9, 10, 11]]
  | 20 => [.keep [0, 3, 5, 6, 9, 10, 11, 90]]
  | 21 => [.keep [0, 3, 5, 6, 9, 10, 11]]
  | 22 => [.keep [0, 3, 5, 6, 9, 10, 11]]
  | 23 => [.keep [0, 3, 5, 6, 108]]
  | 24 => [.keep [4]]
  | 25 => [.keep [4]]
  | 100000 => [.keep []]
  | 100003 => [.keep [0, 3, 5, 6]]
  | 100005 => [.keep [0, 3, 5, 6, 10]]
  | _ => []
@[reducible] def LP106_0 (tables : (List (TTable).D)) (b : (TBond).D) (m : Nat) (st_ : St) (K : X → St → Prop) : Prop := (True) ∧ LoopI (fun (i0 : Int) (v0 : Unit) => (⟨[(0, .data (Ty.sl TTable) tables), (3, .adr TBond b), (5, .data (Ty.sl (Ty.sl TValue)) (((nth (t := TTable) tables b.2.1).2).1)), (6, .data (Ty.int .i64) i0)], []⟩ : St)) (0 : Int) ((((nth (t := TTable) tables b.2.1).2).1).length : Int) (F.spec_l12Broken_l0 tables b) (fun v0 : Unit => True) (outD (fun v0 : Unit => True → K (.exit 0) (⟨[], []⟩ : St)) (fun q0 : Int => K .ret (⟨[(4, .data (Ty.int .i64) q0)], []⟩ : St))) m st_
@[reducible] def LP106_3 (tables : (List (TTable).D)) (b : (TBond).D) (m : Nat) (st_ : St) (K : X → St → Prop) : Prop := ∃ c3_0 : Int, ∃ c3_1 : (List (TValue).D), (Sm (Ty.sl TValue) c3_1 ∧ True) ∧ LoopW (fun v3 : Int => (⟨[(0, .data (Ty.sl TTable) tables), (3, .adr TBond b), (5, .data (Ty.sl (Ty.sl TValue)) (((nth (t := TTable) tables b.2.1).2).1)), (6, .data (Ty.int .i64) c3_0), (7, .data (Ty.sl TValue) c3_1), (8, .data (Ty.int .i64) v3)], []⟩ : St)) (F.spec_l12Broken_l3 tables b c3_0 c3_1) (fun v3 : Int => True) (outD (fun e3 : Unit => True → K (.exit 3) (⟨[(0, .data (Ty.sl TTable) tables), (3, .adr TBond b), (5, .data (Ty.sl (Ty.sl TValue)) (((nth (t := TTable) tables b.2.1).2).1)), (6, .data (Ty.int .i64) c3_0)], []⟩ : St)) (fun q3 : Unit => K .ret (⟨[(4, .data (Ty.int .i64) c3_0)], []⟩ : St))) m st_
@[reducible] def LP106_5 (tables : (List (TTable).D)) (b : (TBond).D) (m : Nat) (st_ : St) (K : X → St → Prop) : Prop := ∃ c5_0 : Int, ∃ c5_1 : (List (TValue).D), (Sm (Ty.sl TValue) c5_1 ∧ True) ∧ LoopW (fun v5 : Bool × Int => (⟨[(0, .data (Ty.sl TTable) tables), (3, .adr TBond b), (5, .data (Ty.sl (Ty.sl TValue)) (((nth (t := TTable) tables b.2.1).2).1)), (6, .data (Ty.int .i64) c5_0), (9, .data (Ty.sl TValue) c5_1), (10, .data Ty.bool v5.1), (11, .data (Ty.int .i64) v5.2)], []⟩ : St)) (F.spec_l12Broken_l5 tables b c5_0 c5_1) (fun v5 : Bool × Int => True) ((fun e5 : Bool => True → K (.exit 5) (⟨[(0, .data (Ty.sl TTable) tables), (3, .adr TBond b), (5, .data (Ty.sl (Ty.sl TValue)) (((nth (t := TTable) tables b.2.1).2).1)), (6, .data (Ty.int .i64) c5_0), (10, .data Ty.bool e5)], []⟩ : St))) m st_
def L106 (tables : (List (TTable).D)) (b : (TBond).D) : Loops := fun id m st_ K => match id with
  | 0 => LP106_0 tables b m st_ K
  | 3 => LP106_3 tables b m st_ K
  | 5 => LP106_5 tables b m st_ K
  | _ => False
theorem vc106 (tables : (List (TTable).D)) (b : (TBond).D) (K : AV → Hp → Prop) : awp C106 (L106 tables b) ann106 (bodyOf Go.Proofs.Tryz.f106) ⟨argEnv 0 [.data (Ty.sl TTable) tables, .data TBond b], []⟩ (outK tab Go.Proofs.Tryz.f106.results.toList (hasBox []) (resK (.dat (Ty.int .i64)) K)) =
  ((0 ≤ b.2.1) ∧ (b.2.1 < (tables.length : Int)) ∧ (∃ m_, (True) ∧ LoopI (fun (i0 : Int) (v0 : Unit) => (⟨[(0, .data (Ty.sl TTable) tables), (3, .adr TBond b), (5, .data (Ty.sl (Ty.sl TValue)) (((nth (t := TTable) tables b.2.1).2).1)), (6, .data (Ty.int .i64) i0)], []⟩ : St)) (0 : Int) ((((nth (t := TTable) tables b.2.1).2).1).length : Int) (F.spec_l12Broken_l0 tables b) (fun v0 : Unit => True) (outD (fun v0 : Unit => True → K (.data (Ty.int .i64) (-1 : Int)) []) (fun q0 : Int => K (.data (Ty.int .i64) q0) [])) m_ (⟨[(0, .data (Ty.sl TTable) tables), (3, .adr TBond b), (5, .data (Ty.sl (Ty.sl TValue)) (((nth (t := TTable) tables b.2.1).2).1)), (6, .data (Ty.int .i64) (0 : Int))], []⟩ : St))) := by kernel_rfl
theorem lvc106_0 (tables : (List (TTable).D)) (b : (TBond).D)  (i0 : Int) (v0 : Unit) (m : Nat) (K : X → St → Prop) : awp C106 (L106 tables b) ann106 (loopAt (bodyOf Go.Proofs.Tryz.f106) 0) (⟨[(0, .data (Ty.sl TTable) tables), (3, .adr TBond b), (5, .data (Ty.sl (Ty.sl TValue)) (((nth (t := TTable) tables b.2.1).2).1)), (6, .data (Ty.int .i64) i0)], []⟩ : St) (thenW (fun s' => ∃ m', m' < m ∧ (L106 tables b) 0 m' s' K) (exitN 0 (ann106 (behind 0)) K)) =
  (cond (decide (i0 < ((((nth (t := TTable) tables b.2.1).2).1).length : Int))) (cond (decide (b.1 = (3 : Int))) ((0 ≤ i0) ∧ (i0 < ((((nth (t := TTable) tables b.2.1).2).1).length : Int)) ∧ (Sm (Ty.sl TValue) (nth (t := (Ty.sl TValue)) (((nth (t := TTable) tables b.2.1).2).1) i0)) ∧ (Sm (Ty.sl TPart) b.2.2.2.2.2.2.1) ∧ (M.exprSafe (nth (t := (Ty.sl TValue)) (((nth (t := TTable) tables b.2.1).2).1) i0).length b.2.2.2.2.2.2.1) ∧ (∀ r_7_6 : (TValue).D, r_7_6 = (M.exprValue (nth (t := (Ty.sl TValue)) (((nth (t := TTable) tables b.2.1).2).1) i0) b.2.2.2.2.2.2.1) → (∀ r_7_7 : (TValue).D, r_7_7 = (M.valueOf (0 : Int)) → cond (Ty.beq TValue r_7_6 r_7_7) (K .ret (⟨[(4, .data (Ty.int .i64) i0)], []⟩ : St)) ((∃ m_, m_ < m ∧ (L106 tables b) 0 m_ (⟨[(0, .data (Ty.sl TTable) tables), (3, .adr TBond b), (5, .data (Ty.sl (Ty.sl TValue)) (((nth (t := TTable) tables b.2.1).2).1)), (6, .data (Ty.int .i64) (wrap64 (i0 + (1 : Int))))], []⟩ : St) K))))) (cond (decide (b.1 = (1 : Int))) ((0 ≤ i0) ∧ (i0 < ((((nth (t := TTable) tables b.2.1).2).1).length : Int)) ∧ (Sm (Ty.sl TValue) (nth (t := (Ty.sl TValue)) (((nth (t := TTable) tables b.2.1).2).1) i0)) ∧ (Sm (Ty.sl (Ty.int .i64)) b.2.2.1) ∧ (M.inRow (nth (t := (Ty.sl TValue)) (((nth (t := TTable) tables b.2.1).2).1) i0) b.2.2.1) ∧ (∀ r_10_6 : (List (TValue).D), r_10_6 = (M.taken (nth (t := (Ty.sl TValue)) (((nth (t := TTable) tables b.2.1).2).1) i0) b.2.2.1) → (∃ m_, ∃ c3_0 : Int, ∃ c3_1 : (List (TValue).D), (Sm (Ty.sl TValue) c3_1 ∧ True) ∧ LoopW (fun v3 : Int => (⟨[(0, .data (Ty.sl TTable) tables), (3, .adr TBond b), (5, .data (Ty.sl (Ty.sl TValue)) (((nth (t := TTable) tables b.2.1).2).1)), (6, .data (Ty.int .i64) c3_0), (7, .data (Ty.sl TValue) c3_1), (8, .data (Ty.int .i64) v3)], []⟩ : St)) (F.spec_l12Broken_l3 tables b c3_0 c3_1) (fun v3 : Int => True) (outD (fun e3 : Unit => True → (∃ m_, m_ < m ∧ (L106 tables b) 0 m_ (⟨[(0, .data (Ty.sl TTable) tables), (3, .adr TBond b), (5, .data (Ty.sl (Ty.sl TValue)) (((nth (t := TTable) tables b.2.1).2).1)), (6, .data (Ty.int .i64) (wrap64 (c3_0 + (1 : Int))))], []⟩ : St) K)) (fun q3 : Unit => K .ret (⟨[(4, .data (Ty.int .i64) c3_0)], []⟩ : St))) m_ (⟨[(0, .data (Ty.sl TTable) tables), (3, .adr TBond b), (5, .data (Ty.sl (Ty.sl TValue)) (((nth (t := TTable) tables b.2.1).2).1)), (6, .data (Ty.int .i64) i0), (7, .data (Ty.sl TValue) r_10_6), (8, .data (Ty.int .i64) (0 : Int))], []⟩ : St)))) (cond (decide (b.1 = (2 : Int))) ((0 ≤ i0) ∧ (i0 < ((((nth (t := TTable) tables b.2.1).2).1).length : Int)) ∧ (Sm (Ty.sl TValue) (nth (t := (Ty.sl TValue)) (((nth (t := TTable) tables b.2.1).2).1) i0)) ∧ (Sm (Ty.sl (Ty.int .i64)) b.2.2.1) ∧ (M.inRow (nth (t := (Ty.sl TValue)) (((nth (t := TTable) tables b.2.1).2).1) i0) b.2.2.1) ∧ (∀ r_17_6 : (List (TValue).D), r_17_6 = (M.taken (nth (t := (Ty.sl TValue)) (((nth (t := TTable) tables b.2.1).2).1) i0) b.2.2.1) → (Sm (Ty.sl TValue) r_17_6) ∧ (∃ m_, ∃ c5_0 : Int, ∃ c5_1 : (List (TValue).D), (Sm (Ty.sl TValue) c5_1 ∧ True) ∧ LoopW (fun v5 : Bool × Int => (⟨[(0, .data (Ty.sl TTable) tables), (3, .adr TBond b), (5, .data (Ty.sl (Ty.sl TValue)) (((nth (t := TTable) tables b.2.1).2).1)), (6, .data (Ty.int .i64) c5_0), (9, .data (Ty.sl TValue) c5_1), (10, .data Ty.bool v5.1), (11, .data (Ty.int .i64) v5.2)], []⟩ : St)) (F.spec_l12Broken_l5 tables b c5_0 c5_1) (fun v5 : Bool × Int => True) ((fun e5 : Bool => True → cond (!e5) (K .ret (⟨[(4, .data (Ty.int .i64) c5_0)], []⟩ : St)) ((∃ m_, m_ < m ∧ (L106 tables b) 0 m_ (⟨[(0, .data (Ty.sl TTable) tables), (3, .adr TBond b), (5, .data (Ty.sl (Ty.sl TValue)) (((nth (t := TTable) tables b.2.1).2).1)), (6, .data (Ty.int .i64) (wrap64 (c5_0 + (1 : Int))))], []⟩ : St) K)))) m_ (⟨[(0, .data (Ty.sl TTable) tables), (3, .adr TBond b), (5, .data (Ty.sl (Ty.sl TValue)) (((nth (t := TTable) tables b.2.1).2).1)), (6, .data (Ty.int .i64) i0), (9, .data (Ty.sl TValue) r_17_6), (10, .data Ty.bool (M.hasNone r_17_6)), (11, .data (Ty.int .i64) (0 : Int))], []⟩ : St)))) ((∃ m_, m_ < m ∧ (L106 tables b) 0 m_ (⟨[(0, .data (Ty.sl TTable) tables), (3, .adr TBond b), (5, .data (Ty.sl (Ty.sl TValue)) (((nth (t := TTable) tables b.2.1).2).1)), (6, .data (Ty.int .i64) (wrap64 (i0 + (1 : Int))))], []⟩ : St) K))))) (K (.exit 0) (⟨[], []⟩ : St))) := by kernel_rfl
theorem lvc106_1 (tables : (List (TTable).D)) (b : (TBond).D) (c3_0 : Int) (c3_1 : (List (TValue).D)) (v3 : Int) (m : Nat) (K : X → St → Prop) : awp C106 (L106 tables b) ann106 (loopAt (bodyOf Go.Proofs.Tryz.f106) 1) (⟨[(0, .data (Ty.sl TTable) tables), (3, .adr TBond b), (5, .data (Ty.sl (Ty.sl TValue)) (((nth (t := TTable) tables b.2.1).2).1)), (6, .data (Ty.int .i64) c3_0), (7, .data (Ty.sl TValue) c3_1), (8, .data (Ty.int .i64) v3)], []⟩ : St) (thenW (fun s' => ∃ m', m' < m ∧ (L106 tables b) 3 m' s' K) (exitN 3 (ann106 (behind 3)) K)) =
  (cond ((decide (v3 < c3_0)) == true) ((Sm (Ty.sl TValue) c3_1) ∧ cond (!(M.hasNone c3_1)) ((0 ≤ v3) ∧ (v3 < ((((nth (t := TTable) tables b.2.1).2).1).length : Int)) ∧ (Sm (Ty.sl TValue) (nth (t := (Ty.sl TValue)) (((nth (t := TTable) tables b.2.1).2).1) v3)) ∧ (Sm (Ty.sl (Ty.int .i64)) b.2.2.1) ∧ (M.inRow (nth (t := (Ty.sl TValue)) (((nth (t := TTable) tables b.2.1).2).1) v3) b.2.2.1) ∧ (∀ r_14_6 : (List (TValue).D), r_14_6 = (M.taken (nth (t := (Ty.sl TValue)) (((nth (t := TTable) tables b.2.1).2).1) v3) b.2.2.1) → (Sm (Ty.sl TValue) r_14_6) ∧ (Sm (Ty.sl TValue) c3_1) ∧ cond (decide (r_14_6 = c3_1)) (K .ret (⟨[(4, .data (Ty.int .i64) c3_0)], []⟩ : St)) ((∃ m_, m_ < m ∧ (L106 tables b) 3 m_ (⟨[(0, .data (Ty.sl TTable) tables), (3, .adr TBond b), (5, .data (Ty.sl (Ty.sl TValue)) (((nth (t := TTable) tables b.2.1).2).1)), (6, .data (Ty.int .i64) c3_0), (7, .data (Ty.sl TValue) c3_1), (8, .data (Ty.int .i64) (wrap64 (v3 + (1 : Int))))], []⟩ : St) K)))) (K (.exit 3) (⟨[(0, .data (Ty.sl TTable) tables), (3, .adr TBond b), (5, .data (Ty.sl (Ty.sl TValue)) (((nth (t := TTable) tables b.2.1).2).1)), (6, .data (Ty.int .i64) c3_0)], []⟩ : St))) (K (.exit 3) (⟨[(0, .data (Ty.sl TTable) tables), (3, .adr TBond b), (5, .data (Ty.sl (Ty.sl TValue)) (((nth (t := TTable) tables b.2.1).2).1)), (6, .data (Ty.int .i64) c3_0)], []⟩ : St))) := by kernel_rfl
theorem lvc106_2 (tables : (List (TTable).D)) (b : (TBond).D) (c5_0 : Int) (c5_1 : (List (TValue).D)) (v5 : Bool × Int) (m : Nat) (K : X → St → Prop) : awp C106 (L106 tables b) ann106 (loopAt (bodyOf Go.Proofs.Tryz.f106) 2) (⟨[(0, .data (Ty.sl TTable) tables), (3, .adr TBond b), (5, .data (Ty.sl (Ty.sl TValue)) (((nth (t := TTable) tables b.2.1).2).1)), (6, .data (Ty.int .i64) c5_0), (9, .data (Ty.sl TValue) c5_1), (10, .data Ty.bool v5.1), (11, .data (Ty.int .i64) v5.2)], []⟩ : St) (thenW (fun s' => ∃ m', m' < m ∧ (L106 tables b) 5 m' s' K) (exitN 5 (ann106 (behind 5)) K)) =
  ((0 ≤ b.2.2.2.1) ∧ (b.2.2.2.1 < (tables.length : Int)) ∧ cond ((decide (v5.2 < ((((nth (t := TTable) tables b.2.2.2.1).2).1).length : Int))) == true) (cond (!v5.1) ((0 ≤ b.2.2.2.1) ∧ (b.2.2.2.1 < (tables.length : Int)) ∧ (0 ≤ v5.2) ∧ (v5.2 < ((((nth (t := TTable) tables b.2.2.2.1).2).1).length : Int)) ∧ (Sm (Ty.sl TValue) (nth (t := (Ty.sl TValue)) (((nth (t := TTable) tables b.2.2.2.1).2).1) v5.2)) ∧ (Sm (Ty.sl (Ty.int .i64)) b.2.2.2.2.1) ∧ (M.inRow (nth (t := (Ty.sl TValue)) (((nth (t := TTable) tables b.2.2.2.1).2).1) v5.2) b.2.2.2.2.1) ∧ (∀ r_22_11 : (List (TValue).D), r_22_11 = (M.taken (nth (t := (Ty.sl TValue)) (((nth (t := TTable) tables b.2.2.2.1).2).1) v5.2) b.2.2.2.2.1) → (Sm (Ty.sl TValue) r_22_11) ∧ (Sm (Ty.sl TValue) c5_1) ∧ (∃ m_, m_ < m ∧ (L106 tables b) 5 m_ (⟨[(0, .data (Ty.sl TTable) tables), (3, .adr TBond b), (5, .data (Ty.sl (Ty.sl TValue)) (((nth (t := TTable) tables b.2.1).2).1)), (6, .data (Ty.int .i64) c5_0), (9, .data (Ty.sl TValue) c5_1), (10, .data Ty.bool (decide (r_22_11 = c5_1))), (11, .data (Ty.int .i64) (wrap64 (v5.2 + (1 : Int))))], []⟩ : St) K))) (K (.exit 5) (⟨[(0, .data (Ty.sl TTable) tables), (3, .adr TBond b), (5, .data (Ty.sl (Ty.sl TValue)) (((nth (t := TTable) tables b.2.1).2).1)), (6, .data (Ty.int .i64) c5_0), (10, .data Ty.bool v5.1)], []⟩ : St))) (K (.exit 5) (⟨[(0, .data (Ty.sl TTable) tables), (3, .adr TBond b), (5, .data (Ty.sl (Ty.sl TValue)) (((nth (t := TTable) tables b.2.1).2).1)), (6, .data (Ty.int .i64) c5_0), (10, .data Ty.bool v5.1)], []⟩ : St))) := by kernel_rfl
theorem con106_ok : ConOk P 106 c106 := by
  refine con_okR (fn := Go.Proofs.Tryz.f106) (code := bodyOf Go.Proofs.Tryz.f106) (tab_ok tab_check cmp_check) consOk106 mixed Go.Proofs.Tryz.func106 rfl rfl fun args hp K h0 => ?_
  obtain ⟨a0, a1, rfl, rfl, h1⟩ := args2_elim h0
  obtain ⟨tables, rfl, h2⟩ := withD_elim h1
  obtain ⟨b, rfl, h3⟩ := withD_elim h2
  obtain ⟨h_tables, h_b, p0, hK⟩ := h3
  have h : ok (F.spec_l12Broken tables b) (fun r => K (.data (Ty.int .i64) r) []) := ok_of_eq (F.spec_l12Broken_eq tables b h_tables h_b p0) hK
  refine ⟨⟨show (2 : Nat) ≤ 110 by decide, show (2 : Nat) ≤ 1000000 by decide⟩, ann106, (L106 tables b), (.dat (Ty.int .i64)), (loopsN3 (i0 := 0) (i1 := 3) (i2 := 5) (by kernel_rfl) ?_ ?_ ?_), ?_⟩
  · clear h
    intro m_ s_ K_ h
    obtain ⟨hc0, i0, v0, rfl, hl0, rfl, hv0, h⟩ := (show LP106_0 tables b m_ s_ K_ from h)
    rw [lvc106_0 tables b i0 v0 _ K_]
    exact (loopI_step h (fun ht0 h => (ok_cond h (fun b_32 h => ⟨hl0, ⟨ht0, ⟨(sm_nth (sm_nth h_tables b.2.1).2.1 i0), ⟨h_b.2.2.2.2.2.2.1, ⟨(ok_guard h).1, have g_33 := (ok_guard h).1; have h := (ok_guard h).2; (fun r_7_6 e_r_7_6 => have h := ok_let h r_7_6 e_r_7_6; (fun r_7_7 e_r_7_7 => have h := ok_let h r_7_7 e_r_7_7; (ok_cond h (fun b_34 h => (have h := ok_ret h; h)) (fun b_34 h => (loopI_next (fun m hm => (show LP106_0 tables b m _ _ from ⟨hc0, hm⟩)) () rfl hl0 low0 ht0 (sm_len (sm_nth h_tables b.2.1).2.1) trivial (have h := ok_ret h; h))))))⟩⟩⟩⟩⟩) (fun b_32 h => (ok_cond h (fun b_35 h => ⟨hl0, ⟨ht0, ⟨(sm_nth (sm_nth h_tables b.2.1).2.1 i0), ⟨h_b.2.2.1, ⟨(ok_guard h).1, have g_36 := (ok_guard h).1; have h := (ok_guard h).2; (fun r_10_6 e_r_10_6 => have h := ok_let h r_10_6 e_r_10_6; (loopW_start (fun m hm => ⟨i0, r_10_6, ⟨(sm_of_eq e_r_10_6 (M.taken_sm (sm_nth (sm_nth h_tables b.2.1).2.1 i0) h_b.2.2.1)), trivial⟩, hm⟩) (0 : Int) rfl trivial (ok_then h (fun e3 h hv3 => (loopI_next (fun m hm => (show LP106_0 tables b m _ _ from ⟨hc0, hm⟩)) () rfl hl0 low0 ht0 (sm_len (sm_nth h_tables b.2.1).2.1) trivial (have h := ok_ret h; h))) (fun q3 h => (have h := ok_ret h; h)))))⟩⟩⟩⟩⟩) (fun b_35 h => (ok_cond h (fun b_37 h => ⟨hl0, ⟨ht0, ⟨(sm_nth (sm_nth h_tables b.2.1).2.1 i0), ⟨h_b.2.2.1, ⟨(ok_guard h).1, have g_38 := (ok_guard h).1; have h := (ok_guard h).2; (fun r_17_6 e_r_17_6 => have h := ok_let h r_17_6 e_r_17_6; ⟨(sm_of_eq e_r_17_6 (M.taken_sm (sm_nth (sm_nth h_tables b.2.1).2.1 i0) h_b.2.2.1)), (loopW_start (fun m hm => ⟨i0, r_17_6, ⟨(sm_of_eq e_r_17_6 (M.taken_sm (sm_nth (sm_nth h_tables b.2.1).2.1 i0) h_b.2.2.1)), trivial⟩, hm⟩) ((M.hasNone r_17_6), (0 : Int)) rfl trivial (ok_bind h (fun e5 h hv5 => (ok_cond h (fun b_39 h => (have h := ok_ret h; h)) (fun b_39 h => (loopI_next (fun m hm => (show LP106_0 tables b m _ _ from ⟨hc0, hm⟩)) () rfl hl0 low0 ht0 (sm_len (sm_nth h_tables b.2.1).2.1) trivial (have h := ok_ret h; h)))))))⟩)⟩⟩⟩⟩⟩) (fun b_37 h => (loopI_next (fun m hm => (show LP106_0 tables b m _ _ from ⟨hc0, hm⟩)) () rfl hl0 low0 ht0 (sm_len (sm_nth h_tables b.2.1).2.1) trivial (have h := ok_ret h; h))))))))) (fun h => (h trivial)))
  · clear h
    intro m_ s_ K_ h
    obtain ⟨c3_0, c3_1, hc3, v3, rfl, hv3, h⟩ := (show LP106_3 tables b m_ s_ K_ from h)
    rw [lvc106_1 tables b c3_0 c3_1 v3 _ K_]
    exact (loopW_step h (fun m1 hm3 h => (ok_cond h (fun b_13 h => ⟨hc3.1, (ok_cond h (fun b_14 h => ⟨(ok_guard h).1, have g_15 := (ok_guard h).1; have h := (ok_guard h).2; ⟨(ok_guard h).1, have g_16 := (ok_guard h).1; have h := (ok_guard h).2; ⟨(sm_nth (sm_nth h_tables b.2.1).2.1 v3), ⟨h_b.2.2.1, ⟨(ok_guard h).1, have g_17 := (ok_guard h).1; have h := (ok_guard h).2; (fun r_14_6 e_r_14_6 => have h := ok_let h r_14_6 e_r_14_6; ⟨(sm_of_eq e_r_14_6 (M.taken_sm (sm_nth (sm_nth h_tables b.2.1).2.1 v3) h_b.2.2.1)), ⟨hc3.1, (ok_cond h (fun b_18 h => (have h := ok_ret h; h)) (fun b_18 h => (loopW_next (fun m hm => (show LP106_3 tables b m _ _ from ⟨c3_0, c3_1, hc3, hm⟩)) hm3 (wrap64 (v3 + (1 : Int))) rfl trivial (have h := ok_ret h; h))))⟩⟩)⟩⟩⟩⟩⟩) (fun b_14 h => ((have h := ok_ret h; h) trivial)))⟩) (fun b_13 h => ((have h := ok_ret h; h) trivial)))))
  · clear h
    intro m_ s_ K_ h
    obtain ⟨c5_0, c5_1, hc5, v5, rfl, hv5, h⟩ := (show LP106_5 tables b m_ s_ K_ from h)
    rw [lvc106_2 tables b c5_0 c5_1 v5 _ K_]
    exact (loopW_step h (fun m1 hm5 h => ⟨(ok_guard h).1, have g_23 := (ok_guard h).1; have h := (ok_guard h).2; ⟨(ok_guard h).1, have g_24 := (ok_guard h).1; have h := (ok_guard h).2; (ok_cond h (fun b_25 h => (ok_cond h (fun b_26 h => ⟨g_23, ⟨g_24, ⟨(ok_guard h).1, have g_27 := (ok_guard h).1; have h := (ok_guard h).2; ⟨(ok_guard h).1, have g_28 := (ok_guard h).1; have h := (ok_guard h).2; ⟨(sm_nth (sm_nth h_tables b.2.2.2.1).2.1 v5.2), ⟨h_b.2.2.2.2.1, ⟨(ok_guard h).1, have g_29 := (ok_guard h).1; have h := (ok_guard h).2; (fun r_22_11 e_r_22_11 => have h := ok_let h r_22_11 e_r_22_11; ⟨(sm_of_eq e_r_22_11 (M.taken_sm (sm_nth (sm_nth h_tables b.2.2.2.1).2.1 v5.2) h_b.2.2.2.2.1)), ⟨hc5.1, (loopW_next (fun m hm => (show LP106_5 tables b m _ _ from ⟨c5_0, c5_1, hc5, hm⟩)) hm5 ((decide (r_22_11 = c5_1)), wrap64 (v5.2 + (1 : Int))) rfl trivial (have h := ok_ret h; h))⟩⟩)⟩⟩⟩⟩⟩⟩⟩) (fun b_26 h => ((have h := ok_ret h; h) trivial)))) (fun b_25 h => ((have h := ok_ret h; h) trivial)))⟩⟩))
  · rw [vc106 tables b K]
    exact ⟨(ok_guard h).1, have g_1 := (ok_guard h).1; have h := (ok_guard h).2; ⟨(ok_guard h).1, have g_2 := (ok_guard h).1; have h := (ok_guard h).2; (loopI_start (fun m hm => ⟨trivial, hm⟩) (0 : Int) () rfl (Int.natCast_nonneg 0) trivial (ok_then h (fun v0 h hv0 => (have h := ok_ret h; h)) (fun q0 h => (have h := ok_ret h; h))))⟩⟩

/-! 63: loop.example/tablehouse/spec.BondBroken -/
def c63 : Con := ⟨[.dat (Ty.sl TTable), .dat TBond], fun args hp K => args2 (fun a0 a1 => withD (Ty.sl TTable) a0 fun tables => withD TBond a1 fun b => (Sm (Ty.sl TTable) tables) ∧ (Sm TBond b) ∧ K (.data (Ty.int .i64) (M.bondBroken tables b)) []) args hp⟩
def cons63 : Cons := [(105, c105), (106, c106)]
def inl63 : List (Nat × Inl) := []
@[reducible] def C63 : Ctx := ⟨tab, fun t => memN t cmps, cons63, 12, inl63, 0⟩
theorem consOk63 : ConsOk P C63 := by
  refine consOk_cons (enter_ok (fn := Go.Proofs.Tryz.f105) Go.Proofs.Tryz.func105 (by kernel_rfl) rfl) con105_ok ?_
  refine consOk_cons (enter_ok (fn := Go.Proofs.Tryz.f106) Go.Proofs.Tryz.func106 (by kernel_rfl) rfl) con106_ok ?_
  exact consOk_nil
def ann63 : Nat → List Dir
  | 0 => [.fixRow 3 TBond, .keep [0, 3]]
  | 1 => [.keep [0, 3, 8]]
  | 2 => [.keep [4]]
  | 3 => [.keep [4]]
  | _ => []
def L63 (tables : (List (TTable).D)) (b : (TBond).D) : Loops := fun id m st_ K => match id with
  | _ => False
theorem vc63 (tables : (List (TTable).D)) (b : (TBond).D) (K : AV → Hp → Prop) : awp C63 (L63 tables b) ann63 (bodyOf Go.Proofs.Tryz.f63) ⟨argEnv 0 [.data (Ty.sl TTable) tables, .data TBond b], []⟩ (outK tab Go.Proofs.Tryz.f63.results.toList (hasBox []) (resK (.dat (Ty.int .i64)) K)) =
  ((Sm (Ty.sl TTable) tables) ∧ (Sm TBond b) ∧ cond (!(M.tablesOk tables && M.bondOk tables b)) (K (.data (Ty.int .i64) (-2 : Int)) []) ((Sm (Ty.sl TTable) tables) ∧ (Sm TBond b) ∧ ((M.tablesOk tables && M.bondOk tables b) = true) ∧ K (.data (Ty.int .i64) (M.broken tables b)) [])) := by kernel_rfl
theorem con63_ok : ConOk P 63 c63 := by
  refine con_okR (fn := Go.Proofs.Tryz.f63) (code := bodyOf Go.Proofs.Tryz.f63) (tab_ok tab_check cmp_check) consOk63 mixed Go.Proofs.Tryz.func63 rfl rfl fun args hp K h0 => ?_
  obtain ⟨a0, a1, rfl, rfl, h1⟩ := args2_elim h0
  obtain ⟨tables, rfl, h2⟩ := withD_elim h1
  obtain ⟨b, rfl, h3⟩ := withD_elim h2
  obtain ⟨h_tables, h_b, hK⟩ := h3
  have h : ok (F.spec_BondBroken tables b) (fun r => K (.data (Ty.int .i64) r) []) := ok_of_eq (F.spec_BondBroken_eq tables b h_tables h_b) hK
  refine ⟨⟨show (2 : Nat) ≤ 12 by decide, show (2 : Nat) ≤ 1000000 by decide⟩, ann63, (L63 tables b), (.dat (Ty.int .i64)), (no_loops (by kernel_rfl)), ?_⟩
  · rw [vc63 tables b K]
    exact ⟨h_tables, ⟨h_b, (ok_cond h (fun b_1 h => (have h := ok_ret h; h)) (fun b_1 h => ⟨h_tables, ⟨h_b, ⟨(bnf b_1), (have h := ok_ret h; h)⟩⟩⟩))⟩⟩

/-! 26: loop.example/tablehouse/spec.BondsHold -/
def c26 : Con := ⟨[.dat (Ty.sl TTable), .dat (Ty.sl TBond)], fun args hp K => args2 (fun a0 a1 => withD (Ty.sl TTable) a0 fun tables => withD (Ty.sl TBond) a1 fun bonds => (Sm (Ty.sl TTable) tables) ∧ (Sm (Ty.sl TBond) bonds) ∧ K (.data Ty.bool (M.bondsHold tables bonds)) []) args hp⟩
def cons26 : Cons := [(63, c63)]
def inl26 : List (Nat × Inl) := []
@[reducible] def C26 : Ctx := ⟨tab, fun t => memN t cmps, cons26, 22, inl26, 0⟩
theorem consOk26 : ConsOk P C26 := by
  refine consOk_cons (enter_ok (fn := Go.Proofs.Tryz.f63) Go.Proofs.Tryz.func63 (by kernel_rfl) rfl) con63_ok ?_
  exact consOk_nil
def ann26 : Nat → List Dir
  | 0 => [.keep [0, 1]]
  | 1 => [.keep [0, 1, 5]]
  | 2 => [.keep [0, 1, 5, 9]]
  | 3 => [.keep [0, 1, 5]]
  | 4 => [.keep [0, 1, 5, 18]]
  | 5 => [.keep [4]]
  | 6 => [.keep [4]]
  | 100000 => [.keep [1]]
  | _ => []
@[reducible] def LP26_0 (tables : (List (TTable).D)) (bonds : (List (TBond).D)) (m : Nat) (st_ : St) (K : X → St → Prop) : Prop := (True) ∧ LoopE (t := TBond) (fun (i0 : Int) (v0 : Unit) => (⟨[(0, .data (Ty.sl TTable) tables), (1, .data (Ty.sl TBond) bonds), (5, .data (Ty.int .i64) i0)], []⟩ : St)) bonds (F.spec_BondsHold_l0 tables bonds) (fun v0 : Unit => True) (outD (fun v0 : Unit => True → K (.exit 0) (⟨[(1, .data (Ty.sl TBond) bonds)], []⟩ : St)) (fun q0 : Unit => K .ret (⟨[(4, .data Ty.bool false)], []⟩ : St))) m st_
def L26 (tables : (List (TTable).D)) (bonds : (List (TBond).D)) : Loops := fun id m st_ K => match id with
  | 0 => LP26_0 tables bonds m st_ K
  | _ => False
theorem vc26 (tables : (List (TTable).D)) (bonds : (List (TBond).D)) (K : AV → Hp → Prop) : awp C26 (L26 tables bonds) ann26 (bodyOf Go.Proofs.Tryz.f26) ⟨argEnv 0 [.data (Ty.sl TTable) tables, .data (Ty.sl TBond) bonds], []⟩ (outK tab Go.Proofs.Tryz.f26.results.toList (hasBox []) (resK (.dat Ty.bool) K)) =
  ((∃ m_, (True) ∧ LoopE (t := TBond) (fun (i0 : Int) (v0 : Unit) => (⟨[(0, .data (Ty.sl TTable) tables), (1, .data (Ty.sl TBond) bonds), (5, .data (Ty.int .i64) i0)], []⟩ : St)) bonds (F.spec_BondsHold_l0 tables bonds) (fun v0 : Unit => True) (outD (fun v0 : Unit => True → K (.data Ty.bool (decide ((bonds.length : Int) ≤ (4 : Int)))) []) (fun q0 : Unit => K (.data Ty.bool false) [])) m_ (⟨[(0, .data (Ty.sl TTable) tables), (1, .data (Ty.sl TBond) bonds), (5, .data (Ty.int .i64) (0 : Int))], []⟩ : St))) := by kernel_rfl
theorem lvc26_0 (tables : (List (TTable).D)) (bonds : (List (TBond).D))  (i0 : Int) (v0 : Unit) (m : Nat) (K : X → St → Prop) : awp C26 (L26 tables bonds) ann26 (loopAt (bodyOf Go.Proofs.Tryz.f26) 0) (⟨[(0, .data (Ty.sl TTable) tables), (1, .data (Ty.sl TBond) bonds), (5, .data (Ty.int .i64) i0)], []⟩ : St) (thenW (fun s' => ∃ m', m' < m ∧ (L26 tables bonds) 0 m' s' K) (exitN 0 (ann26 (behind 0)) K)) =
  (cond (decide (i0 < (bonds.length : Int))) ((0 ≤ i0) ∧ (i0 < (bonds.length : Int)) ∧ (Sm (Ty.sl TTable) tables) ∧ (Sm TBond (nth (t := TBond) bonds i0)) ∧ cond (!decide ((M.bondBroken tables (nth (t := TBond) bonds i0)) = (-1 : Int))) (K .ret (⟨[(4, .data Ty.bool false)], []⟩ : St)) ((∃ m_, m_ < m ∧ (L26 tables bonds) 0 m_ (⟨[(0, .data (Ty.sl TTable) tables), (1, .data (Ty.sl TBond) bonds), (5, .data (Ty.int .i64) (wrap64 (i0 + (1 : Int))))], []⟩ : St) K))) (K (.exit 0) (⟨[(1, .data (Ty.sl TBond) bonds)], []⟩ : St))) := by kernel_rfl
theorem con26_ok : ConOk P 26 c26 := by
  refine con_okR (fn := Go.Proofs.Tryz.f26) (code := bodyOf Go.Proofs.Tryz.f26) (tab_ok tab_check cmp_check) consOk26 mixed Go.Proofs.Tryz.func26 rfl rfl fun args hp K h0 => ?_
  obtain ⟨a0, a1, rfl, rfl, h1⟩ := args2_elim h0
  obtain ⟨tables, rfl, h2⟩ := withD_elim h1
  obtain ⟨bonds, rfl, h3⟩ := withD_elim h2
  obtain ⟨h_tables, h_bonds, hK⟩ := h3
  have h : ok (F.spec_BondsHold tables bonds) (fun r => K (.data Ty.bool r) []) := ok_of_eq (F.spec_BondsHold_eq tables bonds h_tables h_bonds) hK
  refine ⟨⟨show (2 : Nat) ≤ 22 by decide, show (2 : Nat) ≤ 1000000 by decide⟩, ann26, (L26 tables bonds), (.dat Ty.bool), (loopsN1 (i0 := 0) (by kernel_rfl) ?_), ?_⟩
  · clear h
    intro m_ s_ K_ h
    obtain ⟨hc0, i0, v0, rfl, hl0, rfl, hv0, h⟩ := (show LP26_0 tables bonds m_ s_ K_ from h)
    rw [lvc26_0 tables bonds i0 v0 _ K_]
    exact (loopE_step (t := TBond) hl0 h (fun ht0 h => ⟨hl0, ⟨ht0, ⟨h_tables, ⟨(sm_nth h_bonds i0), (ok_cond h (fun b_9 h => (have h := ok_ret h; h)) (fun b_9 h => (loopE_next (t := TBond) (fun m hm => (show LP26_0 tables bonds m _ _ from ⟨hc0, hm⟩)) () rfl hl0 ht0 (sm_len h_bonds) trivial (have h := ok_ret h; h))))⟩⟩⟩⟩) (fun h => (h trivial)))
  · rw [vc26 tables bonds K]
    exact (loopE_start (t := TBond) (fun m hm => ⟨trivial, hm⟩) () rfl trivial (ok_then h (fun v0 h hv0 => (have h := ok_ret h; h)) (fun q0 h => (have h := ok_ret h; h))))

/-! 122: loop.example/tablehouse/laws.toPart -/
def c122 : Con := ⟨[.dat TPart], fun args hp K => args1 (fun a0 => withD TPart a0 fun x => (Sm TPart x) ∧ (∀ r : (TPart).D, r = (x) → K (.data TPart r) [])) args hp⟩
def cons122 : Cons := [(158, c158)]
def inl122 : List (Nat × Inl) := []
@[reducible] def C122 : Ctx := ⟨tab, fun t => memN t cmps, cons122, 15, inl122, 0⟩
theorem consOk122 : ConsOk P C122 := by
  refine consOk_cons (enter_ok (fn := Go.Proofs.Tryz.f158) Go.Proofs.Tryz.func158 (by kernel_rfl) rfl) con158_ok ?_
  exact consOk_nil
def ann122 : Nat → List Dir
  | 0 => [.fixRow 1 TPart, .keep [1, 2]]
  | 1 => [.keep [1, 2, 3]]
  | 2 => [.keep [1, 2, 3]]
  | 3 => [.keep [1, 2, 3]]
  | 4 => [.keep [2, 3]]
  | 5 => [.keep [2]]
  | _ => []
def L122 (x : (TPart).D) : Loops := fun id m st_ K => match id with
  | _ => False
theorem vc122 (x : (TPart).D) (K : AV → Hp → Prop) : awp C122 (L122 x) ann122 (bodyOf Go.Proofs.Tryz.f122) ⟨argEnv 0 [.data TPart x], []⟩ (outK tab Go.Proofs.Tryz.f122.results.toList (hasBox []) (resK (.dat TPart) K)) =
  ((Sm TValue x.2.2.1) ∧ (∀ r_4_2 : (TValue).D, r_4_2 = (x.2.2.1) → K (.data TPart (x.1, (x.2.1, (r_4_2, ())))) [])) := by kernel_rfl
theorem con122_ok : ConOk P 122 c122 := by
  refine con_okR (fn := Go.Proofs.Tryz.f122) (code := bodyOf Go.Proofs.Tryz.f122) (tab_ok tab_check cmp_check) consOk122 mixed Go.Proofs.Tryz.func122 rfl rfl fun args hp K h0 => ?_
  obtain ⟨a0, rfl, rfl, h1⟩ := args1_elim h0
  obtain ⟨x, rfl, h2⟩ := withD_elim h1
  obtain ⟨h_x, hK⟩ := h2
  have h : ok (F.laws_toPart x) (fun r => K (.data TPart r) []) := ok_of_eq (F.laws_toPart_eq x h_x) (hK _ rfl)
  refine ⟨⟨show (1 : Nat) ≤ 15 by decide, show (1 : Nat) ≤ 1000000 by decide⟩, ann122, (L122 x), (.dat TPart), (no_loops (by kernel_rfl)), ?_⟩
  · rw [vc122 x K]
    exact ⟨h_x.2.2.1, (fun r_4_2 e_r_4_2 => have h := ok_let h r_4_2 e_r_4_2; (have h := ok_ret h; h))⟩

/-! 82: loop.example/tablehouse/laws.toPartS -/
def c82 : Con := ⟨[.dat (Ty.sl TPart)], fun args hp K => args1 (fun a0 => withD (Ty.sl TPart) a0 fun x => (Sm (Ty.sl TPart) x) ∧ (∀ r : (List (TPart).D), r = (x) → K (.own 0 none) [(0, .arr TPart r)])) args hp⟩
def cons82 : Cons := [(122, c122)]
def inl82 : List (Nat × Inl) := []
@[reducible] def C82 : Ctx := ⟨tab, fun t => memN t cmps, cons82, 23, inl82, 0⟩
theorem consOk82 : ConsOk P C82 := by
  refine consOk_cons (enter_ok (fn := Go.Proofs.Tryz.f122) Go.Proofs.Tryz.func122 (by kernel_rfl) rfl) con122_ok ?_
  exact consOk_nil
def ann82 : Nat → List Dir
  | 0 => [.keep [0]]
  | 1 => [.keep [0, 3]]
  | 2 => [.keep [0, 3, 4]]
  | 3 => [.keep [0, 3, 4, 11]]
  | 4 => [.keep [0, 3, 4]]
  | 5 => [.keep [0, 3, 4]]
  | 6 => [.keep [2]]
  | 100000 => [.keep [3]]
  | _ => []
@[reducible] def LP82_0 (x : (List (TPart).D)) (m : Nat) (st_ : St) (K : X → St → Prop) : Prop := (True) ∧ LoopI (fun (i0 : Int) (v0 : (List (TPart).D)) => (⟨[(0, .data (Ty.sl TPart) x), (3, .own 7 none), (4, .data (Ty.int .i64) i0)], [(7, .arr TPart v0)]⟩ : St)) (0 : Int) (x.length : Int) (F.laws_toPartS_l0 x) (fun v0 : (List (TPart).D) => True) (outD (fun v0 : (List (TPart).D) => True → K (.exit 0) (⟨[(3, .own 7 none)], [(7, .arr TPart v0)]⟩ : St)) (fun _ => False)) m st_
def L82 (x : (List (TPart).D)) : Loops := fun id m st_ K => match id with
  | 0 => LP82_0 x m st_ K
  | _ => False
theorem vc82 (x : (List (TPart).D)) (K : AV → Hp → Prop) : awp C82 (L82 x) ann82 (bodyOf Go.Proofs.Tryz.f82) ⟨argEnv 0 [.data (Ty.sl TPart) x], []⟩ (outK tab Go.Proofs.Tryz.f82.results.toList (hasBox []) (resK .raw K)) =
  (((x.length : Int) = (x.length : Int)) ∧ (0 ≤ (x.length : Int)) ∧ ((x.length : Int) * 48 ≤ (lim : Int)) ∧ (∃ m_, (True) ∧ LoopI (fun (i0 : Int) (v0 : (List (TPart).D)) => (⟨[(0, .data (Ty.sl TPart) x), (3, .own 7 none), (4, .data (Ty.int .i64) i0)], [(7, .arr TPart v0)]⟩ : St)) (0 : Int) (x.length : Int) (F.laws_toPartS_l0 x) (fun v0 : (List (TPart).D) => True) (outD (fun v0 : (List (TPart).D) => True → K (.own 0 none) [(0, .arr TPart v0)]) (fun _ => False)) m_ (⟨[(0, .data (Ty.sl TPart) x), (3, .own 7 none), (4, .data (Ty.int .i64) (0 : Int))], [(7, .arr TPart (List.replicate (x.length : Int).toNat ((0 : Int), ((0 : Int), (((0 : Int), ((0 : Int), ((⟨#[]⟩ : ByteArray), ()))), ())))))]⟩ : St))) := by kernel_rfl
theorem lvc82_0 (x : (List (TPart).D))  (i0 : Int) (v0 : (List (TPart).D)) (m : Nat) (K : X → St → Prop) : awp C82 (L82 x) ann82 (loopAt (bodyOf Go.Proofs.Tryz.f82) 0) (⟨[(0, .data (Ty.sl TPart) x), (3, .own 7 none), (4, .data (Ty.int .i64) i0)], [(7, .arr TPart v0)]⟩ : St) (thenW (fun s' => ∃ m', m' < m ∧ (L82 x) 0 m' s' K) (exitN 0 (ann82 (behind 0)) K)) =
  (cond (decide (i0 < (x.length : Int))) ((0 ≤ i0) ∧ (i0 < (x.length : Int)) ∧ (Sm TPart (nth (t := TPart) x i0)) ∧ (∀ r_5_6 : (TPart).D, r_5_6 = ((nth (t := TPart) x i0)) → (0 ≤ i0) ∧ (i0 < (v0.length : Int)) ∧ (∃ m_, m_ < m ∧ (L82 x) 0 m_ (⟨[(0, .data (Ty.sl TPart) x), (3, .own 7 none), (4, .data (Ty.int .i64) (wrap64 (i0 + (1 : Int))))], [(7, .arr TPart (v0.set i0.toNat r_5_6))]⟩ : St) K))) (K (.exit 0) (⟨[(3, .own 7 none)], [(7, .arr TPart v0)]⟩ : St))) := by kernel_rfl
theorem con82_ok : ConOk P 82 c82 := by
  refine con_okR (fn := Go.Proofs.Tryz.f82) (code := bodyOf Go.Proofs.Tryz.f82) (tab_ok tab_check cmp_check) consOk82 mixed Go.Proofs.Tryz.func82 rfl rfl fun args hp K h0 => ?_
  obtain ⟨a0, rfl, rfl, h1⟩ := args1_elim h0
  obtain ⟨x, rfl, h2⟩ := withD_elim h1
  obtain ⟨h_x, hK⟩ := h2
  have h : ok (F.laws_toPartS x) (fun r => K (.own 0 none) [(0, .arr TPart r)]) := ok_of_eq (F.laws_toPartS_eq x h_x) (hK _ rfl)
  refine ⟨⟨show (1 : Nat) ≤ 23 by decide, show (1 : Nat) ≤ 1000000 by decide⟩, ann82, (L82 x), .raw, (loopsN1 (i0 := 0) (by kernel_rfl) ?_), ?_⟩
  · clear h
    intro m_ s_ K_ h
    obtain ⟨hc0, i0, v0, rfl, hl0, rfl, hv0, h⟩ := (show LP82_0 x m_ s_ K_ from h)
    rw [lvc82_0 x i0 v0 _ K_]
    exact (loopI_step h (fun ht0 h => ⟨hl0, ⟨ht0, ⟨(sm_nth h_x i0), (fun r_5_6 e_r_5_6 => have h := ok_let h r_5_6 e_r_5_6; ⟨hl0, ⟨(ok_guard h).1, have g_13 := (ok_guard h).1; have h := (ok_guard h).2; (loopI_next (fun m hm => (show LP82_0 x m _ _ from ⟨hc0, hm⟩)) (v0.set i0.toNat r_5_6) rfl hl0 low0 ht0 (sm_len h_x) trivial (have h := ok_ret h; h))⟩⟩)⟩⟩⟩) (fun h => (h trivial)))
  · rw [vc82 x K]
    exact ⟨rfl, ⟨(Int.natCast_nonneg _), ⟨(sm_limI h_x rfl), (loopI_start (fun m hm => ⟨trivial, hm⟩) (0 : Int) (List.replicate (x.length : Int).toNat ((0 : Int), ((0 : Int), (((0 : Int), ((0 : Int), ((⟨#[]⟩ : ByteArray), ()))), ())))) rfl (Int.natCast_nonneg 0) trivial (ok_then h (fun v0 h hv0 => (have h := ok_ret h; h)) (fun _ h => h.elim)))⟩⟩⟩

/-! 83: loop.example/tablehouse/laws.toIntS -/
def c83 : Con := ⟨[.dat (Ty.sl (Ty.int .i64))], fun args hp K => args1 (fun a0 => withD (Ty.sl (Ty.int .i64)) a0 fun x => (Sm (Ty.sl (Ty.int .i64)) x) ∧ (∀ r : (List Int), r = (x) → K (.own 0 none) [(0, .arr (Ty.int .i64) r)])) args hp⟩
def cons83 : Cons := []
def inl83 : List (Nat × Inl) := []
@[reducible] def C83 : Ctx := ⟨tab, fun t => memN t cmps, cons83, 22, inl83, 0⟩
theorem consOk83 : ConsOk P C83 := by
  exact consOk_nil
def ann83 : Nat → List Dir
  | 0 => [.keep [0]]
  | 1 => [.keep [0, 3]]
  | 2 => [.keep [0, 3, 4]]
  | 3 => [.keep [0, 3, 4, 11]]
  | 4 => [.keep [0, 3, 4]]
  | 5 => [.keep [0, 3, 4]]
  | 6 => [.keep [2]]
  | 100000 => [.keep [3]]
  | _ => []
@[reducible] def LP83_0 (x : (List Int)) (m : Nat) (st_ : St) (K : X → St → Prop) : Prop := (True) ∧ LoopI (fun (i0 : Int) (v0 : (List Int)) => (⟨[(0, .data (Ty.sl (Ty.int .i64)) x), (3, .own 7 none), (4, .data (Ty.int .i64) i0)], [(7, .arr (Ty.int .i64) v0)]⟩ : St)) (0 : Int) (x.length : Int) (F.laws_toIntS_l0 x) (fun v0 : (List Int) => True) (outD (fun v0 : (List Int) => True → K (.exit 0) (⟨[(3, .own 7 none)], [(7, .arr (Ty.int .i64) v0)]⟩ : St)) (fun _ => False)) m st_
def L83 (x : (List Int)) : Loops := fun id m st_ K => match id with
  | 0 => LP83_0 x m st_ K
  | _ => False
theorem vc83 (x : (List Int)) (K : AV → Hp → Prop) : awp C83 (L83 x) ann83 (bodyOf Go.Proofs.Tryz.f83) ⟨argEnv 0 [.data (Ty.sl (Ty.int .i64)) x], []⟩ (outK tab Go.Proofs.Tryz.f83.results.toList (hasBox []) (resK .raw K)) =
  (((x.length : Int) = (x.length : Int)) ∧ (0 ≤ (x.length : Int)) ∧ ((x.length : Int) * 8 ≤ (lim : Int)) ∧ (∃ m_, (True) ∧ LoopI (fun (i0 : Int) (v0 : (List Int)) => (⟨[(0, .data (Ty.sl (Ty.int .i64)) x), (3, .own 7 none), (4, .data (Ty.int .i64) i0)], [(7, .arr (Ty.int .i64) v0)]⟩ : St)) (0 : Int) (x.length : Int) (F.laws_toIntS_l0 x) (fun v0 : (List Int) => True) (outD (fun v0 : (List Int) => True → K (.own 0 none) [(0, .arr (Ty.int .i64) v0)]) (fun _ => False)) m_ (⟨[(0, .data (Ty.sl (Ty.int .i64)) x), (3, .own 7 none), (4, .data (Ty.int .i64) (0 : Int))], [(7, .arr (Ty.int .i64) (List.replicate (x.length : Int).toNat (0 : Int)))]⟩ : St))) := by kernel_rfl
theorem lvc83_0 (x : (List Int))  (i0 : Int) (v0 : (List Int)) (m : Nat) (K : X → St → Prop) : awp C83 (L83 x) ann83 (loopAt (bodyOf Go.Proofs.Tryz.f83) 0) (⟨[(0, .data (Ty.sl (Ty.int .i64)) x), (3, .own 7 none), (4, .data (Ty.int .i64) i0)], [(7, .arr (Ty.int .i64) v0)]⟩ : St) (thenW (fun s' => ∃ m', m' < m ∧ (L83 x) 0 m' s' K) (exitN 0 (ann83 (behind 0)) K)) =
  (cond (decide (i0 < (x.length : Int))) ((0 ≤ i0) ∧ (i0 < (x.length : Int)) ∧ (0 ≤ i0) ∧ (i0 < (v0.length : Int)) ∧ (∃ m_, m_ < m ∧ (L83 x) 0 m_ (⟨[(0, .data (Ty.sl (Ty.int .i64)) x), (3, .own 7 none), (4, .data (Ty.int .i64) (wrap64 (i0 + (1 : Int))))], [(7, .arr (Ty.int .i64) (v0.set i0.toNat (nth (t := (Ty.int .i64)) x i0)))]⟩ : St) K)) (K (.exit 0) (⟨[(3, .own 7 none)], [(7, .arr (Ty.int .i64) v0)]⟩ : St))) := by kernel_rfl
theorem con83_ok : ConOk P 83 c83 := by
  refine con_okR (fn := Go.Proofs.Tryz.f83) (code := bodyOf Go.Proofs.Tryz.f83) (tab_ok tab_check cmp_check) consOk83 mixed Go.Proofs.Tryz.func83 rfl rfl fun args hp K h0 => ?_
  obtain ⟨a0, rfl, rfl, h1⟩ := args1_elim h0
  obtain ⟨x, rfl, h2⟩ := withD_elim h1
  obtain ⟨h_x, hK⟩ := h2
  have h : ok (F.laws_toIntS x) (fun r => K (.own 0 none) [(0, .arr (Ty.int .i64) r)]) := ok_of_eq (F.laws_toIntS_eq x h_x) (hK _ rfl)
  refine ⟨⟨show (1 : Nat) ≤ 22 by decide, show (1 : Nat) ≤ 1000000 by decide⟩, ann83, (L83 x), .raw, (loopsN1 (i0 := 0) (by kernel_rfl) ?_), ?_⟩
  · clear h
    intro m_ s_ K_ h
    obtain ⟨hc0, i0, v0, rfl, hl0, rfl, hv0, h⟩ := (show LP83_0 x m_ s_ K_ from h)
    rw [lvc83_0 x i0 v0 _ K_]
    exact (loopI_step h (fun ht0 h => ⟨hl0, ⟨ht0, ⟨hl0, ⟨(ok_guard h).1, have g_13 := (ok_guard h).1; have h := (ok_guard h).2; (loopI_next (fun m hm => (show LP83_0 x m _ _ from ⟨hc0, hm⟩)) (v0.set i0.toNat (nth (t := (Ty.int .i64)) x i0)) rfl hl0 low0 ht0 (sm_len h_x) trivial (have h := ok_ret h; h))⟩⟩⟩⟩) (fun h => (h trivial)))
  · rw [vc83 x K]
    exact ⟨rfl, ⟨(Int.natCast_nonneg _), ⟨(sm_limI h_x rfl), (loopI_start (fun m hm => ⟨trivial, hm⟩) (0 : Int) (List.replicate (x.length : Int).toNat (0 : Int)) rfl (Int.natCast_nonneg 0) trivial (ok_then h (fun v0 h hv0 => (have h := ok_ret h; h)) (fun _ h => h.elim)))⟩⟩⟩

/-! 64: loop.example/tablehouse/laws.toBond -/
def c64 : Con := ⟨[.dat TBond], fun args hp K => args1 (fun a0 => withD TBond a0 fun x => (Sm TBond x) ∧ (∀ r : (TBond).D, r = (x) → K (.data TBond r) [])) args hp⟩
def cons64 : Cons := [(82, c82), (83, c83)]
def inl64 : List (Nat × Inl) := []
@[reducible] def C64 : Ctx := ⟨tab, fun t => memN t cmps, cons64, 29, inl64, 0⟩
theorem consOk64 : ConsOk P C64 := by
  refine consOk_cons (enter_ok (fn := Go.Proofs.Tryz.f82) Go.Proofs.Tryz.func82 (by kernel_rfl) rfl) con82_ok ?_
  refine consOk_cons (enter_ok (fn := Go.Proofs.Tryz.f83) Go.Proofs.Tryz.func83 (by kernel_rfl) rfl) con83_ok ?_
  exact consOk_nil
def ann64 : Nat → List Dir
  | 0 => [.fixRow 1 TBond, .keep [1, 2]]
  | 1 => [.keep [1, 2, 3]]
  | 2 => [.keep [1, 2, 3]]
  | 3 => [.keep [1, 2, 3]]
  | 4 => [.keep [1, 2, 3]]
  | 5 => [.keep [1, 2, 3]]
  | 6 => [.keep [1, 2, 3]]
  | 7 => [.keep [1, 2, 3]]
  | 8 => [.keep [2, 3]]
  | 9 => [.keep [2]]
  | _ => []
def L64 (x : (TBond).D) : Loops := fun id m st_ K => match id with
  | _ => False
theorem vc64 (x : (TBond).D) (K : AV → Hp → Prop) : awp C64 (L64 x) ann64 (bodyOf Go.Proofs.Tryz.f64) ⟨argEnv 0 [.data TBond x], []⟩ (outK tab Go.Proofs.Tryz.f64.results.toList (hasBox []) (resK (.dat TBond) K)) =
  ((Sm (Ty.sl (Ty.int .i64)) x.2.2.1) ∧ (∀ r_4_2 : (List Int), r_4_2 = (x.2.2.1) → (Sm (Ty.sl (Ty.int .i64)) x.2.2.2.2.1) ∧ (∀ r_6_2 : (List Int), r_6_2 = (x.2.2.2.2.1) → (Sm (Ty.sl TPart) x.2.2.2.2.2.2.1) ∧ (∀ r_8_2 : (List (TPart).D), r_8_2 = (x.2.2.2.2.2.2.1) → K (.data TBond (x.1, (x.2.1, (r_4_2, (x.2.2.2.1, (r_6_2, (x.2.2.2.2.2.1, (r_8_2, ())))))))) [])))) := by kernel_rfl
theorem con64_ok : ConOk P 64 c64 := by
  refine con_okR (fn := Go.Proofs.Tryz.f64) (code := bodyOf Go.Proofs.Tryz.f64) (tab_ok tab_check cmp_check) consOk64 mixed Go.Proofs.Tryz.func64 rfl rfl fun args hp K h0 => ?_
  obtain ⟨a0, rfl, rfl, h1⟩ := args1_elim h0
  obtain ⟨x, rfl, h2⟩ := withD_elim h1
  obtain ⟨h_x, hK⟩ := h2
  have h : ok (F.laws_toBond x) (fun r => K (.data TBond r) []) := ok_of_eq (F.laws_toBond_eq x h_x) (hK _ rfl)
  refine ⟨⟨show (1 : Nat) ≤ 29 by decide, show (1 : Nat) ≤ 1000000 by decide⟩, ann64, (L64 x), (.dat TBond), (no_loops (by kernel_rfl)), ?_⟩
  · rw [vc64 x K]
    exact ⟨h_x.2.2.1, (fun r_4_2 e_r_4_2 => have h := ok_let h r_4_2 e_r_4_2; ⟨h_x.2.2.2.2.1, (fun r_6_2 e_r_6_2 => have h := ok_let h r_6_2 e_r_6_2; ⟨h_x.2.2.2.2.2.2.1, (fun r_8_2 e_r_8_2 => have h := ok_let h r_8_2 e_r_8_2; (have h := ok_ret h; h))⟩)⟩)⟩

/-! 27: loop.example/tablehouse/laws.toBondS -/
def c27 : Con := ⟨[.dat (Ty.sl TBond)], fun args hp K => args1 (fun a0 => withD (Ty.sl TBond) a0 fun x => (Sm (Ty.sl TBond) x) ∧ (∀ r : (List (TBond).D), r = (x) → K (.own 0 none) [(0, .arr TBond r)])) args hp⟩
def cons27 : Cons := [(64, c64)]
def inl27 : List (Nat × Inl) := []
@[reducible] def C27 : Ctx := ⟨tab, fun t => memN t cmps, cons27, 23, inl27, 0⟩
theorem consOk27 : ConsOk P C27 := by
  refine consOk_cons (enter_ok (fn := Go.Proofs.Tryz.f64) Go.Proofs.Tryz.func64 (by kernel_rfl) rfl) con64_ok ?_
  exact consOk_nil
def ann27 : Nat → List Dir
  | 0 => [.keep [0]]
  | 1 => [.keep [0, 3]]
  | 2 => [.keep [0, 3, 4]]
  | 3 => [.keep [0, 3, 4, 11]]
  | 4 => [.keep [0, 3, 4]]
  | 5 => [.keep [0, 3, 4]]
  | 6 => [.keep [2]]
  | 100000 => [.keep [3]]
  | _ => []
@[reducible] def LP27_0 (x : (List (TBond).D)) (m : Nat) (st_ : St) (K : X → St → Prop) : Prop := (True) ∧ LoopI (fun (i0 : Int) (v0 : (List (TBond).D)) => (⟨[(0, .data (Ty.sl TBond) x), (3, .own 7 none), (4, .data (Ty.int .i64) i0)], [(7, .arr TBond v0)]⟩ : St)) (0 : Int) (x.length : Int) (F.laws_toBondS_l0 x) (fun v0 : (List (TBond).D) => True) (outD (fun v0 : (List (TBond).D) => True → K (.exit 0) (⟨[(3, .own 7 none)], [(7, .arr TBond v0)]⟩ : St)) (fun _ => False)) m st_
def L27 (x : (List (TBond).D)) : Loops := fun id m st_ K => match id with
  | 0 => LP27_0 x m st_ K
  | _ => False
theorem vc27 (x : (List (TBond).D)) (K : AV → Hp → Prop) : awp C27 (L27 x) ann27 (bodyOf Go.Proofs.Tryz.f27) ⟨argEnv 0 [.data (Ty.sl TBond) x], []⟩ (outK tab Go.Proofs.Tryz.f27.results.toList (hasBox []) (resK .raw K)) =
  (((x.length : Int) = (x.length : Int)) ∧ (0 ≤ (x.length : Int)) ∧ ((x.length : Int) * 104 ≤ (lim : Int)) ∧ (∃ m_, (True) ∧ LoopI (fun (i0 : Int) (v0 : (List (TBond).D)) => (⟨[(0, .data (Ty.sl TBond) x), (3, .own 7 none), (4, .data (Ty.int .i64) i0)], [(7, .arr TBond v0)]⟩ : St)) (0 : Int) (x.length : Int) (F.laws_toBondS_l0 x) (fun v0 : (List (TBond).D) => True) (outD (fun v0 : (List (TBond).D) => True → K (.own 0 none) [(0, .arr TBond v0)]) (fun _ => False)) m_ (⟨[(0, .data (Ty.sl TBond) x), (3, .own 7 none), (4, .data (Ty.int .i64) (0 : Int))], [(7, .arr TBond (List.replicate (x.length : Int).toNat ((0 : Int), ((0 : Int), ([], ((0 : Int), ([], (false, ([], ())))))))))]⟩ : St))) := by kernel_rfl
theorem lvc27_0 (x : (List (TBond).D))  (i0 : Int) (v0 : (List (TBond).D)) (m : Nat) (K : X → St → Prop) : awp C27 (L27 x) ann27 (loopAt (bodyOf Go.Proofs.Tryz.f27) 0) (⟨[(0, .data (Ty.sl TBond) x), (3, .own 7 none), (4, .data (Ty.int .i64) i0)], [(7, .arr TBond v0)]⟩ : St) (thenW (fun s' => ∃ m', m' < m ∧ (L27 x) 0 m' s' K) (exitN 0 (ann27 (behind 0)) K)) =
  (cond (decide (i0 < (x.length : Int))) ((0 ≤ i0) ∧ (i0 < (x.length : Int)) ∧ (Sm TBond (nth (t := TBond) x i0)) ∧ (∀ r_5_6 : (TBond).D, r_5_6 = ((nth (t := TBond) x i0)) → (0 ≤ i0) ∧ (i0 < (v0.length : Int)) ∧ (∃ m_, m_ < m ∧ (L27 x) 0 m_ (⟨[(0, .data (Ty.sl TBond) x), (3, .own 7 none), (4, .data (Ty.int .i64) (wrap64 (i0 + (1 : Int))))], [(7, .arr TBond (v0.set i0.toNat r_5_6))]⟩ : St) K))) (K (.exit 0) (⟨[(3, .own 7 none)], [(7, .arr TBond v0)]⟩ : St))) := by kernel_rfl
theorem con27_ok : ConOk P 27 c27 := by
  refine con_okR (fn := Go.Proofs.Tryz.f27) (code := bodyOf Go.Proofs.Tryz.f27) (tab_ok tab_check cmp_check) consOk27 mixed Go.Proofs.Tryz.func27 rfl rfl fun args hp K h0 => ?_
  obtain ⟨a0, rfl, rfl, h1⟩ := args1_elim h0
  obtain ⟨x, rfl, h2⟩ := withD_elim h1
  obtain ⟨h_x, hK⟩ := h2
  have h : ok (F.laws_toBondS x) (fun r => K (.own 0 none) [(0, .arr TBond r)]) := ok_of_eq (F.laws_toBondS_eq x h_x) (hK _ rfl)
  refine ⟨⟨show (1 : Nat) ≤ 23 by decide, show (1 : Nat) ≤ 1000000 by decide⟩, ann27, (L27 x), .raw, (loopsN1 (i0 := 0) (by kernel_rfl) ?_), ?_⟩
  · clear h
    intro m_ s_ K_ h
    obtain ⟨hc0, i0, v0, rfl, hl0, rfl, hv0, h⟩ := (show LP27_0 x m_ s_ K_ from h)
    rw [lvc27_0 x i0 v0 _ K_]
    exact (loopI_step h (fun ht0 h => ⟨hl0, ⟨ht0, ⟨(sm_nth h_x i0), (fun r_5_6 e_r_5_6 => have h := ok_let h r_5_6 e_r_5_6; ⟨hl0, ⟨(ok_guard h).1, have g_13 := (ok_guard h).1; have h := (ok_guard h).2; (loopI_next (fun m hm => (show LP27_0 x m _ _ from ⟨hc0, hm⟩)) (v0.set i0.toNat r_5_6) rfl hl0 low0 ht0 (sm_len h_x) trivial (have h := ok_ret h; h))⟩⟩)⟩⟩⟩) (fun h => (h trivial)))
  · rw [vc27 x K]
    exact ⟨rfl, ⟨(Int.natCast_nonneg _), ⟨(sm_limI h_x rfl), (loopI_start (fun m hm => ⟨trivial, hm⟩) (0 : Int) (List.replicate (x.length : Int).toNat ((0 : Int), ((0 : Int), ([], ((0 : Int), ([], (false, ([], ())))))))) rfl (Int.natCast_nonneg 0) trivial (ok_then h (fun v0 h hv0 => (have h := ok_ret h; h)) (fun _ h => h.elim)))⟩⟩⟩

/-! 98: loop.example/tablehouse/impl.between -/
def c98 : Con := ⟨[.dat (Ty.int .i64), .dat (Ty.int .i64), .dat (Ty.int .i64)], fun args hp K => args3 (fun a0 a1 a2 => withD (Ty.int .i64) a0 fun n => withD (Ty.int .i64) a1 fun low => withD (Ty.int .i64) a2 fun high => K (.data Ty.bool (M.inR n low high)) []) args hp⟩
def cons98 : Cons := []
def inl98 : List (Nat × Inl) := []
@[reducible] def C98 : Ctx := ⟨tab, fun t => memN t cmps, cons98, 15, inl98, 0⟩
theorem consOk98 : ConsOk P C98 := by
  exact consOk_nil
def ann98 : Nat → List Dir
  | 0 => [.keep [0, 1, 2]]
  | 1 => [.keep [6]]
  | _ => []
def L98 (n : Int) (low : Int) (high : Int) : Loops := fun id m st_ K => match id with
  | _ => False
theorem vc98 (n : Int) (low : Int) (high : Int) (K : AV → Hp → Prop) : awp C98 (L98 n low high) ann98 (bodyOf Go.Proofs.Tryz.f98) ⟨argEnv 0 [.data (Ty.int .i64) n, .data (Ty.int .i64) low, .data (Ty.int .i64) high], []⟩ (outK tab Go.Proofs.Tryz.f98.results.toList (hasBox []) (resK (.dat Ty.bool) K)) =
  (cond ((decide (low ≤ n)) == true) (K (.data Ty.bool (decide (n ≤ high))) []) (K (.data Ty.bool false) [])) := by kernel_rfl
theorem con98_ok : ConOk P 98 c98 := by
  refine con_okR (fn := Go.Proofs.Tryz.f98) (code := bodyOf Go.Proofs.Tryz.f98) (tab_ok tab_check cmp_check) consOk98 mixed Go.Proofs.Tryz.func98 rfl rfl fun args hp K h0 => ?_
  obtain ⟨a0, a1, a2, rfl, rfl, h1⟩ := args3_elim h0
  obtain ⟨n, rfl, h2⟩ := withD_elim h1
  obtain ⟨low, rfl, h3⟩ := withD_elim h2
  obtain ⟨high, rfl, h4⟩ := withD_elim h3
  have hK := h4
  have h : ok (F.impl_between n low high) (fun r => K (.data Ty.bool r) []) := ok_of_eq (F.impl_between_eq n low high) hK
  refine ⟨⟨show (3 : Nat) ≤ 15 by decide, show (3 : Nat) ≤ 1000000 by decide⟩, ann98, (L98 n low high), (.dat Ty.bool), (no_loops (by kernel_rfl)), ?_⟩
  · rw [vc98 n low high K]
    exact (ok_cond h (fun b_1 h => (have h := ok_ret h; h)) (fun b_1 h => (have h := ok_ret h; h)))

/-! 173: loop.example/tablehouse/impl.ColumnsOk$1 -/
def c173 : Con := ⟨[.dat TColumn], fun args hp K => args1 (fun a0 => withD TColumn a0 fun c => K (.data Ty.bool (!M.columnOk c)) []) args hp⟩
def cons173 : Cons := [(98, c98)]
def inl173 : List (Nat × Inl) := []
@[reducible] def C173 : Ctx := ⟨tab, fun t => memN t cmps, cons173, 7, inl173, 0⟩
theorem consOk173 : ConsOk P C173 := by
  refine consOk_cons (enter_ok (fn := Go.Proofs.Tryz.f98) Go.Proofs.Tryz.func98 (by kernel_rfl) rfl) con98_ok ?_
  exact consOk_nil
def ann173 : Nat → List Dir
  | 0 => [.fixRow 1 TColumn, .keep [1]]
  | 1 => [.keep [2]]
  | _ => []
def L173 (c : (TColumn).D) : Loops := fun id m st_ K => match id with
  | _ => False
theorem vc173 (c : (TColumn).D) (K : AV → Hp → Prop) : awp C173 (L173 c) ann173 (bodyOf Go.Proofs.Tryz.f173) ⟨argEnv 0 [.data TColumn c], []⟩ (outK tab Go.Proofs.Tryz.f173.results.toList (hasBox []) (resK (.dat Ty.bool) K)) =
  (K (.data Ty.bool (!(M.inR c.1 (1 : Int) (3 : Int)))) []) := by kernel_rfl
theorem con173_ok : ConOk P 173 c173 := by
  refine con_okR (fn := Go.Proofs.Tryz.f173) (code := bodyOf Go.Proofs.Tryz.f173) (tab_ok tab_check cmp_check) consOk173 mixed Go.Proofs.Tryz.func173 rfl rfl fun args hp K h0 => ?_
  obtain ⟨a0, rfl, rfl, h1⟩ := args1_elim h0
  obtain ⟨c, rfl, h2⟩ := withD_elim h1
  have hK := h2
  have h : ok (F.impl_ColumnsOk_1 c) (fun r => K (.data Ty.bool r) []) := ok_of_eq (F.impl_ColumnsOk_1_eq c) hK
  refine ⟨⟨show (1 : Nat) ≤ 7 by decide, show (1 : Nat) ≤ 1000000 by decide⟩, ann173, (L173 c), (.dat Ty.bool), (no_loops (by kernel_rfl)), ?_⟩
  · rw [vc173 c K]
    exact (have h := ok_ret h; h)

/-! 207: slices.IndexFunc[[]loop.example/tablehouse/impl.Column,loop.example/tablehouse/impl.Column] -/
def c207 : Con := ⟨[.lent TColumn, .any], fun args hp K => args2 (fun a0 a1 => withB TColumn a0 fun xs => withF 173 a1 (caps0 ((Sm (Ty.sl TColumn) xs) ∧ K (.data (Ty.int .i64) (M.idx (t := TColumn) (fun e => !M.columnOk e) xs)) []))) args hp⟩
def cons207 : Cons := [(173, c173)]
def inl207 : List (Nat × Inl) := []
@[reducible] def C207 : Ctx := ⟨tab, fun t => memN t cmps, cons207, 19, inl207, 0⟩
theorem consOk207 : ConsOk P C207 := by
  refine consOk_cons (enter_ok (fn := Go.Proofs.Tryz.f173) Go.Proofs.Tryz.func173 (by kernel_rfl) rfl) con173_ok ?_
  exact consOk_nil
def ann207 : Nat → List Dir
  | 0 => [.keep [0, 1]]
  | 1 => [.keep [0, 1, 7, 8]]
  | 2 => [.keep [0, 1, 7, 8, 9]]
  | 3 => [.keep [0, 1, 5, 7, 8]]
  | 4 => [.keep [0, 1, 5, 7, 8, 16]]
  | 5 => [.keep [4]]
  | 6 => [.keep [0, 1, 7, 8]]
  | 7 => [.keep [4]]
  | 100000 => [.keep []]
  | _ => []
@[reducible] def LP207_0 (xs : (List (TColumn).D)) (m : Nat) (st_ : St) (K : X → St → Prop) : Prop := (True) ∧ LoopI (fun (i0 : Int) (v0 : Unit) => (⟨[(0, .brw TColumn xs), (1, .fn 173 []), (7, .data (Ty.int .i64) (xs.length : Int)), (8, .data (Ty.int .i64) i0)], []⟩ : St)) (0 : Int) (xs.length : Int) (F.IndexFunc_impl_ColumnsOk_1_l0 xs) (fun v0 : Unit => True) (outD (fun v0 : Unit => True → K (.exit 0) (⟨[], []⟩ : St)) (fun q0 : Int => K .ret (⟨[(4, .data (Ty.int .i64) q0)], []⟩ : St))) m st_
def L207 (xs : (List (TColumn).D)) : Loops := fun id m st_ K => match id with
  | 0 => LP207_0 xs m st_ K
  | _ => False
theorem vc207 (xs : (List (TColumn).D)) (K : AV → Hp → Prop) : awp C207 (L207 xs) ann207 (bodyOf Go.Proofs.Tryz.f207) ⟨argEnv 0 [.brw TColumn xs, .fn 173 []], []⟩ (outK tab Go.Proofs.Tryz.f207.results.toList (hasBox []) (resK (.dat (Ty.int .i64)) K)) =
  ((∃ m_, (True) ∧ LoopI (fun (i0 : Int) (v0 : Unit) => (⟨[(0, .brw TColumn xs), (1, .fn 173 []), (7, .data (Ty.int .i64) (xs.length : Int)), (8, .data (Ty.int .i64) i0)], []⟩ : St)) (0 : Int) (xs.length : Int) (F.IndexFunc_impl_ColumnsOk_1_l0 xs) (fun v0 : Unit => True) (outD (fun v0 : Unit => True → K (.data (Ty.int .i64) (-1 : Int)) []) (fun q0 : Int => K (.data (Ty.int .i64) q0) [])) m_ (⟨[(0, .brw TColumn xs), (1, .fn 173 []), (7, .data (Ty.int .i64) (xs.length : Int)), (8, .data (Ty.int .i64) (0 : Int))], []⟩ : St))) := by kernel_rfl
theorem lvc207_0 (xs : (List (TColumn).D))  (i0 : Int) (v0 : Unit) (m : Nat) (K : X → St → Prop) : awp C207 (L207 xs) ann207 (loopAt (bodyOf Go.Proofs.Tryz.f207) 0) (⟨[(0, .brw TColumn xs), (1, .fn 173 []), (7, .data (Ty.int .i64) (xs.length : Int)), (8, .data (Ty.int .i64) i0)], []⟩ : St) (thenW (fun s' => ∃ m', m' < m ∧ (L207 xs) 0 m' s' K) (exitN 0 (ann207 (behind 0)) K)) =
  (cond (decide (i0 < (xs.length : Int))) ((0 ≤ i0) ∧ (i0 < (xs.length : Int)) ∧ cond (!M.columnOk (nth (t := TColumn) xs i0)) (K .ret (⟨[(4, .data (Ty.int .i64) i0)], []⟩ : St)) ((∃ m_, m_ < m ∧ (L207 xs) 0 m_ (⟨[(0, .brw TColumn xs), (1, .fn 173 []), (7, .data (Ty.int .i64) (xs.length : Int)), (8, .data (Ty.int .i64) (wrap64 (i0 + (1 : Int))))], []⟩ : St) K))) (K (.exit 0) (⟨[], []⟩ : St))) := by kernel_rfl
theorem con207_ok : ConOk P 207 c207 := by
  refine con_okR (fn := Go.Proofs.Tryz.f207) (code := bodyOf Go.Proofs.Tryz.f207) (tab_ok tab_check cmp_check) consOk207 mixed Go.Proofs.Tryz.func207 rfl rfl fun args hp K h0 => ?_
  obtain ⟨a0, a1, rfl, rfl, h1⟩ := args2_elim h0
  obtain ⟨xs, rfl, h2⟩ := withB_elim h1
  obtain ⟨cs1, rfl, h3⟩ := withF_elim h2
  obtain ⟨rfl, h4⟩ := caps0_elim h3
  obtain ⟨h_xs, hK⟩ := h4
  have h : ok (F.IndexFunc_impl_ColumnsOk_1 xs) (fun r => K (.data (Ty.int .i64) r) []) := ok_of_eq (F.IndexFunc_impl_ColumnsOk_1_eq xs h_xs) hK
  refine ⟨⟨show (2 : Nat) ≤ 19 by decide, show (2 : Nat) ≤ 1000000 by decide⟩, ann207, (L207 xs), (.dat (Ty.int .i64)), (loopsN1 (i0 := 0) (by kernel_rfl) ?_), ?_⟩
  · clear h
    intro m_ s_ K_ h
    obtain ⟨hc0, i0, v0, rfl, hl0, rfl, hv0, h⟩ := (show LP207_0 xs m_ s_ K_ from h)
    rw [lvc207_0 xs i0 v0 _ K_]
    exact (loopI_step h (fun ht0 h => ⟨hl0, ⟨ht0, (ok_cond h (fun b_9 h => (have h := ok_ret h; h)) (fun b_9 h => (loopI_next (fun m hm => (show LP207_0 xs m _ _ from ⟨hc0, hm⟩)) () rfl hl0 low0 ht0 (sm_len h_xs) trivial (have h := ok_ret h; h))))⟩⟩) (fun h => (h trivial)))
  · rw [vc207 xs K]
    exact (loopI_start (fun m hm => ⟨trivial, hm⟩) (0 : Int) () rfl (Int.natCast_nonneg 0) trivial (ok_then h (fun v0 h hv0 => (have h := ok_ret h; h)) (fun q0 h => (have h := ok_ret h; h))))

/-! 172: slices.ContainsFunc[[]loop.example/tablehouse/impl.Column,loop.example/tablehouse/impl.Column] -/
def c172 : Con := ⟨[.lent TColumn, .any], fun args hp K => args2 (fun a0 a1 => withB TColumn a0 fun xs => withF 173 a1 (caps0 ((Sm (Ty.sl TColumn) xs) ∧ K (.data Ty.bool (List.any xs (fun e => !M.columnOk e))) []))) args hp⟩
def cons172 : Cons := [(173, c173), (207, c207)]
def inl172 : List (Nat × Inl) := []
@[reducible] def C172 : Ctx := ⟨tab, fun t => memN t cmps, cons172, 9, inl172, 0⟩
theorem consOk172 : ConsOk P C172 := by
  refine consOk_cons (enter_ok (fn := Go.Proofs.Tryz.f173) Go.Proofs.Tryz.func173 (by kernel_rfl) rfl) con173_ok ?_
  refine consOk_cons (enter_ok (fn := Go.Proofs.Tryz.f207) Go.Proofs.Tryz.func207 (by kernel_rfl) rfl) con207_ok ?_
  exact consOk_nil
def ann172 : Nat → List Dir
  | 0 => [.keep [0, 1]]
  | 1 => [.keep [4]]
  | _ => []
def L172 (xs : (List (TColumn).D)) : Loops := fun id m st_ K => match id with
  | _ => False
theorem vc172 (xs : (List (TColumn).D)) (K : AV → Hp → Prop) : awp C172 (L172 xs) ann172 (bodyOf Go.Proofs.Tryz.f172) ⟨argEnv 0 [.brw TColumn xs, .fn 173 []], []⟩ (outK tab Go.Proofs.Tryz.f172.results.toList (hasBox []) (resK (.dat Ty.bool) K)) =
  ((Sm (Ty.sl TColumn) xs) ∧ K (.data Ty.bool (decide ((0 : Int) ≤ (M.idx (t := TColumn) (fun e => !M.columnOk e) xs)))) []) := by kernel_rfl
theorem con172_ok : ConOk P 172 c172 := by
  refine con_okR (fn := Go.Proofs.Tryz.f172) (code := bodyOf Go.Proofs.Tryz.f172) (tab_ok tab_check cmp_check) consOk172 mixed Go.Proofs.Tryz.func172 rfl rfl fun args hp K h0 => ?_
  obtain ⟨a0, a1, rfl, rfl, h1⟩ := args2_elim h0
  obtain ⟨xs, rfl, h2⟩ := withB_elim h1
  obtain ⟨cs1, rfl, h3⟩ := withF_elim h2
  obtain ⟨rfl, h4⟩ := caps0_elim h3
  obtain ⟨h_xs, hK⟩ := h4
  have h : ok (F.ContainsFunc_impl_ColumnsOk_1 xs) (fun r => K (.data Ty.bool r) []) := ok_of_eq (F.ContainsFunc_impl_ColumnsOk_1_eq xs h_xs) hK
  refine ⟨⟨show (2 : Nat) ≤ 9 by decide, show (2 : Nat) ≤ 1000000 by decide⟩, ann172, (L172 xs), (.dat Ty.bool), (no_loops (by kernel_rfl)), ?_⟩
  · rw [vc172 xs K]
    exact ⟨h_xs, (have h := ok_ret h; h)⟩

/-! 133: loop.example/tablehouse/impl.ColumnsOk -/
def c133 : Con := ⟨[.dat (Ty.sl TColumn)], fun args hp K => args1 (fun a0 => withD (Ty.sl TColumn) a0 fun columns => (Sm (Ty.sl TColumn) columns) ∧ K (.data Ty.bool (M.columnsOk columns)) []) args hp⟩
def cons133 : Cons := [(172, c172)]
def inl133 : List (Nat × Inl) := []
@[reducible] def C133 : Ctx := ⟨tab, fun t => memN t cmps, cons133, 11, inl133, 0⟩
theorem consOk133 : ConsOk P C133 := by
  refine consOk_cons (enter_ok (fn := Go.Proofs.Tryz.f172) Go.Proofs.Tryz.func172 (by kernel_rfl) rfl) con172_ok ?_
  exact consOk_nil
def ann133 : Nat → List Dir
  | 0 => [.keep [0]]
  | 1 => [.keep [2]]
  | _ => []
def L133 (columns : (List (TColumn).D)) : Loops := fun id m st_ K => match id with
  | _ => False
theorem vc133 (columns : (List (TColumn).D)) (K : AV → Hp → Prop) : awp C133 (L133 columns) ann133 (bodyOf Go.Proofs.Tryz.f133) ⟨argEnv 0 [.data (Ty.sl TColumn) columns], []⟩ (outK tab Go.Proofs.Tryz.f133.results.toList (hasBox []) (resK (.dat Ty.bool) K)) =
  (cond ((decide ((columns.length : Int) ≤ (4 : Int))) == true) ((Sm (Ty.sl TColumn) columns) ∧ K (.data Ty.bool (!(List.any columns (fun e => !M.columnOk e)))) []) (K (.data Ty.bool false) [])) := by kernel_rfl
theorem con133_ok : ConOk P 133 c133 := by
  refine con_okR (fn := Go.Proofs.Tryz.f133) (code := bodyOf Go.Proofs.Tryz.f133) (tab_ok tab_check cmp_check) consOk133 mixed Go.Proofs.Tryz.func133 rfl rfl fun args hp K h0 => ?_
  obtain ⟨a0, rfl, rfl, h1⟩ := args1_elim h0
  obtain ⟨columns, rfl, h2⟩ := withD_elim h1
  obtain ⟨h_columns, hK⟩ := h2
  have h : ok (F.impl_ColumnsOk columns) (fun r => K (.data Ty.bool r) []) := ok_of_eq (F.impl_ColumnsOk_eq columns h_columns) hK
  refine ⟨⟨show (1 : Nat) ≤ 11 by decide, show (1 : Nat) ≤ 1000000 by decide⟩, ann133, (L133 columns), (.dat Ty.bool), (no_loops (by kernel_rfl)), ?_⟩
  · rw [vc133 columns K]
    exact (ok_cond h (fun b_1 h => ⟨h_columns, (have h := ok_ret h; h)⟩) (fun b_1 h => (have h := ok_ret h; h)))

/-! 191: (loop.example/tablehouse/impl.Bond).breaks$1 -/
def c191 : Con := ⟨[.dat TValue], fun args hp K => args1 (fun a0 => withD TValue a0 fun v => (Sm TValue v) ∧ K (.data Ty.bool (decide (v.1 = 0))) []) args hp⟩
def cons191 : Cons := []
def inl191 : List (Nat × Inl) := []
@[reducible] def C191 : Ctx := ⟨tab, fun t => memN t cmps, cons191, 6, inl191, 0⟩
theorem consOk191 : ConsOk P C191 := by
  exact consOk_nil
def ann191 : Nat → List Dir
  | 0 => [.fixRow 1 TValue, .keep [1]]
  | 1 => [.keep [2]]
  | _ => []
def L191 (v : (TValue).D) : Loops := fun id m st_ K => match id with
  | _ => False
theorem vc191 (v : (TValue).D) (K : AV → Hp → Prop) : awp C191 (L191 v) ann191 (bodyOf Go.Proofs.Tryz.f191) ⟨argEnv 0 [.data TValue v], []⟩ (outK tab Go.Proofs.Tryz.f191.results.toList (hasBox []) (resK (.dat Ty.bool) K)) =
  (K (.data Ty.bool (decide (v.1 = (0 : Int)))) []) := by kernel_rfl
theorem con191_ok : ConOk P 191 c191 := by
  refine con_okR (fn := Go.Proofs.Tryz.f191) (code := bodyOf Go.Proofs.Tryz.f191) (tab_ok tab_check cmp_check) consOk191 mixed Go.Proofs.Tryz.func191 rfl rfl fun args hp K h0 => ?_
  obtain ⟨a0, rfl, rfl, h1⟩ := args1_elim h0
  obtain ⟨v, rfl, h2⟩ := withD_elim h1
  obtain ⟨h_v, hK⟩ := h2
  have h : ok (F.impl_Bond_breaks_1 v) (fun r => K (.data Ty.bool r) []) := ok_of_eq (F.impl_Bond_breaks_1_eq v h_v) hK
  refine ⟨⟨show (1 : Nat) ≤ 6 by decide, show (1 : Nat) ≤ 1000000 by decide⟩, ann191, (L191 v), (.dat Ty.bool), (no_loops (by kernel_rfl)), ?_⟩
  · rw [vc191 v K]
    exact (have h := ok_ret h; h)

/-! 210: loop.example/tablehouse/impl.letters -/
def c210 : Con := ⟨[.dat Ty.str], fun args hp K => args1 (fun a0 => withD Ty.str a0 fun s => (Sm Ty.str s) ∧ K (.data Ty.bool (M.lower (byteInts s))) []) args hp⟩
def cons210 : Cons := [(98, c98)]
def inl210 : List (Nat × Inl) := []
@[reducible] def C210 : Ctx := ⟨tab, fun t => memN t cmps, cons210, 17, inl210, 0⟩
theorem consOk210 : ConsOk P C210 := by
  refine consOk_cons (enter_ok (fn := Go.Proofs.Tryz.f98) Go.Proofs.Tryz.func98 (by kernel_rfl) rfl) con98_ok ?_
  exact consOk_nil
def ann210 : Nat → List Dir
  | 0 => [.keep [0]]
  | 1 => [.keep [6, 7, 8]]
  | 2 => [.keep [6, 7, 8, 9]]
  | 3 => [.keep [4, 6, 7, 8]]
  | 4 => [.keep [6, 7, 8, 15]]
  | 5 => [.keep [2]]
  | 6 => [.keep [6, 7, 8]]
  | 7 => [.keep [2]]
  | 100000 => [.keep []]
  | _ => []
@[reducible] def LP210_0 (s : ByteArray) (m : Nat) (st_ : St) (K : X → St → Prop) : Prop := (True) ∧ LoopE (t := (Ty.int .u8)) (fun (i0 : Int) (v0 : Unit) => (⟨[(6, .data (Ty.sl (Ty.int .u8)) (byteInts s)), (7, .data (Ty.int .i64) ((byteInts s).length : Int)), (8, .data (Ty.int .i64) i0)], []⟩ : St)) (byteInts s) (F.impl_letters_l0 s) (fun v0 : Unit => True) (outD (fun v0 : Unit => True → K (.exit 0) (⟨[], []⟩ : St)) (fun q0 : Unit => K .ret (⟨[(2, .data Ty.bool false)], []⟩ : St))) m st_
def L210 (s : ByteArray) : Loops := fun id m st_ K => match id with
  | 0 => LP210_0 s m st_ K
  | _ => False
theorem vc210 (s : ByteArray) (K : AV → Hp → Prop) : awp C210 (L210 s) ann210 (bodyOf Go.Proofs.Tryz.f210) ⟨argEnv 0 [.data Ty.str s], []⟩ (outK tab Go.Proofs.Tryz.f210.results.toList (hasBox []) (resK (.dat Ty.bool) K)) =
  ((∃ m_, (True) ∧ LoopE (t := (Ty.int .u8)) (fun (i0 : Int) (v0 : Unit) => (⟨[(6, .data (Ty.sl (Ty.int .u8)) (byteInts s)), (7, .data (Ty.int .i64) ((byteInts s).length : Int)), (8, .data (Ty.int .i64) i0)], []⟩ : St)) (byteInts s) (F.impl_letters_l0 s) (fun v0 : Unit => True) (outD (fun v0 : Unit => True → K (.data Ty.bool true) []) (fun q0 : Unit => K (.data Ty.bool false) [])) m_ (⟨[(6, .data (Ty.sl (Ty.int .u8)) (byteInts s)), (7, .data (Ty.int .i64) ((byteInts s).length : Int)), (8, .data (Ty.int .i64) (0 : Int))], []⟩ : St))) := by kernel_rfl
theorem lvc210_0 (s : ByteArray)  (i0 : Int) (v0 : Unit) (m : Nat) (K : X → St → Prop) : awp C210 (L210 s) ann210 (loopAt (bodyOf Go.Proofs.Tryz.f210) 0) (⟨[(6, .data (Ty.sl (Ty.int .u8)) (byteInts s)), (7, .data (Ty.int .i64) ((byteInts s).length : Int)), (8, .data (Ty.int .i64) i0)], []⟩ : St) (thenW (fun s' => ∃ m', m' < m ∧ (L210 s) 0 m' s' K) (exitN 0 (ann210 (behind 0)) K)) =
  (cond (decide (i0 < ((byteInts s).length : Int))) ((0 ≤ i0) ∧ (i0 < ((byteInts s).length : Int)) ∧ cond (!(M.inR (wrap64 ((nth (t := (Ty.int .u8)) (byteInts s) i0))) (97 : Int) (122 : Int))) (K .ret (⟨[(2, .data Ty.bool false)], []⟩ : St)) ((∃ m_, m_ < m ∧ (L210 s) 0 m_ (⟨[(6, .data (Ty.sl (Ty.int .u8)) (byteInts s)), (7, .data (Ty.int .i64) ((byteInts s).length : Int)), (8, .data (Ty.int .i64) (wrap64 (i0 + (1 : Int))))], []⟩ : St) K))) (K (.exit 0) (⟨[], []⟩ : St))) := by kernel_rfl
theorem con210_ok : ConOk P 210 c210 := by
  refine con_okR (fn := Go.Proofs.Tryz.f210) (code := bodyOf Go.Proofs.Tryz.f210) (tab_ok tab_check cmp_check) consOk210 mixed Go.Proofs.Tryz.func210 rfl rfl fun args hp K h0 => ?_
  obtain ⟨a0, rfl, rfl, h1⟩ := args1_elim h0
  obtain ⟨s, rfl, h2⟩ := withD_elim h1
  obtain ⟨h_s, hK⟩ := h2
  have h : ok (F.impl_letters s) (fun r => K (.data Ty.bool r) []) := ok_of_eq (F.impl_letters_eq s h_s) hK
  refine ⟨⟨show (1 : Nat) ≤ 17 by decide, show (1 : Nat) ≤ 1000000 by decide⟩, ann210, (L210 s), (.dat Ty.bool), (loopsN1 (i0 := 0) (by kernel_rfl) ?_), ?_⟩
  · clear h
    intro m_ s_ K_ h
    obtain ⟨hc0, i0, v0, rfl, hl0, rfl, hv0, h⟩ := (show LP210_0 s m_ s_ K_ from h)
    rw [lvc210_0 s i0 v0 _ K_]
    exact (loopE_step (t := (Ty.int .u8)) hl0 h (fun ht0 h => ⟨hl0, ⟨ht0, (ok_cond h (fun b_9 h => (have h := ok_ret h; h)) (fun b_9 h => (loopE_next (t := (Ty.int .u8)) (fun m hm => (show LP210_0 s m _ _ from ⟨hc0, hm⟩)) () rfl hl0 ht0 (sm_len (sm_bytes h_s)) trivial (have h := ok_ret h; h))))⟩⟩) (fun h => (h trivial)))
  · rw [vc210 s K]
    exact (loopE_start (t := (Ty.int .u8)) (fun m hm => ⟨trivial, hm⟩) () rfl trivial (ok_then h (fun v0 h hv0 => (have h := ok_ret h; h)) (fun q0 h => (have h := ok_ret h; h))))

/-! 177: (loop.example/tablehouse/impl.Value).ok -/
def c177 : Con := ⟨[.dat TValue], fun args hp K => args1 (fun a0 => withD TValue a0 fun v => (Sm TValue v) ∧ K (.data Ty.bool (M.valueOk v)) []) args hp⟩
def cons177 : Cons := [(98, c98), (210, c210)]
def inl177 : List (Nat × Inl) := []
@[reducible] def C177 : Ctx := ⟨tab, fun t => memN t cmps, cons177, 46, inl177, 0⟩
theorem consOk177 : ConsOk P C177 := by
  refine consOk_cons (enter_ok (fn := Go.Proofs.Tryz.f98) Go.Proofs.Tryz.func98 (by kernel_rfl) rfl) con98_ok ?_
  refine consOk_cons (enter_ok (fn := Go.Proofs.Tryz.f210) Go.Proofs.Tryz.func210 (by kernel_rfl) rfl) con210_ok ?_
  exact consOk_nil
def ann177 : Nat → List Dir
  | 0 => [.fixRow 1 TValue, .keep [1]]
  | 1 => [.keep [1, 4]]
  | 2 => [.keep [1, 4, 5]]
  | 3 => [.keep [2]]
  | 4 => [.keep [1, 4, 10]]
  | 5 => [.keep [2]]
  | 6 => [.keep [1, 4, 20]]
  | 7 => [.keep [2]]
  | 8 => [.keep [1, 36]]
  | 9 => [.keep [2]]
  | 10 => [.keep [2]]
  | _ => []
def L177 (v : (TValue).D) : Loops := fun id m st_ K => match id with
  | _ => False
theorem vc177 (v : (TValue).D) (K : AV → Hp → Prop) : awp C177 (L177 v) ann177 (bodyOf Go.Proofs.Tryz.f177) ⟨argEnv 0 [.data TValue v], []⟩ (outK tab Go.Proofs.Tryz.f177.results.toList (hasBox []) (resK (.dat Ty.bool) K)) =
  (cond (decide (v.1 = (0 : Int))) (K (.data Ty.bool (Ty.beq TValue v ((0 : Int), ((0 : Int), ((⟨#[]⟩ : ByteArray), ()))))) []) (cond (decide (v.1 = (1 : Int))) (cond ((decide (v.2.2.1 = (⟨#[]⟩ : ByteArray))) == true) (K (.data Ty.bool (M.inR v.2.1 (-9999 : Int) (9999 : Int))) []) (K (.data Ty.bool false) [])) (cond (decide (v.1 = (2 : Int))) (cond ((decide (v.2.1 = (0 : Int))) == true) (cond ((decide ((v.2.2.1.size : Int) ≤ (6 : Int))) == true) ((Sm Ty.str v.2.2.1) ∧ K (.data Ty.bool (M.lower (byteInts v.2.2.1))) []) (K (.data Ty.bool false) [])) (K (.data Ty.bool false) [])) (cond (decide (v.1 = (3 : Int))) (cond ((decide (v.2.2.1 = (⟨#[]⟩ : ByteArray))) == true) (K (.data Ty.bool (M.inR v.2.1 (0 : Int) (1 : Int))) []) (K (.data Ty.bool false) [])) (K (.data Ty.bool false) []))))) := by kernel_rfl
theorem con177_ok : ConOk P 177 c177 := by
  refine con_okR (fn := Go.Proofs.Tryz.f177) (code := bodyOf Go.Proofs.Tryz.f177) (tab_ok tab_check cmp_check) consOk177 mixed Go.Proofs.Tryz.func177 rfl rfl fun args hp K h0 => ?_
  obtain ⟨a0, rfl, rfl, h1⟩ := args1_elim h0
  obtain ⟨v, rfl, h2⟩ := withD_elim h1
  obtain ⟨h_v, hK⟩ := h2
  have h : ok (F.impl_Value_ok v) (fun r => K (.data Ty.bool r) []) := ok_of_eq (F.impl_Value_ok_eq v h_v) hK
  refine ⟨⟨show (1 : Nat) ≤ 46 by decide, show (1 : Nat) ≤ 1000000 by decide⟩, ann177, (L177 v), (.dat Ty.bool), (no_loops (by kernel_rfl)), ?_⟩
  · rw [vc177 v K]
    exact (ok_cond h (fun b_1 h => (have h := ok_ret h; h)) (fun b_1 h => (ok_cond h (fun b_2 h => (ok_cond h (fun b_3 h => (have h := ok_ret h; h)) (fun b_3 h => (have h := ok_ret h; h)))) (fun b_2 h => (ok_cond h (fun b_4 h => (ok_cond h (fun b_5 h => (ok_cond h (fun b_6 h => ⟨h_v.2.2.1, (have h := ok_ret h; h)⟩) (fun b_6 h => (have h := ok_ret h; h)))) (fun b_5 h => (have h := ok_ret h; h)))) (fun b_4 h => (ok_cond h (fun b_7 h => (ok_cond h (fun b_8 h => (have h := ok_ret h; h)) (fun b_8 h => (have h := ok_ret h; h)))) (fun b_7 h => (have h := ok_ret h; h)))))))))

/-! 219: loop.example/tablehouse/impl.RowOk$1 -/
def c219 : Con := ⟨[.dat TValue], fun args hp K => args1 (fun a0 => withD TValue a0 fun v => (Sm TValue v) ∧ K (.data Ty.bool (!M.valueOk v)) []) args hp⟩
def cons219 : Cons := [(177, c177)]
def inl219 : List (Nat × Inl) := []
@[reducible] def C219 : Ctx := ⟨tab, fun t => memN t cmps, cons219, 6, inl219, 0⟩
theorem consOk219 : ConsOk P C219 := by
  refine consOk_cons (enter_ok (fn := Go.Proofs.Tryz.f177) Go.Proofs.Tryz.func177 (by kernel_rfl) rfl) con177_ok ?_
  exact consOk_nil
def ann219 : Nat → List Dir
  | 0 => [.fixRow 1 TValue, .keep [1]]
  | 1 => [.keep [2]]
  | _ => []
def L219 (v : (TValue).D) : Loops := fun id m st_ K => match id with
  | _ => False
theorem vc219 (v : (TValue).D) (K : AV → Hp → Prop) : awp C219 (L219 v) ann219 (bodyOf Go.Proofs.Tryz.f219) ⟨argEnv 0 [.data TValue v], []⟩ (outK tab Go.Proofs.Tryz.f219.results.toList (hasBox []) (resK (.dat Ty.bool) K)) =
  ((Sm TValue v) ∧ K (.data Ty.bool (!(M.valueOk v))) []) := by kernel_rfl
theorem con219_ok : ConOk P 219 c219 := by
  refine con_okR (fn := Go.Proofs.Tryz.f219) (code := bodyOf Go.Proofs.Tryz.f219) (tab_ok tab_check cmp_check) consOk219 mixed Go.Proofs.Tryz.func219 rfl rfl fun args hp K h0 => ?_
  obtain ⟨a0, rfl, rfl, h1⟩ := args1_elim h0
  obtain ⟨v, rfl, h2⟩ := withD_elim h1
  obtain ⟨h_v, hK⟩ := h2
  have h : ok (F.impl_RowOk_1 v) (fun r => K (.data Ty.bool r) []) := ok_of_eq (F.impl_RowOk_1_eq v h_v) hK
  refine ⟨⟨show (1 : Nat) ≤ 6 by decide, show (1 : Nat) ≤ 1000000 by decide⟩, ann219, (L219 v), (.dat Ty.bool), (no_loops (by kernel_rfl)), ?_⟩
  · rw [vc219 v K]
    exact ⟨h_v, (have h := ok_ret h; h)⟩

/-! 214: slices.IndexFunc[[]loop.example/tablehouse/impl.Value,loop.example/tablehouse/impl.Value] -/
def c214 : Con := ⟨[.lent TValue, .any], fun args hp K => (args2 (fun a0 a1 => withB TValue a0 fun xs => withF 191 a1 (caps0 ((Sm (Ty.sl TValue) xs) ∧ K (.data (Ty.int .i64) (M.idx (t := TValue) (fun e => decide (e.1 = 0)) xs)) []))) args hp) ∨ (args2 (fun a0 a1 => withB TValue a0 fun xs => withF 219 a1 (caps0 ((Sm (Ty.sl TValue) xs) ∧ K (.data (Ty.int .i64) (M.idx (t := TValue) (fun e => !M.valueOk e) xs)) []))) args hp)⟩
def cons214 : Cons := [(191, c191), (219, c219)]
def inl214 : List (Nat × Inl) := []
@[reducible] def C214 : Ctx := ⟨tab, fun t => memN t cmps, cons214, 19, inl214, 0⟩
theorem consOk214 : ConsOk P C214 := by
  refine consOk_cons (enter_ok (fn := Go.Proofs.Tryz.f191) Go.Proofs.Tryz.func191 (by kernel_rfl) rfl) con191_ok ?_
  refine consOk_cons (enter_ok (fn := Go.Proofs.Tryz.f219) Go.Proofs.Tryz.func219 (by kernel_rfl) rfl) con219_ok ?_
  exact consOk_nil
def ann214_v0 : Nat → List Dir
  | 0 => [.keep [0, 1]]
  | 1 => [.keep [0, 1, 7, 8]]
  | 2 => [.keep [0, 1, 7, 8, 9]]
  | 3 => [.keep [0, 1, 5, 7, 8]]
  | 4 => [.keep [0, 1, 5, 7, 8, 16]]
  | 5 => [.keep [4]]
  | 6 => [.keep [0, 1, 7, 8]]
  | 7 => [.keep [4]]
  | 100000 => [.keep []]
  | _ => []
@[reducible] def LP214_0_v0 (xs : (List (TValue).D)) (m : Nat) (st_ : St) (K : X → St → Prop) : Prop := (True) ∧ LoopI (fun (i0 : Int) (v0 : Unit) => (⟨[(0, .brw TValue xs), (1, .fn 191 []), (7, .data (Ty.int .i64) (xs.length : Int)), (8, .data (Ty.int .i64) i0)], []⟩ : St)) (0 : Int) (xs.length : Int) (F.IndexFunc_impl_Bond_breaks_1_l0 xs) (fun v0 : Unit => True) (outD (fun v0 : Unit => True → K (.exit 0) (⟨[], []⟩ : St)) (fun q0 : Int => K .ret (⟨[(4, .data (Ty.int .i64) q0)], []⟩ : St))) m st_
def L214_v0 (xs : (List (TValue).D)) : Loops := fun id m st_ K => match id with
  | 0 => LP214_0_v0 xs m st_ K
  | _ => False
theorem vc214_v0 (xs : (List (TValue).D)) (K : AV → Hp → Prop) : awp C214 (L214_v0 xs) ann214_v0 (bodyOf Go.Proofs.Tryz.f214) ⟨argEnv 0 [.brw TValue xs, .fn 191 []], []⟩ (outK tab Go.Proofs.Tryz.f214.results.toList (hasBox []) (resK (.dat (Ty.int .i64)) K)) =
  ((∃ m_, (True) ∧ LoopI (fun (i0 : Int) (v0 : Unit) => (⟨[(0, .brw TValue xs), (1, .fn 191 []), (7, .data (Ty.int .i64) (xs.length : Int)), (8, .data (Ty.int .i64) i0)], []⟩ : St)) (0 : Int) (xs.length : Int) (F.IndexFunc_impl_Bond_breaks_1_l0 xs) (fun v0 : Unit => True) (outD (fun v0 : Unit => True → K (.data (Ty.int .i64) (-1 : Int)) []) (fun q0 : Int => K (.data (Ty.int .i64) q0) [])) m_ (⟨[(0, .brw TValue xs), (1, .fn 191 []), (7, .data (Ty.int .i64) (xs.length : Int)), (8, .data (Ty.int .i64) (0 : Int))], []⟩ : St))) := by kernel_rfl
theorem lvc214_0_v0 (xs : (List (TValue).D))  (i0 : Int) (v0 : Unit) (m : Nat) (K : X → St → Prop) : awp C214 (L214_v0 xs) ann214_v0 (loopAt (bodyOf Go.Proofs.Tryz.f214) 0) (⟨[(0, .brw TValue xs), (1, .fn 191 []), (7, .data (Ty.int .i64) (xs.length : Int)), (8, .data (Ty.int .i64) i0)], []⟩ : St) (thenW (fun s' => ∃ m', m' < m ∧ (L214_v0 xs) 0 m' s' K) (exitN 0 (ann214_v0 (behind 0)) K)) =
  (cond (decide (i0 < (xs.length : Int))) ((0 ≤ i0) ∧ (i0 < (xs.length : Int)) ∧ (Sm TValue (nth (t := TValue) xs i0)) ∧ cond (decide ((nth (t := TValue) xs i0).1 = 0)) (K .ret (⟨[(4, .data (Ty.int .i64) i0)], []⟩ : St)) ((∃ m_, m_ < m ∧ (L214_v0 xs) 0 m_ (⟨[(0, .brw TValue xs), (1, .fn 191 []), (7, .data (Ty.int .i64) (xs.length : Int)), (8, .data (Ty.int .i64) (wrap64 (i0 + (1 : Int))))], []⟩ : St) K))) (K (.exit 0) (⟨[], []⟩ : St))) := by kernel_rfl
def ann214_v1 : Nat → List Dir
  | 0 => [.keep [0, 1]]
  | 1 => [.keep [0, 1, 7, 8]]
  | 2 => [.keep [0, 1, 7, 8, 9]]
  | 3 => [.keep [0, 1, 5, 7, 8]]
  | 4 => [.keep [0, 1, 5, 7, 8, 16]]
  | 5 => [.keep [4]]
  | 6 => [.keep [0, 1, 7, 8]]
  | 7 => [.keep [4]]
  | 100000 => [.keep []]
  | _ => []
@[reducible] def LP214_0_v1 (xs : (List (TValue).D)) (m : Nat) (st_ : St) (K : X → St → Prop) : Prop := (True) ∧ LoopI (fun (i0 : Int) (v0 : Unit) => (⟨[(0, .brw TValue xs), (1, .fn 219 []), (7, .data (Ty.int .i64) (xs.length : Int)), (8, .data (Ty.int .i64) i0)], []⟩ : St)) (0 : Int) (xs.length : Int) (F.IndexFunc_impl_RowOk_1_l0 xs) (fun v0 : Unit => True) (outD (fun v0 : Unit => True → K (.exit 0) (⟨[], []⟩ : St)) (fun q0 : Int => K .ret (⟨[(4, .data (Ty.int .i64) q0)], []⟩ : St))) m st_
def L214_v1 (xs : (List (TValue).D)) : Loops := fun id m st_ K => match id with
  | 0 => LP214_0_v1 xs m st_ K
  | _ => False
theorem vc214_v1 (xs : (List (TValue).D)) (K : AV → Hp → Prop) : awp C214 (L214_v1 xs) ann214_v1 (bodyOf Go.Proofs.Tryz.f214) ⟨argEnv 0 [.brw TValue xs, .fn 219 []], []⟩ (outK tab Go.Proofs.Tryz.f214.results.toList (hasBox []) (resK (.dat (Ty.int .i64)) K)) =
  ((∃ m_, (True) ∧ LoopI (fun (i0 : Int) (v0 : Unit) => (⟨[(0, .brw TValue xs), (1, .fn 219 []), (7, .data (Ty.int .i64) (xs.length : Int)), (8, .data (Ty.int .i64) i0)], []⟩ : St)) (0 : Int) (xs.length : Int) (F.IndexFunc_impl_RowOk_1_l0 xs) (fun v0 : Unit => True) (outD (fun v0 : Unit => True → K (.data (Ty.int .i64) (-1 : Int)) []) (fun q0 : Int => K (.data (Ty.int .i64) q0) [])) m_ (⟨[(0, .brw TValue xs), (1, .fn 219 []), (7, .data (Ty.int .i64) (xs.length : Int)), (8, .data (Ty.int .i64) (0 : Int))], []⟩ : St))) := by kernel_rfl
theorem lvc214_0_v1 (xs : (List (TValue).D))  (i0 : Int) (v0 : Unit) (m : Nat) (K : X → St → Prop) : awp C214 (L214_v1 xs) ann214_v1 (loopAt (bodyOf Go.Proofs.Tryz.f214) 0) (⟨[(0, .brw TValue xs), (1, .fn 219 []), (7, .data (Ty.int .i64) (xs.length : Int)), (8, .data (Ty.int .i64) i0)], []⟩ : St) (thenW (fun s' => ∃ m', m' < m ∧ (L214_v1 xs) 0 m' s' K) (exitN 0 (ann214_v1 (behind 0)) K)) =
  (cond (decide (i0 < (xs.length : Int))) ((0 ≤ i0) ∧ (i0 < (xs.length : Int)) ∧ (Sm TValue (nth (t := TValue) xs i0)) ∧ cond (!M.valueOk (nth (t := TValue) xs i0)) (K .ret (⟨[(4, .data (Ty.int .i64) i0)], []⟩ : St)) ((∃ m_, m_ < m ∧ (L214_v1 xs) 0 m_ (⟨[(0, .brw TValue xs), (1, .fn 219 []), (7, .data (Ty.int .i64) (xs.length : Int)), (8, .data (Ty.int .i64) (wrap64 (i0 + (1 : Int))))], []⟩ : St) K))) (K (.exit 0) (⟨[], []⟩ : St))) := by kernel_rfl
theorem con214_ok : ConOk P 214 c214 := by
  refine con_okR (fn := Go.Proofs.Tryz.f214) (code := bodyOf Go.Proofs.Tryz.f214) (tab_ok tab_check cmp_check) consOk214 mixed Go.Proofs.Tryz.func214 rfl rfl fun args hp K h0 => ?_
  rcases h0 with h0 | h0
  · obtain ⟨a0, a1, rfl, rfl, h1⟩ := args2_elim h0
    obtain ⟨xs, rfl, h2⟩ := withB_elim h1
    obtain ⟨cs1, rfl, h3⟩ := withF_elim h2
    obtain ⟨rfl, h4⟩ := caps0_elim h3
    obtain ⟨h_xs, hK⟩ := h4
    have h : ok (F.IndexFunc_impl_Bond_breaks_1 xs) (fun r => K (.data (Ty.int .i64) r) []) := ok_of_eq (F.IndexFunc_impl_Bond_breaks_1_eq xs h_xs) hK
    refine ⟨⟨show (2 : Nat) ≤ 19 by decide, show (2 : Nat) ≤ 1000000 by decide⟩, ann214_v0, (L214_v0 xs), (.dat (Ty.int .i64)), (loopsN1 (i0 := 0) (by kernel_rfl) ?_), ?_⟩
    · clear h
      intro m_ s_ K_ h
      obtain ⟨hc0, i0, v0, rfl, hl0, rfl, hv0, h⟩ := (show LP214_0_v0 xs m_ s_ K_ from h)
      rw [lvc214_0_v0 xs i0 v0 _ K_]
      exact (loopI_step h (fun ht0 h => ⟨hl0, ⟨ht0, ⟨(sm_nth h_xs i0), (ok_cond h (fun b_9 h => (have h := ok_ret h; h)) (fun b_9 h => (loopI_next (fun m hm => (show LP214_0_v0 xs m _ _ from ⟨hc0, hm⟩)) () rfl hl0 low0 ht0 (sm_len h_xs) trivial (have h := ok_ret h; h))))⟩⟩⟩) (fun h => (h trivial)))
    · rw [vc214_v0 xs K]
      exact (loopI_start (fun m hm => ⟨trivial, hm⟩) (0 : Int) () rfl (Int.natCast_nonneg 0) trivial (ok_then h (fun v0 h hv0 => (have h := ok_ret h; h)) (fun q0 h => (have h := ok_ret h; h))))
  · obtain ⟨a0, a1, rfl, rfl, h1⟩ := args2_elim h0
    obtain ⟨xs, rfl, h2⟩ := withB_elim h1
    obtain ⟨cs1, rfl, h3⟩ := withF_elim h2
    obtain ⟨rfl, h4⟩ := caps0_elim h3
    obtain ⟨h_xs, hK⟩ := h4
    have h : ok (F.IndexFunc_impl_RowOk_1 xs) (fun r => K (.data (Ty.int .i64) r) []) := ok_of_eq (F.IndexFunc_impl_RowOk_1_eq xs h_xs) hK
    refine ⟨⟨show (2 : Nat) ≤ 19 by decide, show (2 : Nat) ≤ 1000000 by decide⟩, ann214_v1, (L214_v1 xs), (.dat (Ty.int .i64)), (loopsN1 (i0 := 0) (by kernel_rfl) ?_), ?_⟩
    · clear h
      intro m_ s_ K_ h
      obtain ⟨hc0, i0, v0, rfl, hl0, rfl, hv0, h⟩ := (show LP214_0_v1 xs m_ s_ K_ from h)
      rw [lvc214_0_v1 xs i0 v0 _ K_]
      exact (loopI_step h (fun ht0 h => ⟨hl0, ⟨ht0, ⟨(sm_nth h_xs i0), (ok_cond h (fun b_9 h => (have h := ok_ret h; h)) (fun b_9 h => (loopI_next (fun m hm => (show LP214_0_v1 xs m _ _ from ⟨hc0, hm⟩)) () rfl hl0 low0 ht0 (sm_len h_xs) trivial (have h := ok_ret h; h))))⟩⟩⟩) (fun h => (h trivial)))
    · rw [vc214_v1 xs K]
      exact (loopI_start (fun m hm => ⟨trivial, hm⟩) (0 : Int) () rfl (Int.natCast_nonneg 0) trivial (ok_then h (fun v0 h hv0 => (have h := ok_ret h; h)) (fun q0 h => (have h := ok_ret h; h))))

/-! 190: slices.ContainsFunc[[]loop.example/tablehouse/impl.Value,loop.example/tablehouse/impl.Value] -/
def c190 : Con := ⟨[.lent TValue, .any], fun args hp K => (args2 (fun a0 a1 => withB TValue a0 fun xs => withF 191 a1 (caps0 ((Sm (Ty.sl TValue) xs) ∧ K (.data Ty.bool (List.any xs (fun e => decide (e.1 = 0)))) []))) args hp) ∨ (args2 (fun a0 a1 => withB TValue a0 fun xs => withF 219 a1 (caps0 ((Sm (Ty.sl TValue) xs) ∧ K (.data Ty.bool (List.any xs (fun e => !M.valueOk e))) []))) args hp)⟩
def cons190 : Cons := [(191, c191), (214, c214), (219, c219)]
def inl190 : List (Nat × Inl) := []
@[reducible] def C190 : Ctx := ⟨tab, fun t => memN t cmps, cons190, 9, inl190, 0⟩
theorem consOk190 : ConsOk P C190 := by
  refine consOk_cons (enter_ok (fn := Go.Proofs.Tryz.f191) Go.Proofs.Tryz.func191 (by kernel_rfl) rfl) con191_ok ?_
  refine consOk_cons (enter_ok (fn := Go.Proofs.Tryz.f214) Go.Proofs.Tryz.func214 (by kernel_rfl) rfl) con214_ok ?_
  refine consOk_cons (enter_ok (fn := Go.Proofs.Tryz.f219) Go.Proofs.Tryz.func219 (by kernel_rfl) rfl) con219_ok ?_
  exact consOk_nil
def ann190_v0 : Nat → List Dir
  | 0 => [.keep [0, 1]]
  | 1 => [.keep [4]]
  | _ => []
def L190_v0 (xs : (List (TValue).D)) : Loops := fun id m st_ K => match id with
  | _ => False
theorem vc190_v0 (xs : (List (TValue).D)) (K : AV → Hp → Prop) : awp C190 (L190_v0 xs) ann190_v0 (bodyOf Go.Proofs.Tryz.f190) ⟨argEnv 0 [.brw TValue xs, .fn 191 []], []⟩ (outK tab Go.Proofs.Tryz.f190.results.toList (hasBox []) (resK (.dat Ty.bool) K)) =
  ((((Sm (Ty.sl TValue) xs) ∧ K (.data Ty.bool (decide ((0 : Int) ≤ (M.idx (t := TValue) (fun e => decide (e.1 = 0)) xs)))) []) ∨ False)) := by kernel_rfl
def ann190_v1 : Nat → List Dir
  | 0 => [.keep [0, 1]]
  | 1 => [.keep [4]]
  | _ => []
def L190_v1 (xs : (List (TValue).D)) : Loops := fun id m st_ K => match id with
  | _ => False
theorem vc190_v1 (xs : (List (TValue).D)) (K : AV → Hp → Prop) : awp C190 (L190_v1 xs) ann190_v1 (bodyOf Go.Proofs.Tryz.f190) ⟨argEnv 0 [.brw TValue xs, .fn 219 []], []⟩ (outK tab Go.Proofs.Tryz.f190.results.toList (hasBox []) (resK (.dat Ty.bool) K)) =
  ((False ∨ ((Sm (Ty.sl TValue) xs) ∧ K (.data Ty.bool (decide ((0 : Int) ≤ (M.idx (t := TValue) (fun e => !M.valueOk e) xs)))) []))) := by kernel_rfl
theorem con190_ok : ConOk P 190 c190 := by
  refine con_okR (fn := Go.Proofs.Tryz.f190) (code := bodyOf Go.Proofs.Tryz.f190) (tab_ok tab_check cmp_check) consOk190 mixed Go.Proofs.Tryz.func190 rfl rfl fun args hp K h0 => ?_
  rcases h0 with h0 | h0
  · obtain ⟨a0, a1, rfl, rfl, h1⟩ := args2_elim h0
    obtain ⟨xs, rfl, h2⟩ := withB_elim h1
    obtain ⟨cs1, rfl, h3⟩ := withF_elim h2
    obtain ⟨rfl, h4⟩ := caps0_elim h3
    obtain ⟨h_xs, hK⟩ := h4
    have h : ok (F.ContainsFunc_impl_Bond_breaks_1 xs) (fun r => K (.data Ty.bool r) []) := ok_of_eq (F.ContainsFunc_impl_Bond_breaks_1_eq xs h_xs) hK
    refine ⟨⟨show (2 : Nat) ≤ 9 by decide, show (2 : Nat) ≤ 1000000 by decide⟩, ann190_v0, (L190_v0 xs), (.dat Ty.bool), (no_loops (by kernel_rfl)), ?_⟩
    · rw [vc190_v0 xs K]
      exact (Or.inl (⟨h_xs, (have h := ok_ret h; h)⟩))
  · obtain ⟨a0, a1, rfl, rfl, h1⟩ := args2_elim h0
    obtain ⟨xs, rfl, h2⟩ := withB_elim h1
    obtain ⟨cs1, rfl, h3⟩ := withF_elim h2
    obtain ⟨rfl, h4⟩ := caps0_elim h3
    obtain ⟨h_xs, hK⟩ := h4
    have h : ok (F.ContainsFunc_impl_RowOk_1 xs) (fun r => K (.data Ty.bool r) []) := ok_of_eq (F.ContainsFunc_impl_RowOk_1_eq xs h_xs) hK
    refine ⟨⟨show (2 : Nat) ≤ 9 by decide, show (2 : Nat) ≤ 1000000 by decide⟩, ann190_v1, (L190_v1 xs), (.dat Ty.bool), (no_loops (by kernel_rfl)), ?_⟩
    · rw [vc190_v1 xs K]
      exact (Or.inr (⟨h_xs, (have h := ok_ret h; h)⟩))

/-! 209: loop.example/tablehouse/impl.RowOk -/
def c209 : Con := ⟨[.dat (Ty.sl TValue)], fun args hp K => args1 (fun a0 => withD (Ty.sl TValue) a0 fun row => (Sm (Ty.sl TValue) row) ∧ K (.data Ty.bool (M.rowOk row)) []) args hp⟩
def cons209 : Cons := [(190, c190)]
def inl209 : List (Nat × Inl) := []
@[reducible] def C209 : Ctx := ⟨tab, fun t => memN t cmps, cons209, 11, inl209, 0⟩
theorem consOk209 : ConsOk P C209 := by
  refine consOk_cons (enter_ok (fn := Go.Proofs.Tryz.f190) Go.Proofs.Tryz.func190 (by kernel_rfl) rfl) con190_ok ?_
  exact consOk_nil
def ann209 : Nat → List Dir
  | 0 => [.keep [0]]
  | 1 => [.keep [2]]
  | _ => []
def L209 (row : (List (TValue).D)) : Loops := fun id m st_ K => match id with
  | _ => False
theorem vc209 (row : (List (TValue).D)) (K : AV → Hp → Prop) : awp C209 (L209 row) ann209 (bodyOf Go.Proofs.Tryz.f209) ⟨argEnv 0 [.data (Ty.sl TValue) row], []⟩ (outK tab Go.Proofs.Tryz.f209.results.toList (hasBox []) (resK (.dat Ty.bool) K)) =
  (cond ((decide ((row.length : Int) ≤ (4 : Int))) == true) ((False ∨ ((Sm (Ty.sl TValue) row) ∧ K (.data Ty.bool (!(List.any row (fun e => !M.valueOk e)))) []))) (K (.data Ty.bool false) [])) := by kernel_rfl
theorem con209_ok : ConOk P 209 c209 := by
  refine con_okR (fn := Go.Proofs.Tryz.f209) (code := bodyOf Go.Proofs.Tryz.f209) (tab_ok tab_check cmp_check) consOk209 mixed Go.Proofs.Tryz.func209 rfl rfl fun args hp K h0 => ?_
  obtain ⟨a0, rfl, rfl, h1⟩ := args1_elim h0
  obtain ⟨row, rfl, h2⟩ := withD_elim h1
  obtain ⟨h_row, hK⟩ := h2
  have h : ok (F.impl_RowOk row) (fun r => K (.data Ty.bool r) []) := ok_of_eq (F.impl_RowOk_eq row h_row) hK
  refine ⟨⟨show (1 : Nat) ≤ 11 by decide, show (1 : Nat) ≤ 1000000 by decide⟩, ann209, (L209 row), (.dat Ty.bool), (no_loops (by kernel_rfl)), ?_⟩
  · rw [vc209 row K]
    exact (ok_cond h (fun b_1 h => (Or.inr (⟨h_row, (have h := ok_ret h; h)⟩))) (fun b_1 h => (have h := ok_ret h; h)))

/-! 176: loop.example/tablehouse/impl.RowFits -/
def c176 : Con := ⟨[.dat (Ty.sl TColumn), .dat (Ty.sl TValue)], fun args hp K => args2 (fun a0 a1 => withD (Ty.sl TColumn) a0 fun columns => withD (Ty.sl TValue) a1 fun row => (Sm (Ty.sl TColumn) columns) ∧ (Sm (Ty.sl TValue) row) ∧ K (.data Ty.bool (M.rowFits columns row)) []) args hp⟩
def cons176 : Cons := [(133, c133), (209, c209)]
def inl176 : List (Nat × Inl) := []
@[reducible] def C176 : Ctx := ⟨tab, fun t => memN t cmps, cons176, 51, inl176, 0⟩
theorem consOk176 : ConsOk P C176 := by
  refine consOk_cons (enter_ok (fn := Go.Proofs.Tryz.f133) Go.Proofs.Tryz.func133 (by kernel_rfl) rfl) con133_ok ?_
  refine consOk_cons (enter_ok (fn := Go.Proofs.Tryz.f209) Go.Proofs.Tryz.func209 (by kernel_rfl) rfl) con209_ok ?_
  exact consOk_nil
def ann176 : Nat → List Dir
  | 0 => [.keep [0, 1]]
  | 1 => [.keep [0, 1, 21]]
  | 2 => [.keep [4]]
  | 3 => [.keep [0, 22, 23, 24]]
  | 4 => [.keep [0, 22, 23, 24, 25]]
  | 5 => [.fixRow 6 TValue, .keep [0, 5, 6, 22, 23, 24]]
  | 6 => [.keep [0, 22, 23, 24, 49]]
  | 7 => [.keep [4]]
  | 8 => [.keep [0, 22, 23, 24]]
  | 9 => [.keep [4]]
  | 100000 => [.keep []]
  | _ => []
@[reducible] def LP176_0 (columns : (List (TColumn).D)) (row : (List (TValue).D)) (m : Nat) (st_ : St) (K : X → St → Prop) : Prop := (True) ∧ LoopI (fun (i0 : Int) (v0 : Unit) => (⟨[(0, .data (Ty.sl TColumn) columns), (22, .data (Ty.sl TValue) row), (23, .data (Ty.int .i64) (row.length : Int)), (24, .data (Ty.int .i64) i0)], []⟩ : St)) (0 : Int) (row.length : Int) (F.impl_RowFits_l0 columns row) (fun v0 : Unit => True) (outD (fun v0 : Unit => True → K (.exit 0) (⟨[], []⟩ : St)) (fun q0 : Unit => K .ret (⟨[(4, .data Ty.bool false)], []⟩ : St))) m st_
def L176 (columns : (List (TColumn).D)) (row : (List (TValue).D)) : Loops := fun id m st_ K => match id with
  | 0 => LP176_0 columns row m st_ K
  | _ => False
theorem vc176 (columns : (List (TColumn).D)) (row : (List (TValue).D)) (K : AV → Hp → Prop) : awp C176 (L176 columns row) ann176 (bodyOf Go.Proofs.Tryz.f176) ⟨argEnv 0 [.data (Ty.sl TColumn) columns, .data (Ty.sl TValue) row], []⟩ (outK tab Go.Proofs.Tryz.f176.results.toList (hasBox []) (resK (.dat Ty.bool) K)) =
  ((Sm (Ty.sl TColumn) columns) ∧ cond ((!(M.columnsOk columns)) == false) ((Sm (Ty.sl TValue) row) ∧ cond ((!(M.rowOk row)) == false) (cond (!decide ((row.length : Int) = (columns.length : Int))) (K (.data Ty.bool false) []) ((∃ m_, (True) ∧ LoopI (fun (i0 : Int) (v0 : Unit) => (⟨[(0, .data (Ty.sl TColumn) columns), (22, .data (Ty.sl TValue) row), (23, .data (Ty.int .i64) (row.length : Int)), (24, .data (Ty.int .i64) i0)], []⟩ : St)) (0 : Int) (row.length : Int) (F.impl_RowFits_l0 columns row) (fun v0 : Unit => True) (outD (fun v0 : Unit => True → K (.data Ty.bool true) []) (fun q0 : Unit => K (.data Ty.bool false) [])) m_ (⟨[(0, .data (Ty.sl TColumn) columns), (22, .data (Ty.sl TValue) row), (23, .data (Ty.int .i64) (row.length : Int)), (24, .data (Ty.int .i64) (0 : Int))], []⟩ : St)))) (K (.data Ty.bool false) [])) (K (.data Ty.bool false) [])) := by kernel_rfl
theorem lvc176_0 (columns : (List (TColumn).D)) (row : (List (TValue).D))  (i0 : Int) (v0 : Unit) (m : Nat) (K : X → St → Prop) : awp C176 (L176 columns row) ann176 (loopAt (bodyOf Go.Proofs.Tryz.f176) 0) (⟨[(0, .data (Ty.sl TColumn) columns), (22, .data (Ty.sl TValue) row), (23, .data (Ty.int .i64) (row.length : Int)), (24, .data (Ty.int .i64) i0)], []⟩ : St) (thenW (fun s' => ∃ m', m' < m ∧ (L176 columns row) 0 m' s' K) (exitN 0 (ann176 (behind 0)) K)) =
  (cond (decide (i0 < (row.length : Int))) ((0 ≤ i0) ∧ (i0 < (row.length : Int)) ∧ (0 ≤ i0) ∧ (i0 < (columns.length : Int)) ∧ cond ((!decide ((nth (t := TValue) row i0).1 = (nth (t := TColumn) columns i0).1)) == true) (cond ((!decide ((nth (t := TValue) row i0).1 = (0 : Int))) == false) ((0 ≤ i0) ∧ (i0 < (columns.length : Int)) ∧ cond (!(((nth (t := TColumn) columns i0).2).1)) (K .ret (⟨[(4, .data Ty.bool false)], []⟩ : St)) ((∃ m_, m_ < m ∧ (L176 columns row) 0 m_ (⟨[(0, .data (Ty.sl TColumn) columns), (22, .data (Ty.sl TValue) row), (23, .data (Ty.int .i64) (row.length : Int)), (24, .data (Ty.int .i64) (wrap64 (i0 + (1 : Int))))], []⟩ : St) K))) (K .ret (⟨[(4, .data Ty.bool false)], []⟩ : St))) ((∃ m_, m_ < m ∧ (L176 columns row) 0 m_ (⟨[(0, .data (Ty.sl TColumn) columns), (22, .data (Ty.sl TValue) row), (23, .data (Ty.int .i64) (row.length : Int)), (24, .data (Ty.int .i64) (wrap64 (i0 + (1 : Int))))], []⟩ : St) K))) (K (.exit 0) (⟨[], []⟩ : St))) := by kernel_rfl
theorem con176_ok : ConOk P 176 c176 := by
  refine con_okR (fn := Go.Proofs.Tryz.f176) (code := bodyOf Go.Proofs.Tryz.f176) (tab_ok tab_check cmp_check) consOk176 mixed Go.Proofs.Tryz.func176 rfl rfl fun args hp K h0 => ?_
  obtain ⟨a0, a1, rfl, rfl, h1⟩ := args2_elim h0
  obtain ⟨columns, rfl, h2⟩ := withD_elim h1
  obtain ⟨row, rfl, h3⟩ := withD_elim h2
  obtain ⟨h_columns, h_row, hK⟩ := h3
  have h : ok (F.impl_RowFits columns row) (fun r => K (.data Ty.bool r) []) := ok_of_eq (F.impl_RowFits_eq columns row h_columns h_row) hK
  refine ⟨⟨show (2 : Nat) ≤ 51 by decide, show (2 : Nat) ≤ 1000000 by decide⟩, ann176, (L176 columns row), (.dat Ty.bool), (loopsN1 (i0 := 0) (by kernel_rfl) ?_), ?_⟩
  · clear h
    intro m_ s_ K_ h
    obtain ⟨hc0, i0, v0, rfl, hl0, rfl, hv0, h⟩ := (show LP176_0 columns row m_ s_ K_ from h)
    rw [lvc176_0 columns row i0 v0 _ K_]
    exact (loopI_step h (fun ht0 h => ⟨hl0, ⟨ht0, ⟨hl0, ⟨(ok_guard h).1, have g_18 := (ok_guard h).1; have h := (ok_guard h).2; (ok_cond h (fun b_19 h => (ok_cond h (fun b_20 h => ⟨hl0, ⟨g_18, (ok_cond h (fun b_21 h => (have h := ok_ret h; h)) (fun b_21 h => (loopI_next (fun m hm => (show LP176_0 columns row m _ _ from ⟨hc0, hm⟩)) () rfl hl0 low0 ht0 (sm_len h_row) trivial (have h := ok_ret h; h))))⟩⟩) (fun b_20 h => (have h := ok_ret h; h)))) (fun b_19 h => (loopI_next (fun m hm => (show LP176_0 columns row m _ _ from ⟨hc0, hm⟩)) () rfl hl0 low0 ht0 (sm_len h_row) trivial (have h := ok_ret h; h))))⟩⟩⟩⟩) (fun h => (h trivial)))
  · rw [vc176 columns row K]
    exact ⟨h_columns, (ok_cond h (fun b_1 h => ⟨h_row, (ok_cond h (fun b_2 h => (ok_cond h (fun b_3 h => (have h := ok_ret h; h)) (fun b_3 h => (loopI_start (fun m hm => ⟨trivial, hm⟩) (0 : Int) () rfl (Int.natCast_nonneg 0) trivial (ok_then h (fun v0 h hv0 => (have h := ok_ret h; h)) (fun q0 h => (have h := ok_ret h; h))))))) (fun b_2 h => (have h := ok_ret h; h)))⟩) (fun b_1 h => (have h := ok_ret h; h)))⟩

/-! 175: loop.example/tablehouse/impl.RowsOk$1 -/
def c175 : Con := ⟨[.dat (Ty.sl TValue), .any], fun args hp K => args2 (fun a0 a1 => withD (Ty.sl TValue) a0 fun r => withR (Ty.sl TColumn) a1 fun columns => (Sm (Ty.sl TValue) r) ∧ (Sm (Ty.sl TColumn) columns) ∧ K (.data Ty.bool (!M.rowFits columns r)) []) args hp⟩
def cons175 : Cons := [(176, c176)]
def inl175 : List (Nat × Inl) := []
@[reducible] def C175 : Ctx := ⟨tab, fun t => memN t cmps, cons175, 8, inl175, 0⟩
theorem consOk175 : ConsOk P C175 := by
  refine consOk_cons (enter_ok (fn := Go.Proofs.Tryz.f176) Go.Proofs.Tryz.func176 (by kernel_rfl) rfl) con176_ok ?_
  exact consOk_nil
def ann175 : Nat → List Dir
  | 0 => [.keep [0, 1]]
  | 1 => [.keep [3]]
  | _ => []
def L175 (r : (List (TValue).D)) (columns : (List (TColumn).D)) : Loops := fun id m st_ K => match id with
  | _ => False
theorem vc175 (r : (List (TValue).D)) (columns : (List (TColumn).D)) (K : AV → Hp → Prop) : awp C175 (L175 r columns) ann175 (bodyOf Go.Proofs.Tryz.f175) ⟨argEnv 0 [.data (Ty.sl TValue) r, .ref (.data (Ty.sl TColumn) columns)], []⟩ (outK tab Go.Proofs.Tryz.f175.results.toList (hasBox []) (resK (.dat Ty.bool) K)) =
  ((Sm (Ty.sl TColumn) columns) ∧ (Sm (Ty.sl TValue) r) ∧ K (.data Ty.bool (!(M.rowFits columns r))) []) := by kernel_rfl
theorem con175_ok : ConOk P 175 c175 := by
  refine con_okR (fn := Go.Proofs.Tryz.f175) (code := bodyOf Go.Proofs.Tryz.f175) (tab_ok tab_check cmp_check) consOk175 mixed Go.Proofs.Tryz.func175 rfl rfl fun args hp K h0 => ?_
  obtain ⟨a0, a1, rfl, rfl, h1⟩ := args2_elim h0
  obtain ⟨r, rfl, h2⟩ := withD_elim h1
  obtain ⟨columns, rfl, h3⟩ := withR_elim h2
  obtain ⟨h_r, h_columns, hK⟩ := h3
  have h : ok (F.impl_RowsOk_1 r columns) (fun r => K (.data Ty.bool r) []) := ok_of_eq (F.impl_RowsOk_1_eq r columns h_r h_columns) hK
  refine ⟨⟨show (2 : Nat) ≤ 8 by decide, show (2 : Nat) ≤ 1000000 by decide⟩, ann175, (L175 r columns), (.dat Ty.bool), (no_loops (by kernel_rfl)), ?_⟩
  · rw [vc175 r columns K]
    exact ⟨h_columns, ⟨h_r, (have h := ok_ret h; h)⟩⟩

/-! 182: slices.Clip[[]loop.example/tablehouse/impl.Value,loop.example/tablehouse/impl.Value] -/
def c182 : Con := ⟨[.dat (Ty.sl TValue)], fun args hp K => args1 (fun a0 => withD (Ty.sl TValue) a0 fun xs => (Sm (Ty.sl TValue) xs) ∧ (∀ r : (List (TValue).D), r = (xs) → K (.data (Ty.sl TValue) r) [])) args hp⟩
def cons182 : Cons := []
def inl182 : List (Nat × Inl) := []
@[reducible] def C182 : Ctx := ⟨tab, fun t => memN t cmps, cons182, 9, inl182, 0⟩
theorem consOk182 : ConsOk P C182 := by
  exact consOk_nil
def ann182 : Nat → List Dir
  | 0 => [.keep [0]]
  | 1 => [.keep [2]]
  | _ => []
def L182 (xs : (List (TValue).D)) : Loops := fun id m st_ K => match id with
  | _ => False
theorem vc182 (xs : (List (TValue).D)) (K : AV → Hp → Prop) : awp C182 (L182 xs) ann182 (bodyOf Go.Proofs.Tryz.f182) ⟨argEnv 0 [.data (Ty.sl TValue) xs], []⟩ (outK tab Go.Proofs.Tryz.f182.results.toList (hasBox []) (resK (.dat (Ty.sl TValue)) K)) =
  ((0 ≤ (0 : Int)) ∧ ((0 : Int) ≤ (xs.length : Int)) ∧ ((xs.length : Int) ≤ (xs.length : Int)) ∧ ((xs.length : Int) = (xs.length : Int)) ∧ K (.data (Ty.sl TValue) (cutList xs (some ((0 : Int), (xs.length : Int))))) []) := by kernel_rfl
theorem con182_ok : ConOk P 182 c182 := by
  refine con_okR (fn := Go.Proofs.Tryz.f182) (code := bodyOf Go.Proofs.Tryz.f182) (tab_ok tab_check cmp_check) consOk182 mixed Go.Proofs.Tryz.func182 rfl rfl fun args hp K h0 => ?_
  obtain ⟨a0, rfl, rfl, h1⟩ := args1_elim h0
  obtain ⟨xs, rfl, h2⟩ := withD_elim h1
  obtain ⟨h_xs, hK⟩ := h2
  have h : ok (F.Clip_TValue xs) (fun r => K (.data (Ty.sl TValue) r) []) := ok_of_eq (F.Clip_TValue_eq xs h_xs) (hK _ rfl)
  refine ⟨⟨show (1 : Nat) ≤ 9 by decide, show (1 : Nat) ≤ 1000000 by decide⟩, ann182, (L182 xs), (.dat (Ty.sl TValue)), (no_loops (by kernel_rfl)), ?_⟩
  · rw [vc182 xs K]
    exact ⟨(Int.natCast_nonneg 0), ⟨(Int.natCast_nonneg _), ⟨(Int.le_refl _), ⟨rfl, (have h := ok_ret h; h)⟩⟩⟩⟩

/-! 139: loop.example/tablehouse/impl.clone[loop.example/tablehouse/impl.Value] -/
def c139 : Con := ⟨[.dat (Ty.sl TValue)], fun args hp K => args1 (fun a0 => withD (Ty.sl TValue) a0 fun xs => (Sm (Ty.sl TValue) xs) ∧ (∀ r : (List (TValue).D), r = (xs) → K (.data (Ty.sl TValue) r) [])) args hp⟩
def cons139 : Cons := [(182, c182)]
def inl139 : List (Nat × Inl) := []
@[reducible] def C139 : Ctx := ⟨tab, fun t => memN t cmps, cons139, 9, inl139, 0⟩
theorem consOk139 : ConsOk P C139 := by
  refine consOk_cons (enter_ok (fn := Go.Proofs.Tryz.f182) Go.Proofs.Tryz.func182 (by kernel_rfl) rfl) con182_ok ?_
  exact consOk_nil
def ann139 : Nat → List Dir
  | 0 => [.keep [0]]
  | 1 => [.keep [0, 5]]
  | 2 => [.keep [2]]
  | 3 => [.keep [2]]
  | _ => []
def L139 (xs : (List (TValue).D)) : Loops := fun id m st_ K => match id with
  | _ => False
theorem vc139 (xs : (List (TValue).D)) (K : AV → Hp → Prop) : awp C139 (L139 xs) ann139 (bodyOf Go.Proofs.Tryz.f139) ⟨argEnv 0 [.data (Ty.sl TValue) xs], []⟩ (outK tab Go.Proofs.Tryz.f139.results.toList (hasBox []) (resK (.dat (Ty.sl TValue)) K)) =
  (cond (decide ((xs.length : Int) = (0 : Int))) (K (.data (Ty.sl TValue) []) []) ((xs.length * 32 ≤ lim) ∧ (Sm (Ty.sl TValue) xs) ∧ (∀ r_3_2 : (List (TValue).D), r_3_2 = (xs) → K (.data (Ty.sl TValue) r_3_2) []))) := by kernel_rfl
theorem con139_ok : ConOk P 139 c139 := by
  refine con_okR (fn := Go.Proofs.Tryz.f139) (code := bodyOf Go.Proofs.Tryz.f139) (tab_ok tab_check cmp_check) consOk139 mixed Go.Proofs.Tryz.func139 rfl rfl fun args hp K h0 => ?_
  obtain ⟨a0, rfl, rfl, h1⟩ := args1_elim h0
  obtain ⟨xs, rfl, h2⟩ := withD_elim h1
  obtain ⟨h_xs, hK⟩ := h2
  have h : ok (F.clone_TValue xs) (fun r => K (.data (Ty.sl TValue) r) []) := ok_of_eq (F.clone_TValue_eq xs h_xs) (hK _ rfl)
  refine ⟨⟨show (1 : Nat) ≤ 9 by decide, show (1 : Nat) ≤ 1000000 by decide⟩, ann139, (L139 xs), (.dat (Ty.sl TValue)), (no_loops (by kernel_rfl)), ?_⟩
  · rw [vc139 xs K]
    exact (ok_cond h (fun b_1 h => (have h := ok_ret h; h)) (fun b_1 h => ⟨(sm_lim h_xs rfl), ⟨h_xs, (fun r_3_2 e_r_3_2 => have h := ok_let h r_3_2 e_r_3_2; (have h := ok_ret h; h))⟩⟩))

/-! 151: loop.example/tablehouse/impl.taken -/
def c151 : Con := ⟨[.dat (Ty.sl TValue), .dat (Ty.sl (Ty.int .i64))], fun args hp K => args2 (fun a0 a1 => withD (Ty.sl TValue) a0 fun row => withD (Ty.sl (Ty.int .i64)) a1 fun list => (Sm (Ty.sl TValue) row) ∧ (Sm (Ty.sl (Ty.int .i64)) list) ∧ (M.inRow row list) ∧ (∀ r : (List (TValue).D), r = (M.taken row list) → K (.data (Ty.sl TValue) r) [])) args hp⟩
def cons151 : Cons := [(139, c139)]
def inl151 : List (Nat × Inl) := []
@[reducible] def C151 : Ctx := ⟨tab, fun t => memN t cmps, cons151, 24, inl151, 0⟩
theorem consOk151 : ConsOk P C151 := by
  refine consOk_cons (enter_ok (fn := Go.Proofs.Tryz.f139) Go.Proofs.Tryz.func139 (by kernel_rfl) rfl) con139_ok ?_
  exact consOk_nil
def ann151 : Nat → List Dir
  | 0 => [.keep [0, 1]]
  | 1 => [.keep [0, 1, 5]]
  | 2 => [.keep [0, 5, 8, 9, 10]]
  | 3 => [.keep [0, 5, 8, 9, 10, 11]]
  | 4 => [.keep [0, 5, 7, 8, 9, 10]]
  | 5 => [.keep [0, 5, 8, 9, 10]]
  | 6 => [.keep [0, 5, 8, 9, 10]]
  | 7 => [.keep [4]]
  | 100000 => [.keep [5]]
  | _ => []
@[reducible] def LP151_0 (row : (List (TValue).D)) (list : (List Int)) (m : Nat) (st_ : St) (K : X → St → Prop) : Prop := (True) ∧ LoopE (t := (Ty.int .i64)) (fun (i0 : Int) (v0 : (List (TValue).D)) => (⟨[(0, .data (Ty.sl TValue) row), (5, .own 5 none), (8, .data (Ty.sl (Ty.int .i64)) list), (9, .data (Ty.int .i64) (list.length : Int)), (10, .data (Ty.int .i64) i0)], [(5, .arr TValue v0)]⟩ : St)) list (F.impl_taken_l0 row list) (fun v0 : (List (TValue).D) => True) (outD (fun v0 : (List (TValue).D) => True → K (.exit 0) (⟨[(5, .own 5 none)], [(5, .arr TValue v0)]⟩ : St)) (fun _ => False)) m st_
def L151 (row : (List (TValue).D)) (list : (List Int)) : Loops := fun id m st_ K => match id with
  | 0 => LP151_0 row list m st_ K
  | _ => False
theorem vc151 (row : (List (TValue).D)) (list : (List Int)) (K : AV → Hp → Prop) : awp C151 (L151 row list) ann151 (bodyOf Go.Proofs.Tryz.f151) ⟨argEnv 0 [.data (Ty.sl TValue) row, .data (Ty.sl (Ty.int .i64)) list], []⟩ (outK tab Go.Proofs.Tryz.f151.results.toList (hasBox []) (resK (.dat (Ty.sl TValue)) K)) =
  ((∃ m_, (True) ∧ LoopE (t := (Ty.int .i64)) (fun (i0 : Int) (v0 : (List (TValue).D)) => (⟨[(0, .data (Ty.sl TValue) row), (5, .own 5 none), (8, .data (Ty.sl (Ty.int .i64)) list), (9, .data (Ty.int .i64) (list.length : Int)), (10, .data (Ty.int .i64) i0)], [(5, .arr TValue v0)]⟩ : St)) list (F.impl_taken_l0 row list) (fun v0 : (List (TValue).D) => True) (outD (fun v0 : (List (TValue).D) => True → (Sm (Ty.sl TValue) v0) ∧ (∀ r_7_1 : (List (TValue).D), r_7_1 = (v0) → K (.data (Ty.sl TValue) r_7_1) [])) (fun _ => False)) m_ (⟨[(0, .data (Ty.sl TValue) row), (5, .own 5 none), (8, .data (Ty.sl (Ty.int .i64)) list), (9, .data (Ty.int .i64) (list.length : Int)), (10, .data (Ty.int .i64) (0 : Int))], [(5, .arr TValue [])]⟩ : St))) := by kernel_rfl
theorem lvc151_0 (row : (List (TValue).D)) (list : (List Int))  (i0 : Int) (v0 : (List (TValue).D)) (m : Nat) (K : X → St → Prop) : awp C151 (L151 row list) ann151 (loopAt (bodyOf Go.Proofs.Tryz.f151) 0) (⟨[(0, .data (Ty.sl TValue) row), (5, .own 5 none), (8, .data (Ty.sl (Ty.int .i64)) list), (9, .data (Ty.int .i64) (list.length : Int)), (10, .data (Ty.int .i64) i0)], [(5, .arr TValue v0)]⟩ : St) (thenW (fun s' => ∃ m', m' < m ∧ (L151 row list) 0 m' s' K) (exitN 0 (ann151 (behind 0)) K)) =
  (cond (decide (i0 < (list.length : Int))) ((0 ≤ i0) ∧ (i0 < (list.length : Int)) ∧ (0 ≤ (nth (t := (Ty.int .i64)) list i0)) ∧ ((nth (t := (Ty.int .i64)) list i0) < (row.length : Int)) ∧ ((v0.length + [(nth (t := TValue) row (nth (t := (Ty.int .i64)) list i0))].length) * 32 ≤ lim) ∧ (∃ m_, m_ < m ∧ (L151 row list) 0 m_ (⟨[(0, .data (Ty.sl TValue) row), (5, .own 5 none), (8, .data (Ty.sl (Ty.int .i64)) list), (9, .data (Ty.int .i64) (list.length : Int)), (10, .data (Ty.int .i64) (wrap64 (i0 + (1 : Int))))], [(5, .arr TValue (v0 ++ [(nth (t := TValue) row (nth (t := (Ty.int .i64)) list i0))]))]⟩ : St) K)) (K (.exit 0) (⟨[(5, .own 5 none)], [(5, .arr TValue v0)]⟩ : St))) := by kernel_rfl
theorem con151_ok : ConOk P 151 c151 := by
  refine con_okR (fn := Go.Proofs.Tryz.f151) (code := bodyOf Go.Proofs.Tryz.f151) (tab_ok tab_check cmp_check) consOk151 mixed Go.Proofs.Tryz.func151 rfl rfl fun args hp K h0 => ?_
  obtain ⟨a0, a1, rfl, rfl, h1⟩ := args2_elim h0
  obtain ⟨row, rfl, h2⟩ := withD_elim h1
  obtain ⟨list, rfl, h3⟩ := withD_elim h2
  obtain ⟨h_row, h_list, p0, hK⟩ := h3
  have h : ok (F.impl_taken row list) (fun r => K (.data (Ty.sl TValue) r) []) := ok_of_eq (F.impl_taken_eq row list h_row h_list p0) (hK _ rfl)
  refine ⟨⟨show (2 : Nat) ≤ 24 by decide, show (2 : Nat) ≤ 1000000 by decide⟩, ann151, (L151 row list), (.dat (Ty.sl TValue)), (loopsN1 (i0 := 0) (by kernel_rfl) ?_), ?_⟩
  · clear h
    intro m_ s_ K_ h
    obtain ⟨hc0, i0, v0, rfl, hl0, rfl, hv0, h⟩ := (show LP151_0 row list m_ s_ K_ from h)
    rw [lvc151_0 row list i0 v0 _ K_]
    exact (loopE_step (t := (Ty.int .i64)) hl0 h (fun ht0 h => ⟨hl0, ⟨ht0, ⟨(ok_guard h).1, have g_17 := (ok_guard h).1; have h := (ok_guard h).2; ⟨(ok_guard h).1, have g_18 := (ok_guard h).1; have h := (ok_guard h).2; ⟨(ok_guard h).1, have g_19 := (ok_guard h).1; have h := (ok_guard h).2; (loopE_next (t := (Ty.int .i64)) (fun m hm => (show LP151_0 row list m _ _ from ⟨hc0, hm⟩)) (v0 ++ [(nth (t := TValue) row (nth (t := (Ty.int .i64)) list i0))]) rfl hl0 ht0 (sm_len h_list) trivial (have h := ok_ret h; h))⟩⟩⟩⟩⟩) (fun h => (h trivial)))
  · rw [vc151 row list K]
    exact (loopE_start (t := (Ty.int .i64)) (fun m hm => ⟨trivial, hm⟩) [] rfl trivial (ok_then h (fun v0 h hv0 => ⟨(ok_guard h).1, have g_20 := (ok_guard h).1; have h := (ok_guard h).2; (fun r_7_1 e_r_7_1 => have h := ok_let h r_7_1 e_r_7_1; (have h := ok_ret h; h))⟩) (fun _ h => h.elim)))

/-! 194: slices.Equal[[]loop.example/tablehouse/impl.Value,loop.example/tablehouse/impl.Value] -/
def c194 : Con := ⟨[.lent TValue, .lent TValue], fun args hp K => args2 (fun a0 a1 => withB TValue a0 fun xs => withB TValue a1 fun ys => (Sm (Ty.sl TValue) xs) ∧ (Sm (Ty.sl TValue) ys) ∧ K (.data Ty.bool (decide (xs = ys))) []) args hp⟩
def cons194 : Cons := []
def inl194 : List (Nat × Inl) := []
@[reducible] def C194 : Ctx := ⟨tab, fun t => memN t cmps, cons194, 26, inl194, 0⟩
theorem consOk194 : ConsOk P C194 := by
  exact consOk_nil
def ann194 : Nat → List Dir
  | 0 => [.keep [0, 1]]
  | 1 => [.keep [0, 1, 10]]
  | 2 => [.keep [4]]
  | 3 => [.keep [0, 1, 12, 13]]
  | 4 => [.keep [0, 1, 12, 13, 14]]
  | 5 => [.keep [0, 1, 5, 12, 13]]
  | 6 => [.keep [0, 1, 12, 13, 24]]
  | 7 => [.keep [4]]
  | 8 => [.keep [0, 1, 12, 13]]
  | 9 => [.keep [4]]
  | 100000 => [.keep []]
  | _ => []
@[reducible] def LP194_0 (xs : (List (TValue).D)) (ys : (List (TValue).D)) (m : Nat) (st_ : St) (K : X → St → Prop) : Prop := (True) ∧ LoopI (fun (i0 : Int) (v0 : Unit) => (⟨[(0, .brw TValue xs), (1, .brw TValue ys), (12, .data (Ty.int .i64) (xs.length : Int)), (13, .data (Ty.int .i64) i0)], []⟩ : St)) (0 : Int) (xs.length : Int) (F.Equal_TValue_l0 xs ys) (fun v0 : Unit => True) (outD (fun v0 : Unit => True → K (.exit 0) (⟨[], []⟩ : St)) (fun q0 : Unit => K .ret (⟨[(4, .data Ty.bool false)], []⟩ : St))) m st_
def L194 (xs : (List (TValue).D)) (ys : (List (TValue).D)) : Loops := fun id m st_ K => match id with
  | 0 => LP194_0 xs ys m st_ K
  | _ => False
theorem vc194 (xs : (List (TValue).D)) (ys : (List (TValue).D)) (K : AV → Hp → Prop) : awp C194 (L194 xs ys) ann194 (bodyOf Go.Proofs.Tryz.f194) ⟨argEnv 0 [.brw TValue xs, .brw TValue ys], []⟩ (outK tab Go.Proofs.Tryz.f194.results.toList (hasBox []) (resK (.dat Ty.bool) K)) =
  (cond (!decide ((xs.length : Int) = (ys.length : Int))) (K (.data Ty.bool false) []) ((∃ m_, (True) ∧ LoopI (fun (i0 : Int) (v0 : Unit) => (⟨[(0, .brw TValue xs), (1, .brw TValue ys), (12, .data (Ty.int .i64) (xs.length : Int)), (13, .data (Ty.int .i64) i0)], []⟩ : St)) (0 : Int) (xs.length : Int) (F.Equal_TValue_l0 xs ys) (fun v0 : Unit => True) (outD (fun v0 : Unit => True → K (.data Ty.bool true) []) (fun q0 : Unit => K (.data Ty.bool false) [])) m_ (⟨[(0, .brw TValue xs), (1, .brw TValue ys), (12, .data (Ty.int .i64) (xs.length : Int)), (13, .data (Ty.int .i64) (0 : Int))], []⟩ : St)))) := by kernel_rfl
theorem lvc194_0 (xs : (List (TValue).D)) (ys : (List (TValue).D))  (i0 : Int) (v0 : Unit) (m : Nat) (K : X → St → Prop) : awp C194 (L194 xs ys) ann194 (loopAt (bodyOf Go.Proofs.Tryz.f194) 0) (⟨[(0, .brw TValue xs), (1, .brw TValue ys), (12, .data (Ty.int .i64) (xs.length : Int)), (13, .data (Ty.int .i64) i0)], []⟩ : St) (thenW (fun s' => ∃ m', m' < m ∧ (L194 xs ys) 0 m' s' K) (exitN 0 (ann194 (behind 0)) K)) =
  (cond (decide (i0 < (xs.length : Int))) ((0 ≤ i0) ∧ (i0 < (xs.length : Int)) ∧ (0 ≤ i0) ∧ (i0 < (ys.length : Int)) ∧ cond (!(Ty.beq TValue (nth (t := TValue) xs i0) (nth (t := TValue) ys i0))) (K .ret (⟨[(4, .data Ty.bool false)], []⟩ : St)) ((∃ m_, m_ < m ∧ (L194 xs ys) 0 m_ (⟨[(0, .brw TValue xs), (1, .brw TValue ys), (12, .data (Ty.int .i64) (xs.length : Int)), (13, .data (Ty.int .i64) (wrap64 (i0 + (1 : Int))))], []⟩ : St) K))) (K (.exit 0) (⟨[], []⟩ : St))) := by kernel_rfl
theorem con194_ok : ConOk P 194 c194 := by
  refine con_okR (fn := Go.Proofs.Tryz.f194) (code := bodyOf Go.Proofs.Tryz.f194) (tab_ok tab_check cmp_check) consOk194 mixed Go.Proofs.Tryz.func194 rfl rfl fun args hp K h0 => ?_
  obtain ⟨a0, a1, rfl, rfl, h1⟩ := args2_elim h0
  obtain ⟨xs, rfl, h2⟩ := withB_elim h1
  obtain ⟨ys, rfl, h3⟩ := withB_elim h2
  obtain ⟨h_xs, h_ys, hK⟩ := h3
  have h : ok (F.Equal_TValue xs ys) (fun r => K (.data Ty.bool r) []) := ok_of_eq (F.Equal_TValue_eq xs ys h_xs h_ys) hK
  refine ⟨⟨show (2 : Nat) ≤ 26 by decide, show (2 : Nat) ≤ 1000000 by decide⟩, ann194, (L194 xs ys), (.dat Ty.bool), (loopsN1 (i0 := 0) (by kernel_rfl) ?_), ?_⟩
  · clear h
    intro m_ s_ K_ h
    obtain ⟨hc0, i0, v0, rfl, hl0, rfl, hv0, h⟩ := (show LP194_0 xs ys m_ s_ K_ from h)
    rw [lvc194_0 xs ys i0 v0 _ K_]
    exact (loopI_step h (fun ht0 h => ⟨hl0, ⟨ht0, ⟨hl0, ⟨(ok_guard h).1, have g_12 := (ok_guard h).1; have h := (ok_guard h).2; (ok_cond h (fun b_13 h => (have h := ok_ret h; h)) (fun b_13 h => (loopI_next (fun m hm => (show LP194_0 xs ys m _ _ from ⟨hc0, hm⟩)) () rfl hl0 low0 ht0 (sm_len h_xs) trivial (have h := ok_ret h; h))))⟩⟩⟩⟩) (fun h => (h trivial)))
  · rw [vc194 xs ys K]
    exact (ok_cond h (fun b_1 h => (have h := ok_ret h; h)) (fun b_1 h => (loopI_start (fun m hm => ⟨trivial, hm⟩) (0 : Int) () rfl (Int.natCast_nonneg 0) trivial (ok_then h (fun v0 h hv0 => (have h := ok_ret h; h)) (fun q0 h => (have h := ok_ret h; h))))))

/-! 193: (loop.example/tablehouse/impl.Bond).breaks$2$1 -/
def c193 : Con := ⟨[.dat (Ty.sl TValue), .any, .any], fun args hp K => args3 (fun a0 a1 a2 => withD (Ty.sl TValue) a0 fun r => withR (Ty.sl (Ty.int .i64)) a1 fun list => withR (Ty.sl TValue) a2 fun key => (Sm (Ty.sl TValue) r) ∧ (Sm (Ty.sl (Ty.int .i64)) list) ∧ (Sm (Ty.sl TValue) key) ∧ (M.inRow r list) ∧ K (.data Ty.bool (decide (M.taken r list = key))) []) args hp⟩
def cons193 : Cons := [(151, c151), (194, c194)]
def inl193 : List (Nat × Inl) := []
@[reducible] def C193 : Ctx := ⟨tab, fun t => memN t cmps, cons193, 10, inl193, 0⟩
theorem consOk193 : ConsOk P C193 := by
  refine consOk_cons (enter_ok (fn := Go.Proofs.Tryz.f151) Go.Proofs.Tryz.func151 (by kernel_rfl) rfl) con151_ok ?_
  refine consOk_cons (enter_ok (fn := Go.Proofs.Tryz.f194) Go.Proofs.Tryz.func194 (by kernel_rfl) rfl) con194_ok ?_
  exact consOk_nil
def ann193 : Nat → List Dir
  | 0 => [.keep [0, 1, 2]]
  | 1 => [.keep [4]]
  | _ => []
def L193 (r : (List (TValue).D)) (list : (List Int)) (key : (List (TValue).D)) : Loops := fun id m st_ K => match id with
  | _ => False
theorem vc193 (r : (List (TValue).D)) (list : (List Int)) (key : (List (TValue).D)) (K : AV → Hp → Prop) : awp C193 (L193 r list key) ann193 (bodyOf Go.Proofs.Tryz.f193) ⟨argEnv 0 [.data (Ty.sl TValue) r, .ref (.data (Ty.sl (Ty.int .i64)) list), .ref (.data (Ty.sl TValue) key)], []⟩ (outK tab Go.Proofs.Tryz.f193.results.toList (hasBox []) (resK (.dat Ty.bool) K)) =
  ((Sm (Ty.sl TValue) r) ∧ (Sm (Ty.sl (Ty.int .i64)) list) ∧ (M.inRow r list) ∧ (∀ r_1_2 : (List (TValue).D), r_1_2 = (M.taken r list) → (Sm (Ty.sl TValue) r_1_2) ∧ (Sm (Ty.sl TValue) key) ∧ K (.data Ty.bool (decide (r_1_2 = key))) [])) := by kernel_rfl
theorem con193_ok : ConOk P 193 c193 := by
  refine con_okR (fn := Go.Proofs.Tryz.f193) (code := bodyOf Go.Proofs.Tryz.f193) (tab_ok tab_check cmp_check) consOk193 mixed Go.Proofs.Tryz.func193 rfl rfl fun args hp K h0 => ?_
  obtain ⟨a0, a1, a2, rfl, rfl, h1⟩ := args3_elim h0
  obtain ⟨r, rfl, h2⟩ := withD_elim h1
  obtain ⟨list, rfl, h3⟩ := withR_elim h2
  obtain ⟨key, rfl, h4⟩ := withR_elim h3
  obtain ⟨h_r, h_list, h_key, p0, hK⟩ := h4
  have h : ok (F.impl_Bond_breaks_2_1 r list key) (fun r => K (.data Ty.bool r) []) := ok_of_eq (F.impl_Bond_breaks_2_1_eq r list key h_r h_list h_key p0) hK
  refine ⟨⟨show (3 : Nat) ≤ 10 by decide, show (3 : Nat) ≤ 1000000 by decide⟩, ann193, (L193 r list key), (.dat Ty.bool), (no_loops (by kernel_rfl)), ?_⟩
  · rw [vc193 r list key K]
    exact ⟨h_r, ⟨h_list, ⟨p0, (fun r_1_2 e_r_1_2 => have h := ok_let h r_1_2 e_r_1_2; ⟨(sm_of_eq e_r_1_2 (M.taken_sm h_r h_list)), ⟨h_key, (have h := ok_ret h; h)⟩⟩)⟩⟩⟩

/-! 208: slices.IndexFunc[[][]loop.example/tablehouse/impl.Value,[]loop.example/tablehouse/impl.Value] -/
def c208 : Con := ⟨[.lent (Ty.sl TValue), .any], fun args hp K => (args2 (fun a0 a1 => withB (Ty.sl TValue) a0 fun xs => withF 175 a1 (caps1 (fun b1_0 => withR (Ty.sl TColumn) b1_0 fun k0 => (Sm (Ty.sl (Ty.sl TValue)) xs) ∧ (Sm (Ty.sl TColumn) k0) ∧ K (.data (Ty.int .i64) (M.idx (t := (Ty.sl TValue)) (fun e => !M.rowFits k0 e) xs)) []))) args hp) ∨ (args2 (fun a0 a1 => withB (Ty.sl TValue) a0 fun xs => withF 193 a1 (caps2 (fun b1_0 b1_1 => withR (Ty.sl (Ty.int .i64)) b1_0 fun k0 => withR (Ty.sl TValue) b1_1 fun k1 => (Sm (Ty.sl (Ty.sl TValue)) xs) ∧ (Sm (Ty.sl (Ty.int .i64)) k0) ∧ (Sm (Ty.sl TValue) k1) ∧ (∀ e ∈ xs, M.inRow e k0) ∧ K (.data (Ty.int .i64) (M.idx (t := (Ty.sl TValue)) (fun e => decide (M.taken e k0 = k1)) xs)) []))) args hp)⟩
def cons208 : Cons := [(175, c175), (193, c193)]
def inl208 : List (Nat × Inl) := []
@[reducible] def C208 : Ctx := ⟨tab, fun t => memN t cmps, cons208, 19, inl208, 0⟩
theorem consOk208 : ConsOk P C208 := by
  refine consOk_cons (enter_ok (fn := Go.Proofs.Tryz.f175) Go.Proofs.Tryz.func175 (by kernel_rfl) rfl) con175_ok ?_
  refine consOk_cons (enter_ok (fn := Go.Proofs.Tryz.f193) Go.Proofs.Tryz.func193 (by kernel_rfl) rfl) con193_ok ?_
  exact consOk_nil
def ann208_v0 : Nat → List Dir
  | 0 => [.keep [0, 1]]
  | 1 => [.keep [0, 1, 7, 8]]
  | 2 => [.keep [0, 1, 7, 8, 9]]
  | 3 => [.keep [0, 1, 5, 7, 8]]
  | 4 => [.keep [0, 1, 5, 7, 8, 16]]
  | 5 => [.keep [4]]
  | 6 => [.keep [0, 1, 7, 8]]
  | 7 => [.keep [4]]
  | 100000 => [.keep []]
  | _ => []
@[reducible] def LP208_0_v0 (xs : (List (List (TValue).D))) (k0 : (List (TColumn).D)) (m : Nat) (st_ : St) (K : X → St → Prop) : Prop := (True) ∧ LoopI (fun (i0 : Int) (v0 : Unit) => (⟨[(0, .brw (Ty.sl TValue) xs), (1, .fn 175 [.ref (.data (Ty.sl TColumn) k0)]), (7, .data (Ty.int .i64) (xs.length : Int)), (8, .data (Ty.int .i64) i0)], []⟩ : St)) (0 : Int) (xs.length : Int) (F.IndexFunc_impl_RowsOk_1_l0 xs k0) (fun v0 : Unit => True) (outD (fun v0 : Unit => True → K (.exit 0) (⟨[], []⟩ : St)) (fun q0 : Int => K .ret (⟨[(4, .data (Ty.int .i64) q0)], []⟩ : St))) m st_
def L208_v0 (xs : (List (List (TValue).D))) (k0 : (List (TColumn).D)) : Loops := fun id m st_ K => match id with
  | 0 => LP208_0_v0 xs k0 m st_ K
  | _ => False
theorem vc208_v0 (xs : (List (List (TValue).D))) (k0 : (List (TColumn).D)) (K : AV → Hp → Prop) : awp C208 (L208_v0 xs k0) ann208_v0 (bodyOf Go.Proofs.Tryz.f208) ⟨argEnv 0 [.brw (Ty.sl TValue) xs, .fn 175 [.ref (.data (Ty.sl TColumn) k0)]], []⟩ (outK tab Go.Proofs.Tryz.f208.results.toList (hasBox []) (resK (.dat (Ty.int .i64)) K)) =
  ((∃ m_, (True) ∧ LoopI (fun (i0 : Int) (v0 : Unit) => (⟨[(0, .brw (Ty.sl TValue) xs), (1, .fn 175 [.ref (.data (Ty.sl TColumn) k0)]), (7, .data (Ty.int .i64) (xs.length : Int)), (8, .data (Ty.int .i64) i0)], []⟩ : St)) (0 : Int) (xs.length : Int) (F.IndexFunc_impl_RowsOk_1_l0 xs k0) (fun v0 : Unit => True) (outD (fun v0 : Unit => True → K (.data (Ty.int .i64) (-1 : Int)) []) (fun q0 : Int => K (.data (Ty.int .i64) q0) [])) m_ (⟨[(0, .brw (Ty.sl TValue) xs), (1, .fn 175 [.ref (.data (Ty.sl TColumn) k0)]), (7, .data (Ty.int .i64) (xs.length : Int)), (8, .data (Ty.int .i64) (0 : Int))], []⟩ : St))) := by kernel_rfl
theorem lvc208_0_v0 (xs : (List (List (TValue).D))) (k0 : (List (TColumn).D))  (i0 : Int) (v0 : Unit) (m : Nat) (K : X → St → Prop) : awp C208 (L208_v0 xs k0) ann208_v0 (loopAt (bodyOf Go.Proofs.Tryz.f208) 0) (⟨[(0, .brw (Ty.sl TValue) xs), (1, .fn 175 [.ref (.data (Ty.sl TColumn) k0)]), (7, .data (Ty.int .i64) (xs.length : Int)), (8, .data (Ty.int .i64) i0)], []⟩ : St) (thenW (fun s' => ∃ m', m' < m ∧ (L208_v0 xs k0) 0 m' s' K) (exitN 0 (ann208_v0 (behind 0)) K)) =
  (cond (decide (i0 < (xs.length : Int))) ((0 ≤ i0) ∧ (i0 < (xs.length : Int)) ∧ (Sm (Ty.sl TValue) (nth (t := (Ty.sl TValue)) xs i0)) ∧ (Sm (Ty.sl TColumn) k0) ∧ cond (!M.rowFits k0 (nth (t := (Ty.sl TValue)) xs i0)) (K .ret (⟨[(4, .data (Ty.int .i64) i0)], []⟩ : St)) ((∃ m_, m_ < m ∧ (L208_v0 xs k0) 0 m_ (⟨[(0, .brw (Ty.sl TValue) xs), (1, .fn 175 [.ref (.data (Ty.sl TColumn) k0)]), (7, .data (Ty.int .i64) (xs.length : Int)), (8, .data (Ty.int .i64) (wrap64 (i0 + (1 : Int))))], []⟩ : St) K))) (K (.exit 0) (⟨[], []⟩ : St))) := by kernel_rfl
def ann208_v1 : Nat → List Dir
  | 0 => [.keep [0, 1]]
  | 1 => [.keep [0, 1, 7, 8]]
  | 2 => [.keep [0, 1, 7, 8, 9]]
  | 3 => [.keep [0, 1, 5, 7, 8]]
  | 4 => [.keep [0, 1, 5, 7, 8, 16]]
  | 5 => [.keep [4]]
  | 6 => [.keep [0, 1, 7, 8]]
  | 7 => [.keep [4]]
  | 100000 => [.keep []]
  | _ => []
@[reducible] def LP208_0_v1 (xs : (List (List (TValue).D))) (k0 : (List Int)) (k1 : (List (TValue).D)) (m : Nat) (st_ : St) (K : X → St → Prop) : Prop := (True) ∧ LoopI (fun (i0 : Int) (v0 : Unit) => (⟨[(0, .brw (Ty.sl TValue) xs), (1, .fn 193 [.ref (.data (Ty.sl (Ty.int .i64)) k0), .ref (.data (Ty.sl TValue) k1)]), (7, .data (Ty.int .i64) (xs.length : Int)), (8, .data (Ty.int .i64) i0)], []⟩ : St)) (0 : Int) (xs.length : Int) (F.IndexFunc_impl_Bond_breaks_2_1_l0 xs k0 k1) (fun v0 : Unit => True) (outD (fun v0 : Unit => True → K (.exit 0) (⟨[], []⟩ : St)) (fun q0 : Int => K .ret (⟨[(4, .data (Ty.int .i64) q0)], []⟩ : St))) m st_
def L208_v1 (xs : (List (List (TValue).D))) (k0 : (List Int)) (k1 : (List (TValue).D)) : Loops := fun id m st_ K => match id with
  | 0 => LP208_0_v1 xs k0 k1 m st_ K
  | _ => False
theorem vc208_v1 (xs : (List (List (TValue).D))) (k0 : (List Int)) (k1 : (List (TValue).D)) (K : AV → Hp → Prop) : awp C208 (L208_v1 xs k0 k1) ann208_v1 (bodyOf Go.Proofs.Tryz.f208) ⟨argEnv 0 [.brw (Ty.sl TValue) xs, .fn 193 [.ref (.data (Ty.sl (Ty.int .i64)) k0), .ref (.data (Ty.sl TValue) k1)]], []⟩ (outK tab Go.Proofs.Tryz.f208.results.toList (hasBox []) (resK (.dat (Ty.int .i64)) K)) =
  ((∃ m_, (True) ∧ LoopI (fun (i0 : Int) (v0 : Unit) => (⟨[(0, .brw (Ty.sl TValue) xs), (1, .fn 193 [.ref (.data (Ty.sl (Ty.int .i64)) k0), .ref (.data (Ty.sl TValue) k1)]), (7, .data (Ty.int .i64) (xs.length : Int)), (8, .data (Ty.int .i64) i0)], []⟩ : St)) (0 : Int) (xs.length : Int) (F.IndexFunc_impl_Bond_breaks_2_1_l0 xs k0 k1) (fun v0 : Unit => True) (outD (fun v0 : Unit => True → K (.data (Ty.int .i64) (-1 : Int)) []) (fun q0 : Int => K (.data (Ty.int .i64) q0) [])) m_ (⟨[(0, .brw (Ty.sl TValue) xs), (1, .fn 193 [.ref (.data (Ty.sl (Ty.int .i64)) k0), .ref (.data (Ty.sl TValue) k1)]), (7, .data (Ty.int .i64) (xs.length : Int)), (8, .data (Ty.int .i64) (0 : Int))], []⟩ : St))) := by kernel_rfl
theorem lvc208_0_v1 (xs : (List (List (TValue).D))) (k0 : (List Int)) (k1 : (List (TValue).D))  (i0 : Int) (v0 : Unit) (m : Nat) (K : X → St → Prop) : awp C208 (L208_v1 xs k0 k1) ann208_v1 (loopAt (bodyOf Go.Proofs.Tryz.f208) 0) (⟨[(0, .brw (Ty.sl TValue) xs), (1, .fn 193 [.ref (.data (Ty.sl (Ty.int .i64)) k0), .ref (.data (Ty.sl TValue) k1)]), (7, .data (Ty.int .i64) (xs.length : Int)), (8, .data (Ty.int .i64) i0)], []⟩ : St) (thenW (fun s' => ∃ m', m' < m ∧ (L208_v1 xs k0 k1) 0 m' s' K) (exitN 0 (ann208_v1 (behind 0)) K)) =
  (cond (decide (i0 < (xs.length : Int))) ((0 ≤ i0) ∧ (i0 < (xs.length : Int)) ∧ (Sm (Ty.sl TValue) (nth (t := (Ty.sl TValue)) xs i0)) ∧ (Sm (Ty.sl (Ty.int .i64)) k0) ∧ (Sm (Ty.sl TValue) k1) ∧ (M.inRow (nth (t := (Ty.sl TValue)) xs i0) k0) ∧ cond (decide (M.taken (nth (t := (Ty.sl TValue)) xs i0) k0 = k1)) (K .ret (⟨[(4, .data (Ty.int .i64) i0)], []⟩ : St)) ((∃ m_, m_ < m ∧ (L208_v1 xs k0 k1) 0 m_ (⟨[(0, .brw (Ty.sl TValue) xs), (1, .fn 193 [.ref (.data (Ty.sl (Ty.int .i64)) k0), .ref (.data (Ty.sl TValue) k1)]), (7, .data (Ty.int .i64) (xs.length : Int)), (8, .data (Ty.int .i64) (wrap64 (i0 + (1 : Int))))], []⟩ : St) K))) (K (.exit 0) (⟨[], []⟩ : St))) := by kernel_rfl
theorem con208_ok : ConOk P 208 c208 := by
  refine con_okR (fn := Go.Proofs.Tryz.f208) (code := bodyOf Go.Proofs.Tryz.f208) (tab_ok tab_check cmp_check) consOk208 mixed Go.Proofs.Tryz.func208 rfl rfl fun args hp K h0 => ?_
  rcases h0 with h0 | h0
  · obtain ⟨a0, a1, rfl, rfl, h1⟩ := args2_elim h0
    obtain ⟨xs, rfl, h2⟩ := withB_elim h1
    obtain ⟨cs1, rfl, h3⟩ := withF_elim h2
    obtain ⟨b1_0, rfl, h4⟩ := caps1_elim h3
    obtain ⟨k0, rfl, h5⟩ := withR_elim h4
    obtain ⟨h_xs, h_k0, hK⟩ := h5
    have h : ok (F.IndexFunc_impl_RowsOk_1 xs k0) (fun r => K (.data (Ty.int .i64) r) []) := ok_of_eq (F.IndexFunc_impl_RowsOk_1_eq xs k0 h_xs h_k0) hK
    refine ⟨⟨show (2 : Nat) ≤ 19 by decide, show (2 : Nat) ≤ 1000000 by decide⟩, ann208_v0, (L208_v0 xs k0), (.dat (Ty.int .i64)), (loopsN1 (i0 := 0) (by kernel_rfl) ?_), ?_⟩
    · clear h
      intro m_ s_ K_ h
      obtain ⟨hc0, i0, v0, rfl, hl0, rfl, hv0, h⟩ := (show LP208_0_v0 xs k0 m_ s_ K_ from h)
      rw [lvc208_0_v0 xs k0 i0 v0 _ K_]
      exact (loopI_step h (fun ht0 h => ⟨hl0, ⟨ht0, ⟨(sm_nth h_xs i0), ⟨h_k0, (ok_cond h (fun b_9 h => (have h := ok_ret h; h)) (fun b_9 h => (loopI_next (fun m hm => (show LP208_0_v0 xs k0 m _ _ from ⟨hc0, hm⟩)) () rfl hl0 low0 ht0 (sm_len h_xs) trivial (have h := ok_ret h; h))))⟩⟩⟩⟩) (fun h => (h trivial)))
    · rw [vc208_v0 xs k0 K]
      exact (loopI_start (fun m hm => ⟨trivial, hm⟩) (0 : Int) () rfl (Int.natCast_nonneg 0) trivial (ok_then h (fun v0 h hv0 => (have h := ok_ret h; h)) (fun q0 h => (have h := ok_ret h; h))))
  · obtain ⟨a0, a1, rfl, rfl, h1⟩ := args2_elim h0
    obtain ⟨xs, rfl, h2⟩ := withB_elim h1
    obtain ⟨cs1, rfl, h3⟩ := withF_elim h2
    obtain ⟨b1_0, b1_1, rfl, h4⟩ := caps2_elim h3
    obtain ⟨k0, rfl, h5⟩ := withR_elim h4
    obtain ⟨k1, rfl, h6⟩ := withR_elim h5
    obtain ⟨h_xs, h_k0, h_k1, p0, hK⟩ := h6
    have h : ok (F.IndexFunc_impl_Bond_breaks_2_1 xs k0 k1) (fun r => K (.data (Ty.int .i64) r) []) := ok_of_eq (F.IndexFunc_impl_Bond_breaks_2_1_eq xs k0 k1 h_xs h_k0 h_k1 p0) hK
    refine ⟨⟨show (2 : Nat) ≤ 19 by decide, show (2 : Nat) ≤ 1000000 by decide⟩, ann208_v1, (L208_v1 xs k0 k1), (.dat (Ty.int .i64)), (loopsN1 (i0 := 0) (by kernel_rfl) ?_), ?_⟩
    · clear h
      intro m_ s_ K_ h
      obtain ⟨hc0, i0, v0, rfl, hl0, rfl, hv0, h⟩ := (show LP208_0_v1 xs k0 k1 m_ s_ K_ from h)
      rw [lvc208_0_v1 xs k0 k1 i0 v0 _ K_]
      exact (loopI_step h (fun ht0 h => ⟨hl0, ⟨ht0, ⟨(sm_nth h_xs i0), ⟨h_k0, ⟨h_k1, ⟨(ok_guard h).1, have g_11 := (ok_guard h).1; have h := (ok_guard h).2; (ok_cond h (fun b_12 h => (have h := ok_ret h; h)) (fun b_12 h => (loopI_next (fun m hm => (show LP208_0_v1 xs k0 k1 m _ _ from ⟨hc0, hm⟩)) () rfl hl0 low0 ht0 (sm_len h_xs) trivial (have h := ok_ret h; h))))⟩⟩⟩⟩⟩⟩) (fun h => (h trivial)))
    · rw [vc208_v1 xs k0 k1 K]
      exact (loopI_start (fun m hm => ⟨trivial, hm⟩) (0 : Int) () rfl (Int.natCast_nonneg 0) trivial (ok_then h (fun v0 h hv0 => (have h := ok_ret h; h)) (fun q0 h => (have h := ok_ret h; h))))

/-! 174: slices.ContainsFunc[[][]loop.example/tablehouse/impl.Value,[]loop.example/tablehouse/impl.Value] -/
def c174 : Con := ⟨[.lent (Ty.sl TValue), .any], fun args hp K => (args2 (fun a0 a1 => withB (Ty.sl TValue) a0 fun xs => withF 175 a1 (caps1 (fun b1_0 => withR (Ty.sl TColumn) b1_0 fun k0 => (Sm (Ty.sl (Ty.sl TValue)) xs) ∧ (Sm (Ty.sl TColumn) k0) ∧ K (.data Ty.bool (List.any xs (fun e => !M.rowFits k0 e))) []))) args hp) ∨ (args2 (fun a0 a1 => withB (Ty.sl TValue) a0 fun xs => withF 193 a1 (caps2 (fun b1_0 b1_1 => withR (Ty.sl (Ty.int .i64)) b1_0 fun k0 => withR (Ty.sl TValue) b1_1 fun k1 => (Sm (Ty.sl (Ty.sl TValue)) xs) ∧ (Sm (Ty.sl (Ty.int .i64)) k0) ∧ (Sm (Ty.sl TValue) k1) ∧ (∀ e ∈ xs, M.inRow e k0) ∧ K (.data Ty.bool (List.any xs (fun e => decide (M.taken e k0 = k1)))) []))) args hp)⟩
def cons174 : Cons := [(175, c175), (193, c193), (208, c208)]
def inl174 : List (Nat × Inl) := []
@[reducible] def C174 : Ctx := ⟨tab, fun t => memN t cmps, cons174, 9, inl174, 0⟩
theorem consOk174 : ConsOk P C174 := by
  refine consOk_cons (enter_ok (fn := Go.Proofs.Tryz.f175) Go.Proofs.Tryz.func175 (by kernel_rfl) rfl) con175_ok ?_
  refine consOk_cons (enter_ok (fn := Go.Proofs.Tryz.f193) Go.Proofs.Tryz.func193 (by kernel_rfl) rfl) con193_ok ?_
  refine consOk_cons (enter_ok (fn := Go.Proofs.Tryz.f208) Go.Proofs.Tryz.func208 (by kernel_rfl) rfl) con208_ok ?_
  exact consOk_nil
def ann174_v0 : Nat → List Dir
  | 0 => [.keep [0, 1]]
  | 1 => [.keep [4]]
  | _ => []
def L174_v0 (xs : (List (List (TValue).D))) (k0 : (List (TColumn).D)) : Loops := fun id m st_ K => match id with
  | _ => False
theorem vc174_v0 (xs : (List (List (TValue).D))) (k0 : (List (TColumn).D)) (K : AV → Hp → Prop) : awp C174 (L174_v0 xs k0) ann174_v0 (bodyOf Go.Proofs.Tryz.f174) ⟨argEnv 0 [.brw (Ty.sl TValue) xs, .fn 175 [.ref (.data (Ty.sl TColumn) k0)]], []⟩ (outK tab Go.Proofs.Tryz.f174.results.toList (hasBox []) (resK (.dat Ty.bool) K)) =
  ((((Sm (Ty.sl (Ty.sl TValue)) xs) ∧ (Sm (Ty.sl TColumn) k0) ∧ K (.data Ty.bool (decide ((0 : Int) ≤ (M.idx (t := (Ty.sl TValue)) (fun e => !M.rowFits k0 e) xs)))) []) ∨ False)) := by kernel_rfl
def ann174_v1 : Nat → List Dir
  | 0 => [.keep [0, 1]]
  | 1 => [.keep [4]]
  | _ => []
def L174_v1 (xs : (List (List (TValue).D))) (k0 : (List Int)) (k1 : (List (TValue).D)) : Loops := fun id m st_ K => match id with
  | _ => False
theorem vc174_v1 (xs : (List (List (TValue).D))) (k0 : (List Int)) (k1 : (List (TValue).D)) (K : AV → Hp → Prop) : awp C174 (L174_v1 xs k0 k1) ann174_v1 (bodyOf Go.Proofs.Tryz.f174) ⟨argEnv 0 [.brw (Ty.sl TValue) xs, .fn 193 [.ref (.data (Ty.sl (Ty.int .i64)) k0), .ref (.data (Ty.sl TValue) k1)]], []⟩ (outK tab Go.Proofs.Tryz.f174.results.toList (hasBox []) (resK (.dat Ty.bool) K)) =
  ((False ∨ ((Sm (Ty.sl (Ty.sl TValue)) xs) ∧ (Sm (Ty.sl (Ty.int .i64)) k0) ∧ (Sm (Ty.sl TValue) k1) ∧ (∀ e ∈ xs, M.inRow e k0) ∧ K (.data Ty.bool (decide ((0 : Int) ≤ (M.idx (t := (Ty.sl TValue)) (fun e => decide (M.taken e k0 = k1)) xs)))) []))) := by kernel_rfl
theorem con174_ok : ConOk P 174 c174 := by
  refine con_okR (fn := Go.Proofs.Tryz.f174) (code := bodyOf Go.Proofs.Tryz.f174) (tab_ok tab_check cmp_check) consOk174 mixed Go.Proofs.Tryz.func174 rfl rfl fun args hp K h0 => ?_
  rcases h0 with h0 | h0
  · obtain ⟨a0, a1, rfl, rfl, h1⟩ := args2_elim h0
    obtain ⟨xs, rfl, h2⟩ := withB_elim h1
    obtain ⟨cs1, rfl, h3⟩ := withF_elim h2
    obtain ⟨b1_0, rfl, h4⟩ := caps1_elim h3
    obtain ⟨k0, rfl, h5⟩ := withR_elim h4
    obtain ⟨h_xs, h_k0, hK⟩ := h5
    have h : ok (F.ContainsFunc_impl_RowsOk_1 xs k0) (fun r => K (.data Ty.bool r) []) := ok_of_eq (F.ContainsFunc_impl_RowsOk_1_eq xs k0 h_xs h_k0) hK
    refine ⟨⟨show (2 : Nat) ≤ 9 by decide, show (2 : Nat) ≤ 1000000 by decide⟩, ann174_v0, (L174_v0 xs k0), (.dat Ty.bool), (no_loops (by kernel_rfl)), ?_⟩
    · rw [vc174_v0 xs k0 K]
      exact (Or.inl (⟨h_xs, ⟨h_k0, (have h := ok_ret h; h)⟩⟩))
  · obtain ⟨a0, a1, rfl, rfl, h1⟩ := args2_elim h0
    obtain ⟨xs, rfl, h2⟩ := withB_elim h1
    obtain ⟨cs1, rfl, h3⟩ := withF_elim h2
    obtain ⟨b1_0, b1_1, rfl, h4⟩ := caps2_elim h3
    obtain ⟨k0, rfl, h5⟩ := withR_elim h4
    obtain ⟨k1, rfl, h6⟩ := withR_elim h5
    obtain ⟨h_xs, h_k0, h_k1, p0, hK⟩ := h6
    have h : ok (F.ContainsFunc_impl_Bond_breaks_2_1 xs k0 k1) (fun r => K (.data Ty.bool r) []) := ok_of_eq (F.ContainsFunc_impl_Bond_breaks_2_1_eq xs k0 k1 h_xs h_k0 h_k1 p0) hK
    refine ⟨⟨show (2 : Nat) ≤ 9 by decide, show (2 : Nat) ≤ 1000000 by decide⟩, ann174_v1, (L174_v1 xs k0 k1), (.dat Ty.bool), (no_loops (by kernel_rfl)), ?_⟩
    · rw [vc174_v1 xs k0 k1 K]
      exact (Or.inr (⟨h_xs, ⟨h_k0, ⟨h_k1, ⟨p0, (have h := ok_ret h; h)⟩⟩⟩⟩))

/-! 134: loop.example/tablehouse/impl.RowsOk -/
def c134 : Con := ⟨[.dat (Ty.sl TColumn), .dat (Ty.sl (Ty.sl TValue))], fun args hp K => args2 (fun a0 a1 => withD (Ty.sl TColumn) a0 fun columns => withD (Ty.sl (Ty.sl TValue)) a1 fun rows => (Sm (Ty.sl TColumn) columns) ∧ (Sm (Ty.sl (Ty.sl TValue)) rows) ∧ K (.data Ty.bool (M.rowsOk columns rows)) []) args hp⟩
def cons134 : Cons := [(133, c133), (174, c174), (175, c175)]
def inl134 : List (Nat × Inl) := []
@[reducible] def C134 : Ctx := ⟨tab, fun t => memN t cmps, cons134, 13, inl134, 0⟩
theorem consOk134 : ConsOk P C134 := by
  refine consOk_cons (enter_ok (fn := Go.Proofs.Tryz.f133) Go.Proofs.Tryz.func133 (by kernel_rfl) rfl) con133_ok ?_
  refine consOk_cons (enter_ok (fn := Go.Proofs.Tryz.f174) Go.Proofs.Tryz.func174 (by kernel_rfl) rfl) con174_ok ?_
  refine consOk_cons (enter_ok (fn := Go.Proofs.Tryz.f175) Go.Proofs.Tryz.func175 (by kernel_rfl) rfl) con175_ok ?_
  exact consOk_nil
def ann134 : Nat → List Dir
  | 0 => [.fixBox 2, .keep [1, 2]]
  | 1 => [.keep [4]]
  | _ => []
def L134 (columns : (List (TColumn).D)) (rows : (List (List (TValue).D))) : Loops := fun id m st_ K => match id with
  | _ => False
theorem vc134 (columns : (List (TColumn).D)) (rows : (List (List (TValue).D))) (K : AV → Hp → Prop) : awp C134 (L134 columns rows) ann134 (bodyOf Go.Proofs.Tryz.f134) ⟨argEnv 0 [.data (Ty.sl TColumn) columns, .data (Ty.sl (Ty.sl TValue)) rows], []⟩ (outK tab Go.Proofs.Tryz.f134.results.toList (hasBox []) (resK (.dat Ty.bool) K)) =
  ((Sm (Ty.sl TColumn) columns) ∧ cond ((M.columnsOk columns) == true) ((((Sm (Ty.sl (Ty.sl TValue)) rows) ∧ (Sm (Ty.sl TColumn) columns) ∧ K (.data Ty.bool (!(List.any rows (fun e => !M.rowFits columns e)))) []) ∨ False)) (K (.data Ty.bool false) [])) := by kernel_rfl
theorem con134_ok : ConOk P 134 c134 := by
  refine con_okR (fn := Go.Proofs.Tryz.f134) (code := bodyOf Go.Proofs.Tryz.f134) (tab_ok tab_check cmp_check) consOk134 mixed Go.Proofs.Tryz.func134 rfl rfl fun args hp K h0 => ?_
  obtain ⟨a0, a1, rfl, rfl, h1⟩ := args2_elim h0
  obtain ⟨columns, rfl, h2⟩ := withD_elim h1
  obtain ⟨rows, rfl, h3⟩ := withD_elim h2
  obtain ⟨h_columns, h_rows, hK⟩ := h3
  have h : ok (F.impl_RowsOk columns rows) (fun r => K (.data Ty.bool r) []) := ok_of_eq (F.impl_RowsOk_eq columns rows h_columns h_rows) hK
  refine ⟨⟨show (2 : Nat) ≤ 13 by decide, show (2 : Nat) ≤ 1000000 by decide⟩, ann134, (L134 columns rows), (.dat Ty.bool), (no_loops (by kernel_rfl)), ?_⟩
  · rw [vc134 columns rows K]
    exact ⟨h_columns, (ok_cond h (fun b_1 h => (Or.inl (⟨h_rows, ⟨h_columns, (have h := ok_ret h; h)⟩⟩))) (fun b_1 h => (have h := ok_ret h; h)))⟩

/-! 132: loop.example/tablehouse/impl.TablesOk$1 -/
def c132 : Con := ⟨[.dat TTable], fun args hp K => args1 (fun a0 => withD TTable a0 fun t => (Sm TTable t) ∧ K (.data Ty.bool (!M.tableOk t)) []) args hp⟩
def cons132 : Cons := [(133, c133), (134, c134)]
def inl132 : List (Nat × Inl) := []
@[reducible] def C132 : Ctx := ⟨tab, fun t => memN t cmps, cons132, 21, inl132, 0⟩
theorem consOk132 : ConsOk P C132 := by
  refine consOk_cons (enter_ok (fn := Go.Proofs.Tryz.f133) Go.Proofs.Tryz.func133 (by kernel_rfl) rfl) con133_ok ?_
  refine consOk_cons (enter_ok (fn := Go.Proofs.Tryz.f134) Go.Proofs.Tryz.func134 (by kernel_rfl) rfl) con134_ok ?_
  exact consOk_nil
def ann132 : Nat → List Dir
  | 0 => [.fixRow 1 TTable, .keep [1]]
  | 1 => [.keep [2]]
  | _ => []
def L132 (t : (TTable).D) : Loops := fun id m st_ K => match id with
  | _ => False
theorem vc132 (t : (TTable).D) (K : AV → Hp → Prop) : awp C132 (L132 t) ann132 (bodyOf Go.Proofs.Tryz.f132) ⟨argEnv 0 [.data TTable t], []⟩ (outK tab Go.Proofs.Tryz.f132.results.toList (hasBox []) (resK (.dat Ty.bool) K)) =
  ((Sm (Ty.sl TColumn) t.1) ∧ cond ((!(M.columnsOk t.1)) == false) (cond ((decide ((6 : Int) < (t.2.1.length : Int))) == false) ((Sm (Ty.sl TColumn) t.1) ∧ (Sm (Ty.sl (Ty.sl TValue)) t.2.1) ∧ K (.data Ty.bool (!(M.rowsOk t.1 t.2.1))) []) (K (.data Ty.bool true) [])) (K (.data Ty.bool true) [])) := by kernel_rfl
theorem con132_ok : ConOk P 132 c132 := by
  refine con_okR (fn := Go.Proofs.Tryz.f132) (code := bodyOf Go.Proofs.Tryz.f132) (tab_ok tab_check cmp_check) consOk132 mixed Go.Proofs.Tryz.func132 rfl rfl fun args hp K h0 => ?_
  obtain ⟨a0, rfl, rfl, h1⟩ := args1_elim h0
  obtain ⟨t, rfl, h2⟩ := withD_elim h1
  obtain ⟨h_t, hK⟩ := h2
  have h : ok (F.impl_TablesOk_1 t) (fun r => K (.data Ty.bool r) []) := ok_of_eq (F.impl_TablesOk_1_eq t h_t) hK
  refine ⟨⟨show (1 : Nat) ≤ 21 by decide, show (1 : Nat) ≤ 1000000 by decide⟩, ann132, (L132 t), (.dat Ty.bool), (no_loops (by kernel_rfl)), ?_⟩
  · rw [vc132 t K]
    exact ⟨h_t.1, (ok_cond h (fun b_1 h => (ok_cond h (fun b_2 h => ⟨h_t.1, ⟨h_t.2.1, (have h := ok_ret h; h)⟩⟩) (fun b_2 h => (have h := ok_ret h; h)))) (fun b_1 h => (have h := ok_ret h; h)))⟩

/-! 171: slices.IndexFunc[[]loop.example/tablehouse/impl.Table,loop.example/tablehouse/impl.Table] -/
def c171 : Con := ⟨[.lent TTable, .any], fun args hp K => args2 (fun a0 a1 => withB TTable a0 fun xs => withF 132 a1 (caps0 ((Sm (Ty.sl TTable) xs) ∧ K (.data (Ty.int .i64) (M.idx (t := TTable) (fun e => !M.tableOk e) xs)) []))) args hp⟩
def cons171 : Cons := [(132, c132)]
def inl171 : List (Nat × Inl) := []
@[reducible] def C171 : Ctx := ⟨tab, fun t => memN t cmps, cons171, 19, inl171, 0⟩
theorem consOk171 : ConsOk P C171 := by
  refine consOk_cons (enter_ok (fn := Go.Proofs.Tryz.f132) Go.Proofs.Tryz.func132 (by kernel_rfl) rfl) con132_ok ?_
  exact consOk_nil
def ann171 : Nat → List Dir
  | 0 => [.keep [0, 1]]
  | 1 => [.keep [0, 1, 7, 8]]
  | 2 => [.keep [0, 1, 7, 8, 9]]
  | 3 => [.keep [0, 1, 5, 7, 8]]
  | 4 => [.keep [0, 1, 5, 7, 8, 16]]
  | 5 => [.keep [4]]
  | 6 => [.keep [0, 1, 7, 8]]
  | 7 => [.keep [4]]
  | 100000 => [.keep []]
  | _ => []
@[reducible] def LP171_0 (xs : (List (TTable).D)) (m : Nat) (st_ : St) (K : X → St → Prop) : Prop := (True) ∧ LoopI (fun (i0 : Int) (v0 : Unit) => (⟨[(0, .brw TTable xs), (1, .fn 132 []), (7, .data (Ty.int .i64) (xs.length : Int)), (8, .data (Ty.int .i64) i0)], []⟩ : St)) (0 : Int) (xs.length : Int) (F.IndexFunc_impl_TablesOk_1_l0 xs) (fun v0 : Unit => True) (outD (fun v0 : Unit => True → K (.exit 0) (⟨[], []⟩ : St)) (fun q0 : Int => K .ret (⟨[(4, .data (Ty.int .i64) q0)], []⟩ : St))) m st_
def L171 (xs : (List (TTable).D)) : Loops := fun id m st_ K => match id with
  | 0 => LP171_0 xs m st_ K
  | _ => False
theorem vc171 (xs : (List (TTable).D)) (K : AV → Hp → Prop) : awp C171 (L171 xs) ann171 (bodyOf Go.Proofs.Tryz.f171) ⟨argEnv 0 [.brw TTable xs, .fn 132 []], []⟩ (outK tab Go.Proofs.Tryz.f171.results.toList (hasBox []) (resK (.dat (Ty.int .i64)) K)) =
  ((∃ m_, (True) ∧ LoopI (fun (i0 : Int) (v0 : Unit) => (⟨[(0, .brw TTable xs), (1, .fn 132 []), (7, .data (Ty.int .i64) (xs.length : Int)), (8, .data (Ty.int .i64) i0)], []⟩ : St)) (0 : Int) (xs.length : Int) (F.IndexFunc_impl_TablesOk_1_l0 xs) (fun v0 : Unit => True) (outD (fun v0 : Unit => True → K (.data (Ty.int .i64) (-1 : Int)) []) (fun q0 : Int => K (.data (Ty.int .i64) q0) [])) m_ (⟨[(0, .brw TTable xs), (1, .fn 132 []), (7, .data (Ty.int .i64) (xs.length : Int)), (8, .data (Ty.int .i64) (0 : Int))], []⟩ : St))) := by kernel_rfl
theorem lvc171_0 (xs : (List (TTable).D))  (i0 : Int) (v0 : Unit) (m : Nat) (K : X → St → Prop) : awp C171 (L171 xs) ann171 (loopAt (bodyOf Go.Proofs.Tryz.f171) 0) (⟨[(0, .brw TTable xs), (1, .fn 132 []), (7, .data (Ty.int .i64) (xs.length : Int)), (8, .data (Ty.int .i64) i0)], []⟩ : St) (thenW (fun s' => ∃ m', m' < m ∧ (L171 xs) 0 m' s' K) (exitN 0 (ann171 (behind 0)) K)) =
  (cond (decide (i0 < (xs.length : Int))) ((0 ≤ i0) ∧ (i0 < (xs.length : Int)) ∧ (Sm TTable (nth (t := TTable) xs i0)) ∧ cond (!M.tableOk (nth (t := TTable) xs i0)) (K .ret (⟨[(4, .data (Ty.int .i64) i0)], []⟩ : St)) ((∃ m_, m_ < m ∧ (L171 xs) 0 m_ (⟨[(0, .brw TTable xs), (1, .fn 132 []), (7, .data (Ty.int .i64) (xs.length : Int)), (8, .data (Ty.int .i64) (wrap64 (i0 + (1 : Int))))], []⟩ : St) K))) (K (.exit 0) (⟨[], []⟩ : St))) := by kernel_rfl
theorem con171_ok : ConOk P 171 c171 := by
  refine con_okR (fn := Go.Proofs.Tryz.f171) (code := bodyOf Go.Proofs.Tryz.f171) (tab_ok tab_check cmp_check) consOk171 mixed Go.Proofs.Tryz.func171 rfl rfl fun args hp K h0 => ?_
  obtain ⟨a0, a1, rfl, rfl, h1⟩ := args2_elim h0
  obtain ⟨xs, rfl, h2⟩ := withB_elim h1
  obtain ⟨cs1, rfl, h3⟩ := withF_elim h2
  obtain ⟨rfl, h4⟩ := caps0_elim h3
  obtain ⟨h_xs, hK⟩ := h4
  have h : ok (F.IndexFunc_impl_TablesOk_1 xs) (fun r => K (.data (Ty.int .i64) r) []) := ok_of_eq (F.IndexFunc_impl_TablesOk_1_eq xs h_xs) hK
  refine ⟨⟨show (2 : Nat) ≤ 19 by decide, show (2 : Nat) ≤ 1000000 by decide⟩, ann171, (L171 xs), (.dat (Ty.int .i64)), (loopsN1 (i0 := 0) (by kernel_rfl) ?_), ?_⟩
  · clear h
    intro m_ s_ K_ h
    obtain ⟨hc0, i0, v0, rfl, hl0, rfl, hv0, h⟩ := (show LP171_0 xs m_ s_ K_ from h)
    rw [lvc171_0 xs i0 v0 _ K_]
    exact (loopI_step h (fun ht0 h => ⟨hl0, ⟨ht0, ⟨(sm_nth h_xs i0), (ok_cond h (fun b_9 h => (have h := ok_ret h; h)) (fun b_9 h => (loopI_next (fun m hm => (show LP171_0 xs m _ _ from ⟨hc0, hm⟩)) () rfl hl0 low0 ht0 (sm_len h_xs) trivial (have h := ok_ret h; h))))⟩⟩⟩) (fun h => (h trivial)))
  · rw [vc171 xs K]
    exact (loopI_start (fun m hm => ⟨trivial, hm⟩) (0 : Int) () rfl (Int.natCast_nonneg 0) trivial (ok_then h (fun v0 h hv0 => (have h := ok_ret h; h)) (fun q0 h => (have h := ok_ret h; h))))

/-! 131: slices.ContainsFunc[[]loop.example/tablehouse/impl.Table,loop.example/tablehouse/impl.Table] -/
def c131 : Con := ⟨[.lent TTable, .any], fun args hp K => args2 (fun a0 a1 => withB TTable a0 fun xs => withF 132 a1 (caps0 ((Sm (Ty.sl TTable) xs) ∧ K (.data Ty.bool (List.any xs (fun e => !M.tableOk e))) []))) args hp⟩
def cons131 : Cons := [(132, c132), (171, c171)]
def inl131 : List (Nat × Inl) := []
@[reducible] def C131 : Ctx := ⟨tab, fun t => memN t cmps, cons131, 9, inl131, 0⟩
theorem consOk131 : ConsOk P C131 := by
  refine consOk_cons (enter_ok (fn := Go.Proofs.Tryz.f132) Go.Proofs.Tryz.func132 (by kernel_rfl) rfl) con132_ok ?_
  refine consOk_cons (enter_ok (fn := Go.Proofs.Tryz.f171) Go.Proofs.Tryz.func171 (by kernel_rfl) rfl) con171_ok ?_
  exact consOk_nil
def ann131 : Nat → List Dir
  | 0 => [.keep [0, 1]]
  | 1 => [.keep [4]]
  | _ => []
def L131 (xs : (List (TTable).D)) : Loops := fun id m st_ K => match id with
  | _ => False
theorem vc131 (xs : (List (TTable).D)) (K : AV → Hp → Prop) : awp C131 (L131 xs) ann131 (bodyOf Go.Proofs.Tryz.f131) ⟨argEnv 0 [.brw TTable xs, .fn 132 []], []⟩ (outK tab Go.Proofs.Tryz.f131.results.toList (hasBox []) (resK (.dat Ty.bool) K)) =
  ((Sm (Ty.sl TTable) xs) ∧ K (.data Ty.bool (decide ((0 : Int) ≤ (M.idx (t := TTable) (fun e => !M.tableOk e) xs)))) []) := by kernel_rfl
theorem con131_ok : ConOk P 131 c131 := by
  refine con_okR (fn := Go.Proofs.Tryz.f131) (code := bodyOf Go.Proofs.Tryz.f131) (tab_ok tab_check cmp_check) consOk131 mixed Go.Proofs.Tryz.func131 rfl rfl fun args hp K h0 => ?_
  obtain ⟨a0, a1, rfl, rfl, h1⟩ := args2_elim h0
  obtain ⟨xs, rfl, h2⟩ := withB_elim h1
  obtain ⟨cs1, rfl, h3⟩ := withF_elim h2
  obtain ⟨rfl, h4⟩ := caps0_elim h3
  obtain ⟨h_xs, hK⟩ := h4
  have h : ok (F.ContainsFunc_impl_TablesOk_1 xs) (fun r => K (.data Ty.bool r) []) := ok_of_eq (F.ContainsFunc_impl_TablesOk_1_eq xs h_xs) hK
  refine ⟨⟨show (2 : Nat) ≤ 9 by decide, show (2 : Nat) ≤ 1000000 by decide⟩, ann131, (L131 xs), (.dat Ty.bool), (no_loops (by kernel_rfl)), ?_⟩
  · rw [vc131 xs K]
    exact ⟨h_xs, (have h := ok_ret h; h)⟩

/-! 97: loop.example/tablehouse/impl.TablesOk -/
def c97 : Con := ⟨[.dat (Ty.sl TTable)], fun args hp K => args1 (fun a0 => withD (Ty.sl TTable) a0 fun tables => (Sm (Ty.sl TTable) tables) ∧ K (.data Ty.bool (M.tablesOk tables)) []) args hp⟩
def cons97 : Cons := [(131, c131)]
def inl97 : List (Nat × Inl) := []
@[reducible] def C97 : Ctx := ⟨tab, fun t => memN t cmps, cons97, 11, inl97, 0⟩
theorem consOk97 : ConsOk P C97 := by
  refine consOk_cons (enter_ok (fn := Go.Proofs.Tryz.f131) Go.Proofs.Tryz.func131 (by kernel_rfl) rfl) con131_ok ?_
  exact consOk_nil
def ann97 : Nat → List Dir
  | 0 => [.keep [0]]
  | 1 => [.keep [2]]
  | _ => []
def L97 (tables : (List (TTable).D)) : Loops := fun id m st_ K => match id with
  | _ => False
theorem vc97 (tables : (List (TTable).D)) (K : AV → Hp → Prop) : awp C97 (L97 tables) ann97 (bodyOf Go.Proofs.Tryz.f97) ⟨argEnv 0 [.data (Ty.sl TTable) tables], []⟩ (outK tab Go.Proofs.Tryz.f97.results.toList (hasBox []) (resK (.dat Ty.bool) K)) =
  (cond ((decide ((tables.length : Int) ≤ (3 : Int))) == true) ((Sm (Ty.sl TTable) tables) ∧ K (.data Ty.bool (!(List.any tables (fun e => !M.tableOk e)))) []) (K (.data Ty.bool false) [])) := by kernel_rfl
theorem con97_ok : ConOk P 97 c97 := by
  refine con_okR (fn := Go.Proofs.Tryz.f97) (code := bodyOf Go.Proofs.Tryz.f97) (tab_ok tab_check cmp_check) consOk97 mixed Go.Proofs.Tryz.func97 rfl rfl fun args hp K h0 => ?_
  obtain ⟨a0, rfl, rfl, h1⟩ := args1_elim h0
  obtain ⟨tables, rfl, h2⟩ := withD_elim h1
  obtain ⟨h_tables, hK⟩ := h2
  have h : ok (F.impl_TablesOk tables) (fun r => K (.data Ty.bool r) []) := ok_of_eq (F.impl_TablesOk_eq tables h_tables) hK
  refine ⟨⟨show (1 : Nat) ≤ 11 by decide, show (1 : Nat) ≤ 1000000 by decide⟩, ann97, (L97 tables), (.dat Ty.bool), (no_loops (by kernel_rfl)), ?_⟩
  · rw [vc97 tables K]
    exact (ok_cond h (fun b_1 h => ⟨h_tables, (have h := ok_ret h; h)⟩) (fun b_1 h => (have h := ok_ret h; h)))

/-! 135: (loop.example/tablehouse/impl.Part).takes -/
def c135 : Con := ⟨[.dat TPart], fun args hp K => args1 (fun a0 => withD TPart a0 fun p => (Sm TPart p) ∧ K (.data (Ty.int .i64) (M.takes p)) []) args hp⟩
def cons135 : Cons := []
def inl135 : List (Nat × Inl) := []
@[reducible] def C135 : Ctx := ⟨tab, fun t => memN t cmps, cons135, 13, inl135, 0⟩
theorem consOk135 : ConsOk P C135 := by
  exact consOk_nil
def ann135 : Nat → List Dir
  | 0 => [.fixRow 1 TPart, .keep [1]]
  | 1 => [.keep [4]]
  | 2 => [.keep [4, 5]]
  | 3 => [.keep [4, 5]]
  | 4 => [.keep [4, 5]]
  | 5 => [.keep [4, 5]]
  | 6 => [.keep [2]]
  | 7 => [.keep [4, 10]]
  | 8 => [.keep [10]]
  | 9 => [.keep [2]]
  | 10 => [.keep [2]]
  | _ => []
def L135 (p : (TPart).D) : Loops := fun id m st_ K => match id with
  | _ => False
theorem vc135 (p : (TPart).D) (K : AV → Hp → Prop) : awp C135 (L135 p) ann135 (bodyOf Go.Proofs.Tryz.f135) ⟨argEnv 0 [.data TPart p], []⟩ (outK tab Go.Proofs.Tryz.f135.results.toList (hasBox []) (resK (.dat (Ty.int .i64)) K)) =
  (cond (decide (p.1 = (3 : Int))) (cond (decide (p.1 = (3 : Int))) (K (.data (Ty.int .i64) (2 : Int)) []) (cond (decide (p.1 = (7 : Int))) (cond (decide (p.1 = (7 : Int))) (K (.data (Ty.int .i64) (1 : Int)) []) (K (.data (Ty.int .i64) (0 : Int)) [])) (cond (decide (p.1 = (8 : Int))) (K (.data (Ty.int .i64) (1 : Int)) []) (K (.data (Ty.int .i64) (0 : Int)) [])))) (cond (decide (p.1 = (4 : Int))) (cond (decide (p.1 = (4 : Int))) (K (.data (Ty.int .i64) (2 : Int)) []) (cond (decide (p.1 = (7 : Int))) (cond (decide (p.1 = (7 : Int))) (K (.data (Ty.int .i64) (1 : Int)) []) (K (.data (Ty.int .i64) (0 : Int)) [])) (cond (decide (p.1 = (8 : Int))) (K (.data (Ty.int .i64) (1 : Int)) []) (K (.data (Ty.int .i64) (0 : Int)) [])))) (cond (decide (p.1 = (5 : Int))) (cond (decide (p.1 = (5 : Int))) (K (.data (Ty.int .i64) (2 : Int)) []) (cond (decide (p.1 = (7 : Int))) (cond (decide (p.1 = (7 : Int))) (K (.data (Ty.int .i64) (1 : Int)) []) (K (.data (Ty.int .i64) (0 : Int)) [])) (cond (decide (p.1 = (8 : Int))) (K (.data (Ty.int .i64) (1 : Int)) []) (K (.data (Ty.int .i64) (0 : Int)) [])))) (cond (decide (p.1 = (6 : Int))) (K (.data (Ty.int .i64) (2 : Int)) []) (cond (decide (p.1 = (7 : Int))) (cond (decide (p.1 = (7 : Int))) (K (.data (Ty.int .i64) (1 : Int)) []) (K (.data (Ty.int .i64) (0 : Int)) [])) (cond (decide (p.1 = (8 : Int))) (K (.data (Ty.int .i64) (1 : Int)) []) (K (.data (Ty.int .i64) (0 : Int)) []))))))) := by kernel_rfl
theorem con135_ok : ConOk P 135 c135 := by
  refine con_okR (fn := Go.Proofs.Tryz.f135) (code := bodyOf Go.Proofs.Tryz.f135) (tab_ok tab_check cmp_check) consOk135 mixed Go.Proofs.Tryz.func135 rfl rfl fun args hp K h0 => ?_
  obtain ⟨a0, rfl, rfl, h1⟩ := args1_elim h0
  obtain ⟨p, rfl, h2⟩ := withD_elim h1
  obtain ⟨h_p, hK⟩ := h2
  have h : ok (F.impl_Part_takes p) (fun r => K (.data (Ty.int .i64) r) []) := ok_of_eq (F.impl_Part_takes_eq p h_p) hK
  refine ⟨⟨show (1 : Nat) ≤ 13 by decide, show (1 : Nat) ≤ 1000000 by decide⟩, ann135, (L135 p), (.dat (Ty.int .i64)), (no_loops (by kernel_rfl)), ?_⟩
  · rw [vc135 p K]
    exact (ok_cond h (fun b_1 h => (cond_t b_1 (have h := ok_ret h; h))) (fun b_1 h => (ok_cond h (fun b_6 h => (cond_t b_6 (have h := ok_ret h; h))) (fun b_6 h => (ok_cond h (fun b_11 h => (cond_t b_11 (have h := ok_ret h; h))) (fun b_11 h => (ok_cond h (fun b_16 h => (have h := ok_ret h; h)) (fun b_16 h => (ok_cond h (fun b_17 h => (cond_t b_17 (have h := ok_ret h; h))) (fun b_17 h => (ok_cond h (fun b_19 h => (have h := ok_ret h; h)) (fun b_19 h => (have h := ok_ret h; h)))))))))))))

/-! 136: (loop.example/tablehouse/impl.Part).tells -/
def c136 : Con := ⟨[.dat TPart, .dat (Ty.sl TColumn)], fun args hp K => args2 (fun a0 a1 => withD TPart a0 fun p => withD (Ty.sl TColumn) a1 fun columns => (Sm TPart p) ∧ (Sm (Ty.sl TColumn) columns) ∧ K (.data Ty.bool (M.tells p columns)) []) args hp⟩
def cons136 : Cons := [(98, c98), (177, c177)]
def inl136 : List (Nat × Inl) := []
@[reducible] def C136 : Ctx := ⟨tab, fun t => memN t cmps, cons136, 63, inl136, 0⟩
theorem consOk136 : ConsOk P C136 := by
  refine consOk_cons (enter_ok (fn := Go.Proofs.Tryz.f98) Go.Proofs.Tryz.func98 (by kernel_rfl) rfl) con98_ok ?_
  refine consOk_cons (enter_ok (fn := Go.Proofs.Tryz.f177) Go.Proofs.Tryz.func177 (by kernel_rfl) rfl) con177_ok ?_
  exact consOk_nil
def ann136 : Nat → List Dir
  | 0 => [.fixRow 2 TPart, .keep [1, 2]]
  | 1 => [.keep [1, 2, 6]]
  | 2 => [.keep [1, 2, 6, 7]]
  | 3 => [.keep [4]]
  | 4 => [.keep [1, 2, 6, 23]]
  | 5 => [.keep [4]]
  | 6 => [.keep [2, 6, 37]]
  | 7 => [.keep [4]]
  | 8 => [.keep [2, 6, 48]]
  | 9 => [.keep [2, 6, 48]]
  | 10 => [.keep [2, 6, 48]]
  | 11 => [.keep [2, 6, 48]]
  | 12 => [.keep [2, 48]]
  | 13 => [.keep [4]]
  | 14 => [.keep [4]]
  | _ => []
def L136 (p : (TPart).D) (columns : (List (TColumn).D)) : Loops := fun id m st_ K => match id with
  | _ => False
theorem vc136 (p : (TPart).D) (columns : (List (TColumn).D)) (K : AV → Hp → Prop) : awp C136 (L136 p columns) ann136 (bodyOf Go.Proofs.Tryz.f136) ⟨argEnv 0 [.data TPart p, .data (Ty.sl TColumn) columns], []⟩ (outK tab Go.Proofs.Tryz.f136.results.toList (hasBox []) (resK (.dat Ty.bool) K)) =
  (cond (decide (p.1 = (1 : Int))) (cond ((decide (p.2.1 = (0 : Int))) == true) ((Sm TValue p.2.2.1) ∧ cond ((M.valueOk p.2.2.1) == true) (K (.data Ty.bool (!decide (p.2.2.1.1 = (0 : Int)))) []) (K (.data Ty.bool false) [])) (K (.data Ty.bool false) [])) (cond (decide (p.1 = (2 : Int))) (cond ((M.inR p.2.1 (0 : Int) (wrap64 ((columns.length : Int) - (1 : Int)))) == true) (K (.data Ty.bool (Ty.beq TValue p.2.2.1 ((0 : Int), ((0 : Int), ((⟨#[]⟩ : ByteArray), ()))))) []) (K (.data Ty.bool false) [])) (cond (decide (p.1 = (4 : Int))) (cond ((M.inR p.2.1 (1 : Int) (4 : Int)) == true) (K (.data Ty.bool (Ty.beq TValue p.2.2.1 ((0 : Int), ((0 : Int), ((⟨#[]⟩ : ByteArray), ()))))) []) (K (.data Ty.bool false) [])) (cond (decide (p.1 = (3 : Int))) (cond (decide (p.1 = (3 : Int))) (cond ((decide (p.2.1 = (0 : Int))) == true) (K (.data Ty.bool (Ty.beq TValue p.2.2.1 ((0 : Int), ((0 : Int), ((⟨#[]⟩ : ByteArray), ()))))) []) (K (.data Ty.bool false) [])) (K (.data Ty.bool false) [])) (cond (decide (p.1 = (5 : Int))) (cond (decide (p.1 = (5 : Int))) (cond ((decide (p.2.1 = (0 : Int))) == true) (K (.data Ty.bool (Ty.beq TValue p.2.2.1 ((0 : Int), ((0 : Int), ((⟨#[]⟩ : ByteArray), ()))))) []) (K (.data Ty.bool false) [])) (K (.data Ty.bool false) [])) (cond (decide (p.1 = (6 : Int))) (cond (decide (p.1 = (6 : Int))) (cond ((decide (p.2.1 = (0 : Int))) == true) (K (.data Ty.bool (Ty.beq TValue p.2.2.1 ((0 : Int), ((0 : Int), ((⟨#[]⟩ : ByteArray), ()))))) []) (K (.data Ty.bool false) [])) (K (.data Ty.bool false) [])) (cond (decide (p.1 = (7 : Int))) (cond (decide (p.1 = (7 : Int))) (cond ((decide (p.2.1 = (0 : Int))) == true) (K (.data Ty.bool (Ty.beq TValue p.2.2.1 ((0 : Int), ((0 : Int), ((⟨#[]⟩ : ByteArray), ()))))) []) (K (.data Ty.bool false) [])) (K (.data Ty.bool false) [])) (cond (decide (p.1 = (8 : Int))) (cond ((decide (p.2.1 = (0 : Int))) == true) (K (.data Ty.bool (Ty.beq TValue p.2.2.1 ((0 : Int), ((0 : Int), ((⟨#[]⟩ : ByteArray), ()))))) []) (K (.data Ty.bool false) [])) (K (.data Ty.bool false) []))))))))) := by kernel_rfl
theorem con136_ok : ConOk P 136 c136 := by
  refine con_okR (fn := Go.Proofs.Tryz.f136) (code := bodyOf Go.Proofs.Tryz.f136) (tab_ok tab_check cmp_check) consOk136 mixed Go.Proofs.Tryz.func136 rfl rfl fun args hp K h0 => ?_
  obtain ⟨a0, a1, rfl, rfl, h1⟩ := args2_elim h0
  obtain ⟨p, rfl, h2⟩ := withD_elim h1
  obtain ⟨columns, rfl, h3⟩ := withD_elim h2
  obtain ⟨h_p, h_columns, hK⟩ := h3
  have h : ok (F.impl_Part_tells p columns) (fun r => K (.data Ty.bool r) []) := ok_of_eq (F.impl_Part_tells_eq p columns h_p h_columns) hK
  refine ⟨⟨show (2 : Nat) ≤ 63 by decide, show (2 : Nat) ≤ 1000000 by decide⟩, ann136, (L136 p columns), (.dat Ty.bool), (no_loops (by kernel_rfl)), ?_⟩
  · rw [vc136 p columns K]
    exact (ok_cond h (fun b_1 h => (ok_cond h (fun b_2 h => ⟨h_p.2.2.1, (ok_cond h (fun b_3 h => (have h := ok_ret h; h)) (fun b_3 h => (have h := ok_ret h; h)))⟩) (fun b_2 h => (have h := ok_ret h; h)))) (fun b_1 h => (ok_cond h (fun b_4 h => (ok_cond h (fun b_5 h => (have h := ok_ret h; h)) (fun b_5 h => (have h := ok_ret h; h)))) (fun b_4 h => (ok_cond h (fun b_6 h => (ok_cond h (fun b_7 h => (have h := ok_ret h; h)) (fun b_7 h => (have h := ok_ret h; h)))) (fun b_6 h => (ok_cond h (fun b_8 h => (cond_t b_8 (ok_cond h (fun b_10 h => (have h := ok_ret h; h)) (fun b_10 h => (have h := ok_ret h; h))))) (fun b_8 h => (ok_cond h (fun b_11 h => (cond_t b_11 (ok_cond h (fun b_13 h => (have h := ok_ret h; h)) (fun b_13 h => (have h := ok_ret h; h))))) (fun b_11 h => (ok_cond h (fun b_14 h => (cond_t b_14 (ok_cond h (fun b_16 h => (have h := ok_ret h; h)) (fun b_16 h => (have h := ok_ret h; h))))) (fun b_14 h => (ok_cond h (fun b_17 h => (cond_t b_17 (ok_cond h (fun b_19 h => (have h := ok_ret h; h)) (fun b_19 h => (have h := ok_ret h; h))))) (fun b_17 h => (ok_cond h (fun b_20 h => (ok_cond h (fun b_21 h => (have h := ok_ret h; h)) (fun b_21 h => (have h := ok_ret h; h)))) (fun b_20 h => (have h := ok_ret h; h)))))))))))))))))

/-! 180: (loop.example/tablehouse/impl.Part).kind$1$1 -/
def c180 : Con := ⟨[.dat (Ty.int .i64), .any], fun args hp K => args2 (fun a0 a1 => withD (Ty.int .i64) a0 fun k => withR (Ty.int .i64) a1 fun kind => K (.data Ty.bool (!decide (k = kind))) []) args hp⟩
def cons180 : Cons := []
def inl180 : List (Nat × Inl) := []
@[reducible] def C180 : Ctx := ⟨tab, fun t => memN t cmps, cons180, 7, inl180, 0⟩
theorem consOk180 : ConsOk P C180 := by
  exact consOk_nil
def ann180 : Nat → List Dir
  | 0 => [.keep [0, 1]]
  | 1 => [.keep [3]]
  | _ => []
def L180 (k : Int) (kind : Int) : Loops := fun id m st_ K => match id with
  | _ => False
theorem vc180 (k : Int) (kind : Int) (K : AV → Hp → Prop) : awp C180 (L180 k kind) ann180 (bodyOf Go.Proofs.Tryz.f180) ⟨argEnv 0 [.data (Ty.int .i64) k, .ref (.data (Ty.int .i64) kind)], []⟩ (outK tab Go.Proofs.Tryz.f180.results.toList (hasBox []) (resK (.dat Ty.bool) K)) =
  (K (.data Ty.bool (!decide (k = kind))) []) := by kernel_rfl
theorem con180_ok : ConOk P 180 c180 := by
  refine con_okR (fn := Go.Proofs.Tryz.f180) (code := bodyOf Go.Proofs.Tryz.f180) (tab_ok tab_check cmp_check) consOk180 mixed Go.Proofs.Tryz.func180 rfl rfl fun args hp K h0 => ?_
  obtain ⟨a0, a1, rfl, rfl, h1⟩ := args2_elim h0
  obtain ⟨k, rfl, h2⟩ := withD_elim h1
  obtain ⟨kind, rfl, h3⟩ := withR_elim h2
  have hK := h3
  have h : ok (F.impl_Part_kind_1_1 k kind) (fun r => K (.data Ty.bool r) []) := ok_of_eq (F.impl_Part_kind_1_1_eq k kind) hK
  refine ⟨⟨show (2 : Nat) ≤ 7 by decide, show (2 : Nat) ≤ 1000000 by decide⟩, ann180, (L180 k kind), (.dat Ty.bool), (no_loops (by kernel_rfl)), ?_⟩
  · rw [vc180 k kind K]
    exact (have h := ok_ret h; h)

/-! 189: loop.example/tablehouse/impl.listOk$1 -/
def c189 : Con := ⟨[.dat (Ty.int .i64), .any], fun args hp K => args2 (fun a0 a1 => withD (Ty.int .i64) a0 fun n => withA TTable a1 fun t => (Sm TTable t) ∧ K (.data Ty.bool (!M.inR n 0 (t.1.length - 1))) []) args hp⟩
def cons189 : Cons := [(98, c98)]
def inl189 : List (Nat × Inl) := []
@[reducible] def C189 : Ctx := ⟨tab, fun t => memN t cmps, cons189, 11, inl189, 0⟩
theorem consOk189 : ConsOk P C189 := by
  refine consOk_cons (enter_ok (fn := Go.Proofs.Tryz.f98) Go.Proofs.Tryz.func98 (by kernel_rfl) rfl) con98_ok ?_
  exact consOk_nil
def ann189 : Nat → List Dir
  | 0 => [.keep [0, 1]]
  | 1 => [.keep [3]]
  | _ => []
def L189 (n : Int) (t : (TTable).D) : Loops := fun id m st_ K => match id with
  | _ => False
theorem vc189 (n : Int) (t : (TTable).D) (K : AV → Hp → Prop) : awp C189 (L189 n t) ann189 (bodyOf Go.Proofs.Tryz.f189) ⟨argEnv 0 [.data (Ty.int .i64) n, .adr TTable t], []⟩ (outK tab Go.Proofs.Tryz.f189.results.toList (hasBox []) (resK (.dat Ty.bool) K)) =
  (K (.data Ty.bool (!(M.inR n (0 : Int) (wrap64 ((t.1.length : Int) - (1 : Int)))))) []) := by kernel_rfl
theorem con189_ok : ConOk P 189 c189 := by
  refine con_okR (fn := Go.Proofs.Tryz.f189) (code := bodyOf Go.Proofs.Tryz.f189) (tab_ok tab_check cmp_check) consOk189 mixed Go.Proofs.Tryz.func189 rfl rfl fun args hp K h0 => ?_
  obtain ⟨a0, a1, rfl, rfl, h1⟩ := args2_elim h0
  obtain ⟨n, rfl, h2⟩ := withD_elim h1
  obtain ⟨t, rfl, h3⟩ := withA_elim h2
  obtain ⟨h_t, hK⟩ := h3
  have h : ok (F.impl_listOk_1 n t) (fun r => K (.data Ty.bool r) []) := ok_of_eq (F.impl_listOk_1_eq n t h_t) hK
  refine ⟨⟨show (2 : Nat) ≤ 11 by decide, show (2 : Nat) ≤ 1000000 by decide⟩, ann189, (L189 n t), (.dat Ty.bool), (no_loops (by kernel_rfl)), ?_⟩
  · rw [vc189 n t K]
    exact (have h := ok_ret h; h)

/-! 211: slices.IndexFunc[[]int,int] -/
def c211 : Con := ⟨[.lent (Ty.int .i64), .any], fun args hp K => (args2 (fun a0 a1 => withB (Ty.int .i64) a0 fun xs => withF 189 a1 (caps1 (fun b1_0 => withA TTable b1_0 fun k0 => (Sm (Ty.sl (Ty.int .i64)) xs) ∧ (Sm TTable k0) ∧ K (.data (Ty.int .i64) (M.idx (t := (Ty.int .i64)) (fun e => !M.inR e 0 (k0.1.length - 1)) xs)) []))) args hp) ∨ (args2 (fun a0 a1 => withB (Ty.int .i64) a0 fun xs => withF 180 a1 (caps1 (fun b1_0 => withR (Ty.int .i64) b1_0 fun k0 => (Sm (Ty.sl (Ty.int .i64)) xs) ∧ K (.data (Ty.int .i64) (M.idx (t := (Ty.int .i64)) (fun e => !decide (e = k0)) xs)) []))) args hp)⟩
def cons211 : Cons := [(180, c180), (189, c189)]
def inl211 : List (Nat × Inl) := []
@[reducible] def C211 : Ctx := ⟨tab, fun t => memN t cmps, cons211, 19, inl211, 0⟩
theorem consOk211 : ConsOk P C211 := by
  refine consOk_cons (enter_ok (fn := Go.Proofs.Tryz.f180) Go.Proofs.Tryz.func180 (by kernel_rfl) rfl) con180_ok ?_
  refine consOk_cons (enter_ok (fn := Go.Proofs.Tryz.f189) Go.Proofs.Tryz.func189 (by kernel_rfl) rfl) con189_ok ?_
  exact consOk_nil
def ann211_v0 : Nat → List Dir
  | 0 => [.keep [0, 1]]
  | 1 => [.keep [0, 1, 7, 8]]
  | 2 => [.keep [0, 1, 7, 8, 9]]
  | 3 => [.keep [0, 1, 5, 7, 8]]
  | 4 => [.keep [0, 1, 5, 7, 8, 16]]
  | 5 => [.keep [4]]
  | 6 => [.keep [0, 1, 7, 8]]
  | 7 => [.keep [4]]
  | 100000 => [.keep []]
  | _ => []
@[reducible] def LP211_0_v0 (xs : (List Int)) (k0 : (TTable).D) (m : Nat) (st_ : St) (K : X → St → Prop) : Prop := (True) ∧ LoopI (fun (i0 : Int) (v0 : Unit) => (⟨[(0, .brw (Ty.int .i64) xs), (1, .fn 189 [.adr TTable k0]), (7, .data (Ty.int .i64) (xs.length : Int)), (8, .data (Ty.int .i64) i0)], []⟩ : St)) (0 : Int) (xs.length : Int) (F.IndexFunc_impl_listOk_1_l0 xs k0) (fun v0 : Unit => True) (outD (fun v0 : Unit => True → K (.exit 0) (⟨[], []⟩ : St)) (fun q0 : Int => K .ret (⟨[(4, .data (Ty.int .i64) q0)], []⟩ : St))) m st_
def L211_v0 (xs : (List Int)) (k0 : (TTable).D) : Loops := fun id m st_ K => match id with
  | 0 => LP211_0_v0 xs k0 m st_ K
  | _ => False
theorem vc211_v0 (xs : (List Int)) (k0 : (TTable).D) (K : AV → Hp → Prop) : awp C211 (L211_v0 xs k0) ann211_v0 (bodyOf Go.Proofs.Tryz.f211) ⟨argEnv 0 [.brw (Ty.int .i64) xs, .fn 189 [.adr TTable k0]], []⟩ (outK tab Go.Proofs.Tryz.f211.results.toList (hasBox []) (resK (.dat (Ty.int .i64)) K)) =
  ((∃ m_, (True) ∧ LoopI (fun (i0 : Int) (v0 : Unit) => (⟨[(0, .brw (Ty.int .i64) xs), (1, .fn 189 [.adr TTable k0]), (7, .data (Ty.int .i64) (xs.length : Int)), (8, .data (Ty.int .i64) i0)], []⟩ : St)) (0 : Int) (xs.length : Int) (F.IndexFunc_impl_listOk_1_l0 xs k0) (fun v0 : Unit => True) (outD (fun v0 : Unit => True → K (.data (Ty.int .i64) (-1 : Int)) []) (fun q0 : Int => K (.data (Ty.int .i64) q0) [])) m_ (⟨[(0, .brw (Ty.int .i64) xs), (1, .fn 189 [.adr TTable k0]), (7, .data (Ty.int .i64) (xs.length : Int)), (8, .data (Ty.int .i64) (0 : Int))], []⟩ : St))) := by kernel_rfl
theorem lvc211_0_v0 (xs : (List Int)) (k0 : (TTable).D)  (i0 : Int) (v0 : Unit) (m : Nat) (K : X → St → Prop) : awp C211 (L211_v0 xs k0) ann211_v0 (loopAt (bodyOf Go.Proofs.Tryz.f211) 0) (⟨[(0, .brw (Ty.int .i64) xs), (1, .fn 189 [.adr TTable k0]), (7, .data (Ty.int .i64) (xs.length : Int)), (8, .data (Ty.int .i64) i0)], []⟩ : St) (thenW (fun s' => ∃ m', m' < m ∧ (L211_v0 xs k0) 0 m' s' K) (exitN 0 (ann211_v0 (behind 0)) K)) =
  (cond (decide (i0 < (xs.length : Int))) ((0 ≤ i0) ∧ (i0 < (xs.length : Int)) ∧ (Sm TTable k0) ∧ cond (!M.inR (nth (t := (Ty.int .i64)) xs i0) 0 (k0.1.length - 1)) (K .ret (⟨[(4, .data (Ty.int .i64) i0)], []⟩ : St)) ((∃ m_, m_ < m ∧ (L211_v0 xs k0) 0 m_ (⟨[(0, .brw (Ty.int .i64) xs), (1, .fn 189 [.adr TTable k0]), (7, .data (Ty.int .i64) (xs.length : Int)), (8, .data (Ty.int .i64) (wrap64 (i0 + (1 : Int))))], []⟩ : St) K))) (K (.exit 0) (⟨[], []⟩ : St))) := by kernel_rfl
def ann211_v1 : Nat → List Dir
  | 0 => [.keep [0, 1]]
  | 1 => [.keep [0, 1, 7, 8]]
  | 2 => [.keep [0, 1, 7, 8, 9]]
  | 3 => [.keep [0, 1, 5, 7, 8]]
  | 4 => [.keep [0, 1, 5, 7, 8, 16]]
  | 5 => [.keep [4]]
  | 6 => [.keep [0, 1, 7, 8]]
  | 7 => [.keep [4]]
  | 100000 => [.keep []]
  | _ => []
@[reducible] def LP211_0_v1 (xs : (List Int)) (k0 : Int) (m : Nat) (st_ : St) (K : X → St → Prop) : Prop := (True) ∧ LoopI (fun (i0 : Int) (v0 : Unit) => (⟨[(0, .brw (Ty.int .i64) xs), (1, .fn 180 [.ref (.data (Ty.int .i64) k0)]), (7, .data (Ty.int .i64) (xs.length : Int)), (8, .data (Ty.int .i64) i0)], []⟩ : St)) (0 : Int) (xs.length : Int) (F.IndexFunc_impl_Part_kind_1_1_l0 xs k0) (fun v0 : Unit => True) (outD (fun v0 : Unit => True → K (.exit 0) (⟨[], []⟩ : St)) (fun q0 : Int => K .ret (⟨[(4, .data (Ty.int .i64) q0)], []⟩ : St))) m st_
def L211_v1 (xs : (List Int)) (k0 : Int) : Loops := fun id m st_ K => match id with
  | 0 => LP211_0_v1 xs k0 m st_ K
  | _ => False
theorem vc211_v1 (xs : (List Int)) (k0 : Int) (K : AV → Hp → Prop) : awp C211 (L211_v1 xs k0) ann211_v1 (bodyOf Go.Proofs.Tryz.f211) ⟨argEnv 0 [.brw (Ty.int .i64) xs, .fn 180 [.ref (.data (Ty.int .i64) k0)]], []⟩ (outK tab Go.Proofs.Tryz.f211.results.toList (hasBox []) (resK (.dat (Ty.int .i64)) K)) =
  ((∃ m_, (True) ∧ LoopI (fun (i0 : Int) (v0 : Unit) => (⟨[(0, .brw (Ty.int .i64) xs), (1, .fn 180 [.ref (.data (Ty.int .i64) k0)]), (7, .data (Ty.int .i64) (xs.length : Int)), (8, .data (Ty.int .i64) i0)], []⟩ : St)) (0 : Int) (xs.length : Int) (F.IndexFunc_impl_Part_kind_1_1_l0 xs k0) (fun v0 : Unit => True) (outD (fun v0 : Unit => True → K (.data (Ty.int .i64) (-1 : Int)) []) (fun q0 : Int => K (.data (Ty.int .i64) q0) [])) m_ (⟨[(0, .brw (Ty.int .i64) xs), (1, .fn 180 [.ref (.data (Ty.int .i64) k0)]), (7, .data (Ty.int .i64) (xs.length : Int)), (8, .data (Ty.int .i64) (0 : Int))], []⟩ : St))) := by kernel_rfl
theorem lvc211_0_v1 (xs : (List Int)) (k0 : Int)  (i0 : Int) (v0 : Unit) (m : Nat) (K : X → St → Prop) : awp C211 (L211_v1 xs k0) ann211_v1 (loopAt (bodyOf Go.Proofs.Tryz.f211) 0) (⟨[(0, .brw (Ty.int .i64) xs), (1, .fn 180 [.ref (.data (Ty.int .i64) k0)]), (7, .data (Ty.int .i64) (xs.length : Int)), (8, .data (Ty.int .i64) i0)], []⟩ : St) (thenW (fun s' => ∃ m', m' < m ∧ (L211_v1 xs k0) 0 m' s' K) (exitN 0 (ann211_v1 (behind 0)) K)) =
  (cond (decide (i0 < (xs.length : Int))) ((0 ≤ i0) ∧ (i0 < (xs.length : Int)) ∧ cond (!decide ((nth (t := (Ty.int .i64)) xs i0) = k0)) (K .ret (⟨[(4, .data (Ty.int .i64) i0)], []⟩ : St)) ((∃ m_, m_ < m ∧ (L211_v1 xs k0) 0 m_ (⟨[(0, .brw (Ty.int .i64) xs), (1, .fn 180 [.ref (.data (Ty.int .i64) k0)]), (7, .data (Ty.int .i64) (xs.length : Int)), (8, .data (Ty.int .i64) (wrap64 (i0 + (1 : Int))))], []⟩ : St) K))) (K (.exit 0) (⟨[], []⟩ : St))) := by kernel_rfl
theorem con211_ok : ConOk P 211 c211 := by
  refine con_okR (fn := Go.Proofs.Tryz.f211) (code := bodyOf Go.Proofs.Tryz.f211) (tab_ok tab_check cmp_check) consOk211 mixed Go.Proofs.Tryz.func211 rfl rfl fun args hp K h0 => ?_
  rcases h0 with h0 | h0
  · obtain ⟨a0, a1, rfl, rfl, h1⟩ := args2_elim h0
    obtain ⟨xs, rfl, h2⟩ := withB_elim h1
    obtain ⟨cs1, rfl, h3⟩ := withF_elim h2
    obtain ⟨b1_0, rfl, h4⟩ := caps1_elim h3
    obtain ⟨k0, rfl, h5⟩ := withA_elim h4
    obtain ⟨h_xs, h_k0, hK⟩ := h5
    have h : ok (F.IndexFunc_impl_listOk_1 xs k0) (fun r => K (.data (Ty.int .i64) r) []) := ok_of_eq (F.IndexFunc_impl_listOk_1_eq xs k0 h_xs h_k0) hK
    refine ⟨⟨show (2 : Nat) ≤ 19 by decide, show (2 : Nat) ≤ 1000000 by decide⟩, ann211_v0, (L211_v0 xs k0), (.dat (Ty.int .i64)), (loopsN1 (i0 := 0) (by kernel_rfl) ?_), ?_⟩
    · clear h
      intro m_ s_ K_ h
      obtain ⟨hc0, i0, v0, rfl, hl0, rfl, hv0, h⟩ := (show LP211_0_v0 xs k0 m_ s_ K_ from h)
      rw [lvc211_0_v0 xs k0 i0 v0 _ K_]
      exact (loopI_step h (fun ht0 h => ⟨hl0, ⟨ht0, ⟨h_k0, (ok_cond h (fun b_9 h => (have h := ok_ret h; h)) (fun b_9 h => (loopI_next (fun m hm => (show LP211_0_v0 xs k0 m _ _ from ⟨hc0, hm⟩)) () rfl hl0 low0 ht0 (sm_len h_xs) trivial (have h := ok_ret h; h))))⟩⟩⟩) (fun h => (h trivial)))
    · rw [vc211_v0 xs k0 K]
      exact (loopI_start (fun m hm => ⟨trivial, hm⟩) (0 : Int) () rfl (Int.natCast_nonneg 0) trivial (ok_then h (fun v0 h hv0 => (have h := ok_ret h; h)) (fun q0 h => (have h := ok_ret h; h))))
  · obtain ⟨a0, a1, rfl, rfl, h1⟩ := args2_elim h0
    obtain ⟨xs, rfl, h2⟩ := withB_elim h1
    obtain ⟨cs1, rfl, h3⟩ := withF_elim h2
    obtain ⟨b1_0, rfl, h4⟩ := caps1_elim h3
    obtain ⟨k0, rfl, h5⟩ := withR_elim h4
    obtain ⟨h_xs, hK⟩ := h5
    have h : ok (F.IndexFunc_impl_Part_kind_1_1 xs k0) (fun r => K (.data (Ty.int .i64) r) []) := ok_of_eq (F.IndexFunc_impl_Part_kind_1_1_eq xs k0 h_xs) hK
    refine ⟨⟨show (2 : Nat) ≤ 19 by decide, show (2 : Nat) ≤ 1000000 by decide⟩, ann211_v1, (L211_v1 xs k0), (.dat (Ty.int .i64)), (loopsN1 (i0 := 0) (by kernel_rfl) ?_), ?_⟩
    · clear h
      intro m_ s_ K_ h
      obtain ⟨hc0, i0, v0, rfl, hl0, rfl, hv0, h⟩ := (show LP211_0_v1 xs k0 m_ s_ K_ from h)
      rw [lvc211_0_v1 xs k0 i0 v0 _ K_]
      exact (loopI_step h (fun ht0 h => ⟨hl0, ⟨ht0, (ok_cond h (fun b_9 h => (have h := ok_ret h; h)) (fun b_9 h => (loopI_next (fun m hm => (show LP211_0_v1 xs k0 m _ _ from ⟨hc0, hm⟩)) () rfl hl0 low0 ht0 (sm_len h_xs) trivial (have h := ok_ret h; h))))⟩⟩) (fun h => (h trivial)))
    · rw [vc211_v1 xs k0 K]
      exact (loopI_start (fun m hm => ⟨trivial, hm⟩) (0 : Int) () rfl (Int.natCast_nonneg 0) trivial (ok_then h (fun v0 h hv0 => (have h := ok_ret h; h)) (fun q0 h => (have h := ok_ret h; h))))

/-! 179: slices.ContainsFunc[[]int,int] -/
def c179 : Con := ⟨[.lent (Ty.int .i64), .any], fun args hp K => (args2 (fun a0 a1 => withB (Ty.int .i64) a0 fun xs => withF 189 a1 (caps1 (fun b1_0 => withA TTable b1_0 fun k0 => (Sm (Ty.sl (Ty.int .i64)) xs) ∧ (Sm TTable k0) ∧ K (.data Ty.bool (List.any xs (fun e => !M.inR e 0 (k0.1.length - 1)))) []))) args hp) ∨ (args2 (fun a0 a1 => withB (Ty.int .i64) a0 fun xs => withF 180 a1 (caps1 (fun b1_0 => withR (Ty.int .i64) b1_0 fun k0 => (Sm (Ty.sl (Ty.int .i64)) xs) ∧ K (.data Ty.bool (List.any xs (fun e => !decide (e = k0)))) []))) args hp)⟩
def cons179 : Cons := [(180, c180), (189, c189), (211, c211)]
def inl179 : List (Nat × Inl) := []
@[reducible] def C179 : Ctx := ⟨tab, fun t => memN t cmps, cons179, 9, inl179, 0⟩
theorem consOk179 : ConsOk P C179 := by
  refine consOk_cons (enter_ok (fn := Go.Proofs.Tryz.f180) Go.Proofs.Tryz.func180 (by kernel_rfl) rfl) con180_ok ?_
  refine consOk_cons (enter_ok (fn := Go.Proofs.Tryz.f189) Go.Proofs.Tryz.func189 (by kernel_rfl) rfl) con189_ok ?_
  refine consOk_cons (enter_ok (fn := Go.Proofs.Tryz.f211) Go.Proofs.Tryz.func211 (by kernel_rfl) rfl) con211_ok ?_
  exact consOk_nil
def ann179_v0 : Nat → List Dir
  | 0 => [.keep [0, 1]]
  | 1 => [.keep [4]]
  | _ => []
def L179_v0 (xs : (List Int)) (k0 : (TTable).D) : Loops := fun id m st_ K => match id with
  | _ => False
theorem vc179_v0 (xs : (List Int)) (k0 : (TTable).D) (K : AV → Hp → Prop) : awp C179 (L179_v0 xs k0) ann179_v0 (bodyOf Go.Proofs.Tryz.f179) ⟨argEnv 0 [.brw (Ty.int .i64) xs, .fn 189 [.adr TTable k0]], []⟩ (outK tab Go.Proofs.Tryz.f179.results.toList (hasBox []) (resK (.dat Ty.bool) K)) =
  ((((Sm (Ty.sl (Ty.int .i64)) xs) ∧ (Sm TTable k0) ∧ K (.data Ty.bool (decide ((0 : Int) ≤ (M.idx (t := (Ty.int .i64)) (fun e => !M.inR e 0 (k0.1.length - 1)) xs)))) []) ∨ False)) := by kernel_rfl
def ann179_v1 : Nat → List Dir
  | 0 => [.keep [0, 1]]
  | 1 => [.keep [4]]
  | _ => []
def L179_v1 (xs : (List Int)) (k0 : Int) : Loops := fun id m st_ K => match id with
  | _ => False
theorem vc179_v1 (xs : (List Int)) (k0 : Int) (K : AV → Hp → Prop) : awp C179 (L179_v1 xs k0) ann179_v1 (bodyOf Go.Proofs.Tryz.f179) ⟨argEnv 0 [.brw (Ty.int .i64) xs, .fn 180 [.ref (.data (Ty.int .i64) k0)]], []⟩ (outK tab Go.Proofs.Tryz.f179.results.toList (hasBox []) (resK (.dat Ty.bool) K)) =
  ((False ∨ ((Sm (Ty.sl (Ty.int .i64)) xs) ∧ K (.data Ty.bool (decide ((0 : Int) ≤ (M.idx (t := (Ty.int .i64)) (fun e => !decide (e = k0)) xs)))) []))) := by kernel_rfl
theorem con179_ok : ConOk P 179 c179 := by
  refine con_okR (fn := Go.Proofs.Tryz.f179) (code := bodyOf Go.Proofs.Tryz.f179) (tab_ok tab_check cmp_check) consOk179 mixed Go.Proofs.Tryz.func179 rfl rfl fun args hp K h0 => ?_
  rcases h0 with h0 | h0
  · obtain ⟨a0, a1, rfl, rfl, h1⟩ := args2_elim h0
    obtain ⟨xs, rfl, h2⟩ := withB_elim h1
    obtain ⟨cs1, rfl, h3⟩ := withF_elim h2
    obtain ⟨b1_0, rfl, h4⟩ := caps1_elim h3
    obtain ⟨k0, rfl, h5⟩ := withA_elim h4
    obtain ⟨h_xs, h_k0, hK⟩ := h5
    have h : ok (F.ContainsFunc_impl_listOk_1 xs k0) (fun r => K (.data Ty.bool r) []) := ok_of_eq (F.ContainsFunc_impl_listOk_1_eq xs k0 h_xs h_k0) hK
    refine ⟨⟨show (2 : Nat) ≤ 9 by decide, show (2 : Nat) ≤ 1000000 by decide⟩, ann179_v0, (L179_v0 xs k0), (.dat Ty.bool), (no_loops (by kernel_rfl)), ?_⟩
    · rw [vc179_v0 xs k0 K]
      exact (Or.inl (⟨h_xs, ⟨h_k0, (have h := ok_ret h; h)⟩⟩))
  · obtain ⟨a0, a1, rfl, rfl, h1⟩ := args2_elim h0
    obtain ⟨xs, rfl, h2⟩ := withB_elim h1
    obtain ⟨cs1, rfl, h3⟩ := withF_elim h2
    obtain ⟨b1_0, rfl, h4⟩ := caps1_elim h3
    obtain ⟨k0, rfl, h5⟩ := withR_elim h4
    obtain ⟨h_xs, hK⟩ := h5
    have h : ok (F.ContainsFunc_impl_Part_kind_1_1 xs k0) (fun r => K (.data Ty.bool r) []) := ok_of_eq (F.ContainsFunc_impl_Part_kind_1_1_eq xs k0 h_xs) hK
    refine ⟨⟨show (2 : Nat) ≤ 9 by decide, show (2 : Nat) ≤ 1000000 by decide⟩, ann179_v1, (L179_v1 xs k0), (.dat Ty.bool), (no_loops (by kernel_rfl)), ?_⟩
    · rw [vc179_v1 xs k0 K]
      exact (Or.inr (⟨h_xs, (have h := ok_ret h; h)⟩))

/-! 178: (loop.example/tablehouse/impl.Part).kind$1 -/
def c178 : Con := ⟨[.dat (Ty.int .i64), .any], fun args hp K => args2 (fun a0 a1 => withD (Ty.int .i64) a0 fun kind => withRB (Ty.int .i64) a1 fun ins => (Sm (Ty.sl (Ty.int .i64)) ins) ∧ K (.data Ty.bool (List.all ins (fun k => decide (k = kind)))) []) args hp⟩
def cons178 : Cons := [(179, c179), (180, c180)]
def inl178 : List (Nat × Inl) := []
@[reducible] def C178 : Ctx := ⟨tab, fun t => memN t cmps, cons178, 8, inl178, 0⟩
theorem consOk178 : ConsOk P C178 := by
  refine consOk_cons (enter_ok (fn := Go.Proofs.Tryz.f179) Go.Proofs.Tryz.func179 (by kernel_rfl) rfl) con179_ok ?_
  refine consOk_cons (enter_ok (fn := Go.Proofs.Tryz.f180) Go.Proofs.Tryz.func180 (by kernel_rfl) rfl) con180_ok ?_
  exact consOk_nil
def ann178 : Nat → List Dir
  | 0 => [.fixBox 2, .keep [1, 2]]
  | 1 => [.keep [3]]
  | _ => []
def L178 (kind : Int) (ins : (List Int)) : Loops := fun id m st_ K => match id with
  | _ => False
theorem vc178 (kind : Int) (ins : (List Int)) (K : AV → Hp → Prop) : awp C178 (L178 kind ins) ann178 (bodyOf Go.Proofs.Tryz.f178) ⟨argEnv 0 [.data (Ty.int .i64) kind, .ref (.brw (Ty.int .i64) ins)], []⟩ (outK tab Go.Proofs.Tryz.f178.results.toList (hasBox []) (resK (.dat Ty.bool) K)) =
  ((False ∨ ((Sm (Ty.sl (Ty.int .i64)) ins) ∧ K (.data Ty.bool (!(List.any ins (fun e => !decide (e = kind))))) []))) := by kernel_rfl
theorem con178_ok : ConOk P 178 c178 := by
  refine con_okR (fn := Go.Proofs.Tryz.f178) (code := bodyOf Go.Proofs.Tryz.f178) (tab_ok tab_check cmp_check) consOk178 mixed Go.Proofs.Tryz.func178 rfl rfl fun args hp K h0 => ?_
  obtain ⟨a0, a1, rfl, rfl, h1⟩ := args2_elim h0
  obtain ⟨kind, rfl, h2⟩ := withD_elim h1
  obtain ⟨ins, rfl, h3⟩ := withRB_elim h2
  obtain ⟨h_ins, hK⟩ := h3
  have h : ok (F.impl_Part_kind_1 kind ins) (fun r => K (.data Ty.bool r) []) := ok_of_eq (F.impl_Part_kind_1_eq kind ins h_ins) hK
  refine ⟨⟨show (2 : Nat) ≤ 8 by decide, show (2 : Nat) ≤ 1000000 by decide⟩, ann178, (L178 kind ins), (.dat Ty.bool), (no_loops (by kernel_rfl)), ?_⟩
  · rw [vc178 kind ins K]
    exact (Or.inr (⟨h_ins, (have h := ok_ret h; h)⟩))

/-! 137: (loop.example/tablehouse/impl.Part).kind -/
def c137 : Con := ⟨[.dat TPart, .dat (Ty.sl TColumn), .lent (Ty.int .i64)], fun args hp K => args3 (fun a0 a1 a2 => withD TPart a0 fun p => withD (Ty.sl TColumn) a1 fun columns => withB (Ty.int .i64) a2 fun inp => (Sm TPart p) ∧ (Sm (Ty.sl TColumn) columns) ∧ (Sm (Ty.sl (Ty.int .i64)) inp) ∧ (M.tells p columns = true) ∧ ((inp.length : Int) = M.takes p) ∧ (∀ r : Int × Bool, r = (M.partKind p columns inp) → K (.tup [.data (Ty.int .i64) r.1, .data Ty.bool r.2]) [])) args hp⟩
def cons137 : Cons := [(178, c178)]
def inl137 : List (Nat × Inl) := []
@[reducible] def C137 : Ctx := ⟨tab, fun t => memN t cmps, cons137, 42, inl137, 0⟩
theorem consOk137 : ConsOk P C137 := by
  refine consOk_cons (enter_ok (fn := Go.Proofs.Tryz.f178) Go.Proofs.Tryz.func178 (by kernel_rfl) rfl) con178_ok ?_
  exact consOk_nil
def ann137 : Nat → List Dir
  | 0 => [.fixRow 3 TPart, .fixBox 5, .keep [1, 3, 5]]
  | 1 => [.keep [1, 3, 5, 8]]
  | 2 => [.keep [1, 3, 5, 8, 11]]
  | 3 => [.keep [1, 3, 5, 8, 11, 12]]
  | 4 => [.keep [6, 7]]
  | 5 => [.keep [1, 3, 5, 8, 11, 17]]
  | 6 => [.keep [6, 7]]
  | 7 => [.keep [5, 8, 11, 25]]
  | 8 => [.keep [6, 7]]
  | 9 => [.keep [5, 8, 11, 29]]
  | 10 => [.keep [6, 7]]
  | 11 => [.keep [8, 38]]
  | 12 => [.keep [6, 7]]
  | 13 => [.keep [6, 7]]
  | _ => []
def L137 (p : (TPart).D) (columns : (List (TColumn).D)) (inp : (List Int)) : Loops := fun id m st_ K => match id with
  | _ => False
theorem vc137 (p : (TPart).D) (columns : (List (TColumn).D)) (inp : (List Int)) (K : AV → Hp → Prop) : awp C137 (L137 p columns inp) ann137 (bodyOf Go.Proofs.Tryz.f137) ⟨argEnv 0 [.data TPart p, .data (Ty.sl TColumn) columns, .brw (Ty.int .i64) inp], []⟩ (outK tab Go.Proofs.Tryz.f137.results.toList (hasBox []) (resK (.tup [(Ty.int .i64), Ty.bool]) K)) =
  (cond (decide (p.1 = (1 : Int))) (K (.tup [.data (Ty.int .i64) p.2.2.1.1, .data Ty.bool true]) []) (cond (decide (p.1 = (2 : Int))) ((0 ≤ p.2.1) ∧ (p.2.1 < (columns.length : Int)) ∧ K (.tup [.data (Ty.int .i64) ((nth (t := TColumn) columns p.2.1).1), .data Ty.bool true]) []) (cond (decide (p.1 = (3 : Int))) ((Sm (Ty.sl (Ty.int .i64)) inp) ∧ K (.tup [.data (Ty.int .i64) (1 : Int), .data Ty.bool (List.all inp (fun k => decide (k = (1 : Int))))]) []) (cond (decide (p.1 = (4 : Int))) ((0 ≤ (0 : Int)) ∧ ((0 : Int) < (inp.length : Int)) ∧ (0 ≤ (1 : Int)) ∧ ((1 : Int) < (inp.length : Int)) ∧ K (.tup [.data (Ty.int .i64) (3 : Int), .data Ty.bool (decide ((nth (t := (Ty.int .i64)) inp (0 : Int)) = (nth (t := (Ty.int .i64)) inp (1 : Int))))]) []) (cond (decide (p.1 = (8 : Int))) (K (.tup [.data (Ty.int .i64) (3 : Int), .data Ty.bool true]) []) ((Sm (Ty.sl (Ty.int .i64)) inp) ∧ K (.tup [.data (Ty.int .i64) (3 : Int), .data Ty.bool (List.all inp (fun k => decide (k = (3 : Int))))]) [])))))) := by kernel_rfl
theorem con137_ok : ConOk P 137 c137 := by
  refine con_okR (fn := Go.Proofs.Tryz.f137) (code := bodyOf Go.Proofs.Tryz.f137) (tab_ok tab_check cmp_check) consOk137 mixed Go.Proofs.Tryz.func137 rfl rfl fun args hp K h0 => ?_
  obtain ⟨a0, a1, a2, rfl, rfl, h1⟩ := args3_elim h0
  obtain ⟨p, rfl, h2⟩ := withD_elim h1
  obtain ⟨columns, rfl, h3⟩ := withD_elim h2
  obtain ⟨inp, rfl, h4⟩ := withB_elim h3
  obtain ⟨h_p, h_columns, h_inp, p0, p1, hK⟩ := h4
  have h : ok (F.impl_Part_kind p columns inp) (fun r => K (.tup [.data (Ty.int .i64) r.1, .data Ty.bool r.2]) []) := ok_of_eq (F.impl_Part_kind_eq p columns inp h_p h_columns h_inp p0 p1) (hK _ rfl)
  refine ⟨⟨show (3 : Nat) ≤ 42 by decide, show (3 : Nat) ≤ 1000000 by decide⟩, ann137, (L137 p columns inp), (.tup [(Ty.int .i64), Ty.bool]), (no_loops (by kernel_rfl)), ?_⟩
  · rw [vc137 p columns inp K]
    exact (ok_cond h (fun b_1 h => (have h := ok_ret h; h)) (fun b_1 h => (ok_cond h (fun b_2 h => ⟨(ok_guard h).1, have g_3 := (ok_guard h).1; have h := (ok_guard h).2; ⟨(ok_guard h).1, have g_4 := (ok_guard h).1; have h := (ok_guard h).2; (have h := ok_ret h; h)⟩⟩) (fun b_2 h => (ok_cond h (fun b_5 h => ⟨h_inp, (have h := ok_ret h; h)⟩) (fun b_5 h => (ok_cond h (fun b_6 h => ⟨(Int.natCast_nonneg 0), ⟨(ok_guard h).1, have g_7 := (ok_guard h).1; have h := (ok_guard h).2; ⟨(Int.natCast_nonneg 1), ⟨(ok_guard h).1, have g_8 := (ok_guard h).1; have h := (ok_guard h).2; (have h := ok_ret h; h)⟩⟩⟩⟩) (fun b_6 h => (ok_cond h (fun b_9 h => (have h := ok_ret h; h)) (fun b_9 h => ⟨h_inp, (have h := ok_ret h; h)⟩))))))))))

/-! 99: loop.example/tablehouse/impl.ExprKind -/
def c99 : Con := ⟨[.dat (Ty.sl TColumn), .dat (Ty.sl TPart)], fun args hp K => args2 (fun a0 a1 => withD (Ty.sl TColumn) a0 fun columns => withD (Ty.sl TPart) a1 fun e => (Sm (Ty.sl TColumn) columns) ∧ (Sm (Ty.sl TPart) e) ∧ K (.data (Ty.int .i64) (M.exprKind columns e)) []) args hp⟩
def cons99 : Cons := [(133, c133), (135, c135), (136, c136), (137, c137)]
def inl99 : List (Nat × Inl) := []
@[reducible] def C99 : Ctx := ⟨tab, fun t => memN t cmps, cons99, 67, inl99, 0⟩
theorem consOk99 : ConsOk P C99 := by
  refine consOk_cons (enter_ok (fn := Go.Proofs.Tryz.f133) Go.Proofs.Tryz.func133 (by kernel_rfl) rfl) con133_ok ?_
  refine consOk_cons (enter_ok (fn := Go.Proofs.Tryz.f135) Go.Proofs.Tryz.func135 (by kernel_rfl) rfl) con135_ok ?_
  refine consOk_cons (enter_ok (fn := Go.Proofs.Tryz.f136) Go.Proofs.Tryz.func136 (by kernel_rfl) rfl) con136_ok ?_
  refine consOk_cons (enter_ok (fn := Go.Proofs.Tryz.f137) Go.Proofs.Tryz.func137 (by kernel_rfl) rfl) con137_ok ?_
  exact consOk_nil
def ann99 : Nat → List Dir
  | 0 => [.keep [0, 1]]
  | 1 => [.keep [0, 1, 18]]
  | 2 => [.keep [4]]
  | 3 => [.keep [0, 1, 5]]
  | 4 => [.keep [0, 5, 19, 20, 21]]
  | 5 => [.keep [0, 5, 19, 20, 21, 22]]
  | 6 => [.fixRow 7 TPart, .keep [0, 5, 7, 19, 20, 21]]
  | 7 => [.keep [0, 5, 7, 8, 19, 20, 21]]
  | 8 => [.keep [0, 5, 7, 8, 19, 20, 21, 36]]
  | 9 => [.keep [4]]
  | 10 => [.keep [0, 5, 8, 9, 10, 19, 20, 21]]
  | 11 => [.keep [0, 5, 8, 9, 19, 20, 21, 50]]
  | 12 => [.keep [4]]
  | 13 => [.keep [0, 5, 19, 20, 21]]
  | 14 => [.keep [0, 5, 19, 20, 21]]
  | 15 => [.keep [5, 63]]
  | 16 => [.keep [4]]
  | 17 => [.keep [4]]
  | 100000 => [.keep [5]]
  | _ => []
@[reducible] def LP99_0 (columns : (List (TColumn).D)) (e : (List (TPart).D)) (m : Nat) (st_ : St) (K : X → St → Prop) : Prop := (True) ∧ LoopE (t := TPart) (fun (i0 : Int) (v0 : (List Int)) => (⟨[(0, .data (Ty.sl TColumn) columns), (5, .own 5 none), (19, .data (Ty.sl TPart) e), (20, .data (Ty.int .i64) (e.length : Int)), (21, .data (Ty.int .i64) i0)], [(5, .arr (Ty.int .i64) v0)]⟩ : St)) e (F.impl_ExprKind_l0 columns e) (fun v0 : (List Int) => True) (outD (fun v0 : (List Int) => True → K (.exit 0) (⟨[(5, .own 5 none)], [(5, .arr (Ty.int .i64) v0)]⟩ : St)) (fun q0 : Unit => K .ret (⟨[(4, .data (Ty.int .i64) (-1 : Int))], []⟩ : St))) m st_
def L99 (columns : (List (TColumn).D)) (e : (List (TPart).D)) : Loops := fun id m st_ K => match id with
  | 0 => LP99_0 columns e m st_ K
  | _ => False
theorem vc99 (columns : (List (TColumn).D)) (e : (List (TPart).D)) (K : AV → Hp → Prop) : awp C99 (L99 columns e) ann99 (bodyOf Go.Proofs.Tryz.f99) ⟨argEnv 0 [.data (Ty.sl TColumn) columns, .data (Ty.sl TPart) e], []⟩ (outK tab Go.Proofs.Tryz.f99.results.toList (hasBox []) (resK (.dat (Ty.int .i64)) K)) =
  ((Sm (Ty.sl TColumn) columns) ∧ cond ((!(M.columnsOk columns)) == false) (cond (decide ((12 : Int) < (e.length : Int))) (K (.data (Ty.int .i64) (-1 : Int)) []) ((∃ m_, (True) ∧ LoopE (t := TPart) (fun (i0 : Int) (v0 : (List Int)) => (⟨[(0, .data (Ty.sl TColumn) columns), (5, .own 5 none), (19, .data (Ty.sl TPart) e), (20, .data (Ty.int .i64) (e.length : Int)), (21, .data (Ty.int .i64) i0)], [(5, .arr (Ty.int .i64) v0)]⟩ : St)) e (F.impl_ExprKind_l0 columns e) (fun v0 : (List Int) => True) (outD (fun v0 : (List Int) => True → cond (!decide ((v0.length : Int) = (1 : Int))) (K (.data (Ty.int .i64) (-1 : Int)) []) ((0 ≤ (0 : Int)) ∧ ((0 : Int) < (v0.length : Int)) ∧ K (.data (Ty.int .i64) (nth (t := (Ty.int .i64)) v0 (0 : Int))) [])) (fun q0 : Unit => K (.data (Ty.int .i64) (-1 : Int)) [])) m_ (⟨[(0, .data (Ty.sl TColumn) columns), (5, .own 5 none), (19, .data (Ty.sl TPart) e), (20, .data (Ty.int .i64) (e.length : Int)), (21, .data (Ty.int .i64) (0 : Int))], [(5, .arr (Ty.int .i64) [])]⟩ : St)))) (K (.data (Ty.int .i64) (-1 : Int)) [])) := by kernel_rfl
theorem lvc99_0 (columns : (List (TColumn).D)) (e : (List (TPart).D))  (i0 : Int) (v0 : (List Int)) (m : Nat) (K : X → St → Prop) : awp C99 (L99 columns e) ann99 (loopAt (bodyOf Go.Proofs.Tryz.f99) 0) (⟨[(0, .data (Ty.sl TColumn) columns), (5, .own 5 none), (19, .data (Ty.sl TPart) e), (20, .data (Ty.int .i64) (e.length : Int)), (21, .data (Ty.int .i64) i0)], [(5, .arr (Ty.int .i64) v0)]⟩ : St) (thenW (fun s' => ∃ m', m' < m ∧ (L99 columns e) 0 m' s' K) (exitN 0 (ann99 (behind 0)) K)) =
  (cond (decide (i0 < (e.length : Int))) ((0 ≤ i0) ∧ (i0 < (e.length : Int)) ∧ (Sm TPart (nth (t := TPart) e i0)) ∧ (Sm TPart (nth (t := TPart) e i0)) ∧ (Sm (Ty.sl TColumn) columns) ∧ cond ((!(M.tells (nth (t := TPart) e i0) columns)) == false) (cond (decide ((v0.length : Int) < (M.takes (nth (t := TPart) e i0)))) (K .ret (⟨[(4, .data (Ty.int .i64) (-1 : Int))], []⟩ : St)) ((0 ≤ wrap64 ((v0.length : Int) - (M.takes (nth (t := TPart) e i0)))) ∧ (wrap64 ((v0.length : Int) - (M.takes (nth (t := TPart) e i0))) ≤ (v0.length : Int)) ∧ ((v0.length : Int) ≤ (v0.length : Int)) ∧ ((v0.length : Int) = (v0.length : Int)) ∧ (Sm TPart (nth (t := TPart) e i0)) ∧ (Sm (Ty.sl TColumn) columns) ∧ (Sm (Ty.sl (Ty.int .i64)) (cutList v0 (some (wrap64 ((v0.length : Int) - (M.takes (nth (t := TPart) e i0))), (v0.length : Int))))) ∧ (M.tells (nth (t := TPart) e i0) columns = true) ∧ (((cutList v0 (some (wrap64 ((v0.length : Int) - (M.takes (nth (t := TPart) e i0))), (v0.length : Int)))).length : Int) = M.takes (nth (t := TPart) e i0)) ∧ (∀ r_10_8 : Int × Bool, r_10_8 = (M.partKind (nth (t := TPart) e i0) columns (cutList v0 (some (wrap64 ((v0.length : Int) - (M.takes (nth (t := TPart) e i0))), (v0.length : Int))))) → cond (!r_10_8.2) (K .ret (⟨[(4, .data (Ty.int .i64) (-1 : Int))], []⟩ : St)) ((0 ≤ (0 : Int)) ∧ ((0 : Int) ≤ wrap64 ((v0.length : Int) - (M.takes (nth (t := TPart) e i0)))) ∧ (wrap64 ((v0.length : Int) - (M.takes (nth (t := TPart) e i0))) ≤ (v0.length : Int)) ∧ (wrap64 ((v0.length : Int) - (M.takes (nth (t := TPart) e i0))) = wrap64 ((v0.length : Int) - (M.takes (nth (t := TPart) e i0)))) ∧ ((0 : Int) = 0) ∧ (((wrap64 ((v0.length : Int) - (M.takes (nth (t := TPart) e i0)))).toNat + [r_10_8.1].length) * 8 ≤ lim) ∧ (∃ m_, m_ < m ∧ (L99 columns e) 0 m_ (⟨[(0, .data (Ty.sl TColumn) columns), (5, .own 5 none), (19, .data (Ty.sl TPart) e), (20, .data (Ty.int .i64) (e.length : Int)), (21, .data (Ty.int .i64) (wrap64 (i0 + (1 : Int))))], [(5, .arr (Ty.int .i64) (v0.take (wrap64 ((v0.length : Int) - (M.takes (nth (t := TPart) e i0)))).toNat ++ [r_10_8.1]))]⟩ : St) K))))) (K .ret (⟨[(4, .data (Ty.int .i64) (-1 : Int))], []⟩ : St))) (K (.exit 0) (⟨[(5, .own 5 none)], [(5, .arr (Ty.int .i64) v0)]⟩ : St))) := by kernel_rfl
theorem con99_ok : ConOk P 99 c99 := by
  refine con_okR (fn := Go.Proofs.Tryz.f99) (code := bodyOf Go.Proofs.Tryz.f99) (tab_ok tab_check cmp_check) consOk99 mixed Go.Proofs.Tryz.func99 rfl rfl fun args hp K h0 => ?_
  obtain ⟨a0, a1, rfl, rfl, h1⟩ := args2_elim h0
  obtain ⟨columns, rfl, h2⟩ := withD_elim h1
  obtain ⟨e, rfl, h3⟩ := withD_elim h2
  obtain ⟨h_columns, h_e, hK⟩ := h3
  have h : ok (F.impl_ExprKind columns e) (fun r => K (.data (Ty.int .i64) r) []) := ok_of_eq (F.impl_ExprKind_eq columns e h_columns h_e) hK
  refine ⟨⟨show (2 : Nat) ≤ 67 by decide, show (2 : Nat) ≤ 1000000 by decide⟩, ann99, (L99 columns e), (.dat (Ty.int .i64)), (loopsN1 (i0 := 0) (by kernel_rfl) ?_), ?_⟩
  · clear h
    intro m_ s_ K_ h
    obtain ⟨hc0, i0, v0, rfl, hl0, rfl, hv0, h⟩ := (show LP99_0 columns e m_ s_ K_ from h)
    rw [lvc99_0 columns e i0 v0 _ K_]
    exact (loopE_step (t := TPart) hl0 h (fun ht0 h => ⟨hl0, ⟨ht0, ⟨(sm_nth h_e i0), ⟨(sm_nth h_e i0), ⟨h_columns, (ok_cond h (fun b_37 h => (ok_cond h (fun b_38 h => (have h := ok_ret h; h)) (fun b_38 h => ⟨(ok_guard h).1, have g_39 := (ok_guard h).1; have h := (ok_guard h).2; ⟨(ok_guard h).1, have g_40 := (ok_guard h).1; have h := (ok_guard h).2; ⟨(Int.le_refl _), ⟨rfl, ⟨(sm_nth h_e i0), ⟨h_columns, ⟨(ok_guard h).1, have g_41 := (ok_guard h).1; have h := (ok_guard h).2; ⟨(bnf (bgt b_37)), ⟨(ok_guard h).1, have g_42 := (ok_guard h).1; have h := (ok_guard h).2; (fun r_10_8 e_r_10_8 => have h := ok_let h r_10_8 e_r_10_8; (ok_cond h (fun b_43 h => (have h := ok_ret h; h)) (fun b_43 h => ⟨(Int.natCast_nonneg 0), ⟨(ok_guard h).1, have g_44 := (ok_guard h).1; have h := (ok_guard h).2; ⟨g_40, ⟨rfl, ⟨rfl, ⟨(ok_guard h).1, have g_45 := (ok_guard h).1; have h := (ok_guard h).2; (loopE_next (t := TPart) (fun m hm => (show LP99_0 columns e m _ _ from ⟨hc0, hm⟩)) (v0.take (wrap64 ((v0.length : Int) - (M.takes (nth (t := TPart) e i0)))).toNat ++ [r_10_8.1]) rfl hl0 ht0 (sm_len h_e) trivial (have h := ok_ret h; h))⟩⟩⟩⟩⟩⟩)))⟩⟩⟩⟩⟩⟩⟩⟩⟩))) (fun b_37 h => (have h := ok_ret h; h)))⟩⟩⟩⟩⟩) (fun h => (h trivial)))
  · rw [vc99 columns e K]
    exact ⟨h_columns, (ok_cond h (fun b_1 h => (ok_cond h (fun b_2 h => (have h := ok_ret h; h)) (fun b_2 h => (loopE_start (t := TPart) (fun m hm => ⟨trivial, hm⟩) [] rfl trivial (ok_then h (fun v0 h hv0 => (ok_cond h (fun b_46 h => (have h := ok_ret h; h)) (fun b_46 h => ⟨(Int.natCast_nonneg 0), ⟨(ok_guard h).1, have g_47 := (ok_guard h).1; have h := (ok_guard h).2; (have h := ok_ret h; h)⟩⟩))) (fun q0 h => (have h := ok_ret h; h))))))) (fun b_1 h => (have h := ok_ret h; h)))⟩

/-! 147: loop.example/tablehouse/impl.listOk -/
def c147 : Con := ⟨[.dat TTable, .dat (Ty.sl (Ty.int .i64))], fun args hp K => args2 (fun a0 a1 => withD TTable a0 fun t => withD (Ty.sl (Ty.int .i64)) a1 fun list => (Sm TTable t) ∧ (Sm (Ty.sl (Ty.int .i64)) list) ∧ K (.data Ty.bool (M.listOk t.1 list)) []) args hp⟩
def cons147 : Cons := [(98, c98), (179, c179), (189, c189)]
def inl147 : List (Nat × Inl) := []
@[reducible] def C147 : Ctx := ⟨tab, fun t => memN t cmps, cons147, 14, inl147, 0⟩
theorem consOk147 : ConsOk P C147 := by
  refine consOk_cons (enter_ok (fn := Go.Proofs.Tryz.f98) Go.Proofs.Tryz.func98 (by kernel_rfl) rfl) con98_ok ?_
  refine consOk_cons (enter_ok (fn := Go.Proofs.Tryz.f179) Go.Proofs.Tryz.func179 (by kernel_rfl) rfl) con179_ok ?_
  refine consOk_cons (enter_ok (fn := Go.Proofs.Tryz.f189) Go.Proofs.Tryz.func189 (by kernel_rfl) rfl) con189_ok ?_
  exact consOk_nil
def ann147 : Nat → List Dir
  | 0 => [.fixRow 2 TTable, .keep [1, 2]]
  | 1 => [.keep [4]]
  | _ => []
def L147 (t : (TTable).D) (list : (List Int)) : Loops := fun id m st_ K => match id with
  | _ => False
theorem vc147 (t : (TTable).D) (list : (List Int)) (K : AV → Hp → Prop) : awp C147 (L147 t list) ann147 (bodyOf Go.Proofs.Tryz.f147) ⟨argEnv 0 [.data TTable t, .data (Ty.sl (Ty.int .i64)) list], []⟩ (outK tab Go.Proofs.Tryz.f147.results.toList (hasBox []) (resK (.dat Ty.bool) K)) =
  (cond ((M.inR (list.length : Int) (1 : Int) (4 : Int)) == true) ((((Sm (Ty.sl (Ty.int .i64)) list) ∧ (Sm TTable t) ∧ K (.data Ty.bool (!(List.any list (fun e => !M.inR e 0 (t.1.length - 1))))) []) ∨ False)) (K (.data Ty.bool false) [])) := by kernel_rfl
theorem con147_ok : ConOk P 147 c147 := by
  refine con_okR (fn := Go.Proofs.Tryz.f147) (code := bodyOf Go.Proofs.Tryz.f147) (tab_ok tab_check cmp_check) consOk147 mixed Go.Proofs.Tryz.func147 rfl rfl fun args hp K h0 => ?_
  obtain ⟨a0, a1, rfl, rfl, h1⟩ := args2_elim h0
  obtain ⟨t, rfl, h2⟩ := withD_elim h1
  obtain ⟨list, rfl, h3⟩ := withD_elim h2
  obtain ⟨h_t, h_list, hK⟩ := h3
  have h : ok (F.impl_listOk t list) (fun r => K (.data Ty.bool r) []) := ok_of_eq (F.impl_listOk_eq t list h_t h_list) hK
  refine ⟨⟨show (2 : Nat) ≤ 14 by decide, show (2 : Nat) ≤ 1000000 by decide⟩, ann147, (L147 t list), (.dat Ty.bool), (no_loops (by kernel_rfl)), ?_⟩
  · rw [vc147 t list K]
    exact (ok_cond h (fun b_1 h => (Or.inl (⟨h_list, ⟨h_t, (have h := ok_ret h; h)⟩⟩))) (fun b_1 h => (have h := ok_ret h; h)))

end Go.AE
