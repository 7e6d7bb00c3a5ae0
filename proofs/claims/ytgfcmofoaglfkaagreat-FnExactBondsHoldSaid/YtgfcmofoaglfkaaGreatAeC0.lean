/- Contracts. -/
import Derived.Test.YtgfcmofoaglfkaaGreatAeSeat
import Derived.Test.YtgfcmofoaglfkaaGreatAeEq
import Derived.Test.YtgfcmofoaglfkaaGreatAeInl
namespace Go.AE
open Go Go.RowKit
set_option maxRecDepth 100000
set_option linter.unusedVariables false

/-! 73: loop.example/tablehouse/laws.szColumnS -/
def c73 : Con := ⟨[.dat (Ty.sl TColumn), .dat (Ty.int .i64)], fun args hp K => args2 (fun a0 a1 => withD (Ty.sl TColumn) a0 fun x => withD (Ty.int .i64) a1 fun left => (Ln (Ty.sl TColumn) x) ∧ (0 ≤ left) ∧ (left ≤ 1048576) ∧ K (.data (Ty.int .i64) (M.szLen x.length left)) []) args hp⟩
def cons73 : Cons := []
def inl73 : List (Nat × Inl) := []
@[reducible] def C73 : Ctx := ⟨tab, fun t => memN t cmps, cons73, 12, inl73, 0⟩
theorem consOk73 : ConsOk P C73 := by
  exact consOk_nil
def ann73 : Nat → List Dir
  | 0 => [.keep [0, 1]]
  | 1 => [.keep [1]]
  | 2 => [.keep [1, 10]]
  | 3 => [.keep [4]]
  | 4 => [.keep [4]]
  | _ => []
def L73 (x : (List (TColumn).D)) (left : Int) : Loops := fun id m st_ K => match id with
  | _ => False
theorem vc73 (x : (List (TColumn).D)) (left : Int) (K : AV → Hp → Prop) : awp C73 (L73 x left) ann73 (bodyOf Go.Proofs.Tryz.f73) ⟨argEnv 0 [.data (Ty.sl TColumn) x, .data (Ty.int .i64) left], []⟩ (outK tab Go.Proofs.Tryz.f73.results.toList (hasBox []) (resK (.dat (Ty.int .i64)) K)) =
  (cond (decide (wrap64 (left - (x.length : Int)) < (0 : Int))) (K (.data (Ty.int .i64) (-1 : Int)) []) (K (.data (Ty.int .i64) (wrap64 (left - (x.length : Int)))) [])) := by kernel_rfl
theorem con73_ok : ConOk P 73 c73 := by
  refine con_okR (fn := Go.Proofs.Tryz.f73) (code := bodyOf Go.Proofs.Tryz.f73) (tab_ok tab_check cmp_check) consOk73 mixed Go.Proofs.Tryz.func73 rfl rfl fun args hp K h0 => ?_
  obtain ⟨a0, a1, rfl, rfl, h1⟩ := args2_elim h0
  obtain ⟨x, rfl, h2⟩ := withD_elim h1
  obtain ⟨left, rfl, h3⟩ := withD_elim h2
  obtain ⟨h_x, p0, p1, hK⟩ := h3
  have h : ok (F.laws_szColumnS x left) (fun r => K (.data (Ty.int .i64) r) []) := ok_of_eq (F.laws_szColumnS_eq x left h_x p0 p1) hK
  refine ⟨⟨show (2 : Nat) ≤ 12 by decide, show (2 : Nat) ≤ 1000000 by decide⟩, ann73, (L73 x left), (.dat (Ty.int .i64)), (no_loops (by kernel_rfl)), ?_⟩
  · rw [vc73 x left K]
    exact (ok_cond h (fun b_1 h => (have h := ok_ret h; h)) (fun b_1 h => (have h := ok_ret h; h)))

/-! 155: loop.example/tablehouse/laws.szValue -/
def c155 : Con := ⟨[.dat TValue, .dat (Ty.int .i64)], fun args hp K => args2 (fun a0 a1 => withD TValue a0 fun x => withD (Ty.int .i64) a1 fun left => (Ln TValue x) ∧ (0 ≤ left) ∧ (left ≤ 1048576) ∧ K (.data (Ty.int .i64) (M.szValue x left)) []) args hp⟩
def cons155 : Cons := []
def inl155 : List (Nat × Inl) := []
@[reducible] def C155 : Ctx := ⟨tab, fun t => memN t cmps, cons155, 13, inl155, 0⟩
theorem consOk155 : ConsOk P C155 := by
  exact consOk_nil
def ann155 : Nat → List Dir
  | 0 => [.fixRow 2 TValue, .keep [1, 2]]
  | 1 => [.keep [1]]
  | 2 => [.keep [1, 11]]
  | 3 => [.keep [4]]
  | 4 => [.keep [4]]
  | _ => []
def L155 (x : (TValue).D) (left : Int) : Loops := fun id m st_ K => match id with
  | _ => False
theorem vc155 (x : (TValue).D) (left : Int) (K : AV → Hp → Prop) : awp C155 (L155 x left) ann155 (bodyOf Go.Proofs.Tryz.f155) ⟨argEnv 0 [.data TValue x, .data (Ty.int .i64) left], []⟩ (outK tab Go.Proofs.Tryz.f155.results.toList (hasBox []) (resK (.dat (Ty.int .i64)) K)) =
  (cond (decide (wrap64 (left - (x.2.2.1.size : Int)) < (0 : Int))) (K (.data (Ty.int .i64) (-1 : Int)) []) (K (.data (Ty.int .i64) (wrap64 (left - (x.2.2.1.size : Int)))) [])) := by kernel_rfl
theorem con155_ok : ConOk P 155 c155 := by
  refine con_okR (fn := Go.Proofs.Tryz.f155) (code := bodyOf Go.Proofs.Tryz.f155) (tab_ok tab_check cmp_check) consOk155 mixed Go.Proofs.Tryz.func155 rfl rfl fun args hp K h0 => ?_
  obtain ⟨a0, a1, rfl, rfl, h1⟩ := args2_elim h0
  obtain ⟨x, rfl, h2⟩ := withD_elim h1
  obtain ⟨left, rfl, h3⟩ := withD_elim h2
  obtain ⟨h_x, p0, p1, hK⟩ := h3
  have h : ok (F.laws_szValue x left) (fun r => K (.data (Ty.int .i64) r) []) := ok_of_eq (F.laws_szValue_eq x left h_x p0 p1) hK
  refine ⟨⟨show (2 : Nat) ≤ 13 by decide, show (2 : Nat) ≤ 1000000 by decide⟩, ann155, (L155 x left), (.dat (Ty.int .i64)), (no_loops (by kernel_rfl)), ?_⟩
  · rw [vc155 x left K]
    exact (ok_cond h (fun b_1 h => (have h := ok_ret h; h)) (fun b_1 h => (have h := ok_ret h; h)))

/-! 115: loop.example/tablehouse/laws.szValueS -/
def c115 : Con := ⟨[.dat (Ty.sl TValue), .dat (Ty.int .i64)], fun args hp K => args2 (fun a0 a1 => withD (Ty.sl TValue) a0 fun x => withD (Ty.int .i64) a1 fun left => (Ln (Ty.sl TValue) x) ∧ (0 ≤ left) ∧ (left ≤ 1048576) ∧ K (.data (Ty.int .i64) (M.szS M.szValue x left)) []) args hp⟩
def cons115 : Cons := [(155, c155)]
def inl115 : List (Nat × Inl) := []
@[reducible] def C115 : Ctx := ⟨tab, fun t => memN t cmps, cons115, 27, inl115, 0⟩
theorem consOk115 : ConsOk P C115 := by
  refine consOk_cons (enter_ok (fn := Go.Proofs.Tryz.f155) Go.Proofs.Tryz.func155 (by kernel_rfl) rfl) con155_ok ?_
  exact consOk_nil
def ann115 : Nat → List Dir
  | 0 => [.keep [0, 1]]
  | 1 => [.keep [0, 1]]
  | 2 => [.keep [0, 1, 11]]
  | 3 => [.keep [4]]
  | 4 => [.keep [0, 1, 5]]
  | 5 => [.keep [0, 1, 5, 15]]
  | 6 => [.keep [0, 1, 5]]
  | 7 => [.keep [0, 1, 5]]
  | 8 => [.keep [0, 1, 5, 25]]
  | 9 => [.keep [4]]
  | 10 => [.keep [4]]
  | 100000 => [.keep [1]]
  | _ => []
@[reducible] def LP115_0 (x : (List (TValue).D)) (left : Int) (m : Nat) (st_ : St) (K : X → St → Prop) : Prop := (True) ∧ LoopE (t := TValue) (fun (i0 : Int) (v0 : Int) => (⟨[(0, .data (Ty.sl TValue) x), (1, .data (Ty.int .i64) v0), (5, .data (Ty.int .i64) i0)], []⟩ : St)) x (F.laws_szValueS_l0 x left) (fun v0 : Int => True) (outD (fun v0 : Int => True → K (.exit 0) (⟨[(1, .data (Ty.int .i64) v0)], []⟩ : St)) (fun q0 : Unit => K .ret (⟨[(4, .data (Ty.int .i64) (-1 : Int))], []⟩ : St))) m st_
def L115 (x : (List (TValue).D)) (left : Int) : Loops := fun id m st_ K => match id with
  | 0 => LP115_0 x left m st_ K
  | _ => False
theorem vc115 (x : (List (TValue).D)) (left : Int) (K : AV → Hp → Prop) : awp C115 (L115 x left) ann115 (bodyOf Go.Proofs.Tryz.f115) ⟨argEnv 0 [.data (Ty.sl TValue) x, .data (Ty.int .i64) left], []⟩ (outK tab Go.Proofs.Tryz.f115.results.toList (hasBox []) (resK (.dat (Ty.int .i64)) K)) =
  (cond (decide (wrap64 (left - (x.length : Int)) < (0 : Int))) (K (.data (Ty.int .i64) (-1 : Int)) []) ((∃ m_, (True) ∧ LoopE (t := TValue) (fun (i0 : Int) (v0 : Int) => (⟨[(0, .data (Ty.sl TValue) x), (1, .data (Ty.int .i64) v0), (5, .data (Ty.int .i64) i0)], []⟩ : St)) x (F.laws_szValueS_l0 x left) (fun v0 : Int => True) (outD (fun v0 : Int => True → K (.data (Ty.int .i64) v0) []) (fun q0 : Unit => K (.data (Ty.int .i64) (-1 : Int)) [])) m_ (⟨[(0, .data (Ty.sl TValue) x), (1, .data (Ty.int .i64) (wrap64 (left - (x.length : Int)))), (5, .data (Ty.int .i64) (0 : Int))], []⟩ : St)))) := by kernel_rfl
theorem lvc115_0 (x : (List (TValue).D)) (left : Int)  (i0 : Int) (v0 : Int) (m : Nat) (K : X → St → Prop) : awp C115 (L115 x left) ann115 (loopAt (bodyOf Go.Proofs.Tryz.f115) 0) (⟨[(0, .data (Ty.sl TValue) x), (1, .data (Ty.int .i64) v0), (5, .data (Ty.int .i64) i0)], []⟩ : St) (thenW (fun s' => ∃ m', m' < m ∧ (L115 x left) 0 m' s' K) (exitN 0 (ann115 (behind 0)) K)) =
  (cond (decide (i0 < (x.length : Int))) ((0 ≤ i0) ∧ (i0 < (x.length : Int)) ∧ (Ln TValue (nth (t := TValue) x i0)) ∧ (0 ≤ v0) ∧ (v0 ≤ 1048576) ∧ cond (decide ((M.szValue (nth (t := TValue) x i0) v0) < (0 : Int))) (K .ret (⟨[(4, .data (Ty.int .i64) (-1 : Int))], []⟩ : St)) ((∃ m_, m_ < m ∧ (L115 x left) 0 m_ (⟨[(0, .data (Ty.sl TValue) x), (1, .data (Ty.int .i64) (M.szValue (nth (t := TValue) x i0) v0)), (5, .data (Ty.int .i64) (wrap64 (i0 + (1 : Int))))], []⟩ : St) K))) (K (.exit 0) (⟨[(1, .data (Ty.int .i64) v0)], []⟩ : St))) := by kernel_rfl
theorem con115_ok : ConOk P 115 c115 := by
  refine con_okR (fn := Go.Proofs.Tryz.f115) (code := bodyOf Go.Proofs.Tryz.f115) (tab_ok tab_check cmp_check) consOk115 mixed Go.Proofs.Tryz.func115 rfl rfl fun args hp K h0 => ?_
  obtain ⟨a0, a1, rfl, rfl, h1⟩ := args2_elim h0
  obtain ⟨x, rfl, h2⟩ := withD_elim h1
  obtain ⟨left, rfl, h3⟩ := withD_elim h2
  obtain ⟨h_x, p0, p1, hK⟩ := h3
  have h : ok (F.laws_szValueS x left) (fun r => K (.data (Ty.int .i64) r) []) := ok_of_eq (F.laws_szValueS_eq x left h_x p0 p1) hK
  refine ⟨⟨show (2 : Nat) ≤ 27 by decide, show (2 : Nat) ≤ 1000000 by decide⟩, ann115, (L115 x left), (.dat (Ty.int .i64)), (loopsN1 (i0 := 0) (by kernel_rfl) ?_), ?_⟩
  · clear h
    intro m_ s_ K_ h
    obtain ⟨hc0, i0, v0, rfl, hl0, rfl, hv0, h⟩ := (show LP115_0 x left m_ s_ K_ from h)
    rw [lvc115_0 x left i0 v0 _ K_]
    exact (loopE_step (t := TValue) hl0 h (fun ht0 h => ⟨hl0, ⟨ht0, ⟨(sm_nth h_x i0), ⟨(ok_guard h).1, have g_14 := (ok_guard h).1; have h := (ok_guard h).2; ⟨(ok_guard h).1, have g_15 := (ok_guard h).1; have h := (ok_guard h).2; (ok_cond h (fun b_16 h => (have h := ok_ret h; h)) (fun b_16 h => (loopE_next (t := TValue) (fun m hm => (show LP115_0 x left m _ _ from ⟨hc0, hm⟩)) (M.szValue (nth (t := TValue) x i0) v0) rfl hl0 ht0 (sm_len h_x) trivial (have h := ok_ret h; h))))⟩⟩⟩⟩⟩) (fun h => (h trivial)))
  · rw [vc115 x left K]
    exact (ok_cond h (fun b_1 h => (have h := ok_ret h; h)) (fun b_1 h => (loopE_start (t := TValue) (fun m hm => ⟨trivial, hm⟩) (wrap64 (left - (x.length : Int))) rfl trivial (ok_then h (fun v0 h hv0 => (have h := ok_ret h; h)) (fun q0 h => (have h := ok_ret h; h))))))

/-! 74: loop.example/tablehouse/laws.szValueSS -/
def c74 : Con := ⟨[.dat (Ty.sl (Ty.sl TValue)), .dat (Ty.int .i64)], fun args hp K => args2 (fun a0 a1 => withD (Ty.sl (Ty.sl TValue)) a0 fun x => withD (Ty.int .i64) a1 fun left => (Ln (Ty.sl (Ty.sl TValue)) x) ∧ (0 ≤ left) ∧ (left ≤ 1048576) ∧ K (.data (Ty.int .i64) (M.szS (M.szS M.szValue) x left)) []) args hp⟩
def cons74 : Cons := [(115, c115)]
def inl74 : List (Nat × Inl) := []
@[reducible] def C74 : Ctx := ⟨tab, fun t => memN t cmps, cons74, 27, inl74, 0⟩
theorem consOk74 : ConsOk P C74 := by
  refine consOk_cons (enter_ok (fn := Go.Proofs.Tryz.f115) Go.Proofs.Tryz.func115 (by kernel_rfl) rfl) con115_ok ?_
  exact consOk_nil
def ann74 : Nat → List Dir
  | 0 => [.keep [0, 1]]
  | 1 => [.keep [0, 1]]
  | 2 => [.keep [0, 1, 11]]
  | 3 => [.keep [4]]
  | 4 => [.keep [0, 1, 5]]
  | 5 => [.keep [0, 1, 5, 15]]
  | 6 => [.keep [0, 1, 5]]
  | 7 => [.keep [0, 1, 5]]
  | 8 => [.keep [0, 1, 5, 25]]
  | 9 => [.keep [4]]
  | 10 => [.keep [4]]
  | 100000 => [.keep [1]]
  | _ => []
@[reducible] def LP74_0 (x : (List (List (TValue).D))) (left : Int) (m : Nat) (st_ : St) (K : X → St → Prop) : Prop := (True) ∧ LoopE (t := (Ty.sl TValue)) (fun (i0 : Int) (v0 : Int) => (⟨[(0, .data (Ty.sl (Ty.sl TValue)) x), (1, .data (Ty.int .i64) v0), (5, .data (Ty.int .i64) i0)], []⟩ : St)) x (F.laws_szValueSS_l0 x left) (fun v0 : Int => True) (outD (fun v0 : Int => True → K (.exit 0) (⟨[(1, .data (Ty.int .i64) v0)], []⟩ : St)) (fun q0 : Unit => K .ret (⟨[(4, .data (Ty.int .i64) (-1 : Int))], []⟩ : St))) m st_
def L74 (x : (List (List (TValue).D))) (left : Int) : Loops := fun id m st_ K => match id with
  | 0 => LP74_0 x left m st_ K
  | _ => False
theorem vc74 (x : (List (List (TValue).D))) (left : Int) (K : AV → Hp → Prop) : awp C74 (L74 x left) ann74 (bodyOf Go.Proofs.Tryz.f74) ⟨argEnv 0 [.data (Ty.sl (Ty.sl TValue)) x, .data (Ty.int .i64) left], []⟩ (outK tab Go.Proofs.Tryz.f74.results.toList (hasBox []) (resK (.dat (Ty.int .i64)) K)) =
  (cond (decide (wrap64 (left - (x.length : Int)) < (0 : Int))) (K (.data (Ty.int .i64) (-1 : Int)) []) ((∃ m_, (True) ∧ LoopE (t := (Ty.sl TValue)) (fun (i0 : Int) (v0 : Int) => (⟨[(0, .data (Ty.sl (Ty.sl TValue)) x), (1, .data (Ty.int .i64) v0), (5, .data (Ty.int .i64) i0)], []⟩ : St)) x (F.laws_szValueSS_l0 x left) (fun v0 : Int => True) (outD (fun v0 : Int => True → K (.data (Ty.int .i64) v0) []) (fun q0 : Unit => K (.data (Ty.int .i64) (-1 : Int)) [])) m_ (⟨[(0, .data (Ty.sl (Ty.sl TValue)) x), (1, .data (Ty.int .i64) (wrap64 (left - (x.length : Int)))), (5, .data (Ty.int .i64) (0 : Int))], []⟩ : St)))) := by kernel_rfl
theorem lvc74_0 (x : (List (List (TValue).D))) (left : Int)  (i0 : Int) (v0 : Int) (m : Nat) (K : X → St → Prop) : awp C74 (L74 x left) ann74 (loopAt (bodyOf Go.Proofs.Tryz.f74) 0) (⟨[(0, .data (Ty.sl (Ty.sl TValue)) x), (1, .data (Ty.int .i64) v0), (5, .data (Ty.int .i64) i0)], []⟩ : St) (thenW (fun s' => ∃ m', m' < m ∧ (L74 x left) 0 m' s' K) (exitN 0 (ann74 (behind 0)) K)) =
  (cond (decide (i0 < (x.length : Int))) ((0 ≤ i0) ∧ (i0 < (x.length : Int)) ∧ (Ln (Ty.sl TValue) (nth (t := (Ty.sl TValue)) x i0)) ∧ (0 ≤ v0) ∧ (v0 ≤ 1048576) ∧ cond (decide ((M.szS M.szValue (nth (t := (Ty.sl TValue)) x i0) v0) < (0 : Int))) (K .ret (⟨[(4, .data (Ty.int .i64) (-1 : Int))], []⟩ : St)) ((∃ m_, m_ < m ∧ (L74 x left) 0 m_ (⟨[(0, .data (Ty.sl (Ty.sl TValue)) x), (1, .data (Ty.int .i64) (M.szS M.szValue (nth (t := (Ty.sl TValue)) x i0) v0)), (5, .data (Ty.int .i64) (wrap64 (i0 + (1 : Int))))], []⟩ : St) K))) (K (.exit 0) (⟨[(1, .data (Ty.int .i64) v0)], []⟩ : St))) := by kernel_rfl
theorem con74_ok : ConOk P 74 c74 := by
  refine con_okR (fn := Go.Proofs.Tryz.f74) (code := bodyOf Go.Proofs.Tryz.f74) (tab_ok tab_check cmp_check) consOk74 mixed Go.Proofs.Tryz.func74 rfl rfl fun args hp K h0 => ?_
  obtain ⟨a0, a1, rfl, rfl, h1⟩ := args2_elim h0
  obtain ⟨x, rfl, h2⟩ := withD_elim h1
  obtain ⟨left, rfl, h3⟩ := withD_elim h2
  obtain ⟨h_x, p0, p1, hK⟩ := h3
  have h : ok (F.laws_szValueSS x left) (fun r => K (.data (Ty.int .i64) r) []) := ok_of_eq (F.laws_szValueSS_eq x left h_x p0 p1) hK
  refine ⟨⟨show (2 : Nat) ≤ 27 by decide, show (2 : Nat) ≤ 1000000 by decide⟩, ann74, (L74 x left), (.dat (Ty.int .i64)), (loopsN1 (i0 := 0) (by kernel_rfl) ?_), ?_⟩
  · clear h
    intro m_ s_ K_ h
    obtain ⟨hc0, i0, v0, rfl, hl0, rfl, hv0, h⟩ := (show LP74_0 x left m_ s_ K_ from h)
    rw [lvc74_0 x left i0 v0 _ K_]
    exact (loopE_step (t := (Ty.sl TValue)) hl0 h (fun ht0 h => ⟨hl0, ⟨ht0, ⟨(sm_nth h_x i0), ⟨(ok_guard h).1, have g_14 := (ok_guard h).1; have h := (ok_guard h).2; ⟨(ok_guard h).1, have g_15 := (ok_guard h).1; have h := (ok_guard h).2; (ok_cond h (fun b_16 h => (have h := ok_ret h; h)) (fun b_16 h => (loopE_next (t := (Ty.sl TValue)) (fun m hm => (show LP74_0 x left m _ _ from ⟨hc0, hm⟩)) (M.szS M.szValue (nth (t := (Ty.sl TValue)) x i0) v0) rfl hl0 ht0 (sm_len h_x) trivial (have h := ok_ret h; h))))⟩⟩⟩⟩⟩) (fun h => (h trivial)))
  · rw [vc74 x left K]
    exact (ok_cond h (fun b_1 h => (have h := ok_ret h; h)) (fun b_1 h => (loopE_start (t := (Ty.sl TValue)) (fun m hm => ⟨trivial, hm⟩) (wrap64 (left - (x.length : Int))) rfl trivial (ok_then h (fun v0 h hv0 => (have h := ok_ret h; h)) (fun q0 h => (have h := ok_ret h; h))))))

/-! 35: loop.example/tablehouse/laws.szTable -/
def c35 : Con := ⟨[.dat TTable, .dat (Ty.int .i64)], fun args hp K => args2 (fun a0 a1 => withD TTable a0 fun x => withD (Ty.int .i64) a1 fun left => (Ln TTable x) ∧ (0 ≤ left) ∧ (left ≤ 1048576) ∧ K (.data (Ty.int .i64) (M.szTable x left)) []) args hp⟩
def cons35 : Cons := [(73, c73), (74, c74)]
def inl35 : List (Nat × Inl) := []
@[reducible] def C35 : Ctx := ⟨tab, fun t => memN t cmps, cons35, 18, inl35, 0⟩
theorem consOk35 : ConsOk P C35 := by
  refine consOk_cons (enter_ok (fn := Go.Proofs.Tryz.f73) Go.Proofs.Tryz.func73 (by kernel_rfl) rfl) con73_ok ?_
  refine consOk_cons (enter_ok (fn := Go.Proofs.Tryz.f74) Go.Proofs.Tryz.func74 (by kernel_rfl) rfl) con74_ok ?_
  exact consOk_nil
def ann35 : Nat → List Dir
  | 0 => [.fixRow 2 TTable, .keep [1, 2]]
  | 1 => [.keep [1, 2]]
  | 2 => [.keep [1, 2, 10]]
  | 3 => [.keep [4]]
  | 4 => [.keep [1]]
  | 5 => [.keep [1, 16]]
  | 6 => [.keep [4]]
  | 7 => [.keep [4]]
  | _ => []
def L35 (x : (TTable).D) (left : Int) : Loops := fun id m st_ K => match id with
  | _ => False
theorem vc35 (x : (TTable).D) (left : Int) (K : AV → Hp → Prop) : awp C35 (L35 x left) ann35 (bodyOf Go.Proofs.Tryz.f35) ⟨argEnv 0 [.data TTable x, .data (Ty.int .i64) left], []⟩ (outK tab Go.Proofs.Tryz.f35.results.toList (hasBox []) (resK (.dat (Ty.int .i64)) K)) =
  ((Ln (Ty.sl TColumn) x.1) ∧ (0 ≤ left) ∧ (left ≤ 1048576) ∧ cond (decide ((M.szLen x.1.length left) < (0 : Int))) (K (.data (Ty.int .i64) (-1 : Int)) []) ((Ln (Ty.sl (Ty.sl TValue)) x.2.1) ∧ (0 ≤ (M.szLen x.1.length left)) ∧ ((M.szLen x.1.length left) ≤ 1048576) ∧ cond (decide ((M.szS (M.szS M.szValue) x.2.1 (M.szLen x.1.length left)) < (0 : Int))) (K (.data (Ty.int .i64) (-1 : Int)) []) (K (.data (Ty.int .i64) (M.szS (M.szS M.szValue) x.2.1 (M.szLen x.1.length left))) []))) := by kernel_rfl
theorem con35_ok : ConOk P 35 c35 := by
  refine con_okR (fn := Go.Proofs.Tryz.f35) (code := bodyOf Go.Proofs.Tryz.f35) (tab_ok tab_check cmp_check) consOk35 mixed Go.Proofs.Tryz.func35 rfl rfl fun args hp K h0 => ?_
  obtain ⟨a0, a1, rfl, rfl, h1⟩ := args2_elim h0
  obtain ⟨x, rfl, h2⟩ := withD_elim h1
  obtain ⟨left, rfl, h3⟩ := withD_elim h2
  obtain ⟨h_x, p0, p1, hK⟩ := h3
  have h : ok (F.laws_szTable x left) (fun r => K (.data (Ty.int .i64) r) []) := ok_of_eq (F.laws_szTable_eq x left h_x p0 p1) hK
  refine ⟨⟨show (2 : Nat) ≤ 18 by decide, show (2 : Nat) ≤ 1000000 by decide⟩, ann35, (L35 x left), (.dat (Ty.int .i64)), (no_loops (by kernel_rfl)), ?_⟩
  · rw [vc35 x left K]
    exact ⟨h_x.1, ⟨p0, ⟨p1, (ok_cond h (fun b_1 h => (have h := ok_ret h; h)) (fun b_1 h => ⟨h_x.2.1, ⟨(ok_guard h).1, have g_2 := (ok_guard h).1; have h := (ok_guard h).2; ⟨(ok_guard h).1, have g_3 := (ok_guard h).1; have h := (ok_guard h).2; (ok_cond h (fun b_4 h => (have h := ok_ret h; h)) (fun b_4 h => (have h := ok_ret h; h)))⟩⟩⟩))⟩⟩⟩

/-! 7: loop.example/tablehouse/laws.szTableS -/
def c7 : Con := ⟨[.dat (Ty.sl TTable), .dat (Ty.int .i64)], fun args hp K => args2 (fun a0 a1 => withD (Ty.sl TTable) a0 fun x => withD (Ty.int .i64) a1 fun left => (Ln (Ty.sl TTable) x) ∧ (0 ≤ left) ∧ (left ≤ 1048576) ∧ K (.data (Ty.int .i64) (M.szS M.szTable x left)) []) args hp⟩
def cons7 : Cons := [(35, c35)]
def inl7 : List (Nat × Inl) := []
@[reducible] def C7 : Ctx := ⟨tab, fun t => memN t cmps, cons7, 27, inl7, 0⟩
theorem consOk7 : ConsOk P C7 := by
  refine consOk_cons (enter_ok (fn := Go.Proofs.Tryz.f35) Go.Proofs.Tryz.func35 (by kernel_rfl) rfl) con35_ok ?_
  exact consOk_nil
def ann7 : Nat → List Dir
  | 0 => [.keep [0, 1]]
  | 1 => [.keep [0, 1]]
  | 2 => [.keep [0, 1, 11]]
  | 3 => [.keep [4]]
  | 4 => [.keep [0, 1, 5]]
  | 5 => [.keep [0, 1, 5, 15]]
  | 6 => [.keep [0, 1, 5]]
  | 7 => [.keep [0, 1, 5]]
  | 8 => [.keep [0, 1, 5, 25]]
  | 9 => [.keep [4]]
  | 10 => [.keep [4]]
  | 100000 => [.keep [1]]
  | _ => []
@[reducible] def LP7_0 (x : (List (TTable).D)) (left : Int) (m : Nat) (st_ : St) (K : X → St → Prop) : Prop := (True) ∧ LoopE (t := TTable) (fun (i0 : Int) (v0 : Int) => (⟨[(0, .data (Ty.sl TTable) x), (1, .data (Ty.int .i64) v0), (5, .data (Ty.int .i64) i0)], []⟩ : St)) x (F.laws_szTableS_l0 x left) (fun v0 : Int => True) (outD (fun v0 : Int => True → K (.exit 0) (⟨[(1, .data (Ty.int .i64) v0)], []⟩ : St)) (fun q0 : Unit => K .ret (⟨[(4, .data (Ty.int .i64) (-1 : Int))], []⟩ : St))) m st_
def L7 (x : (List (TTable).D)) (left : Int) : Loops := fun id m st_ K => match id with
  | 0 => LP7_0 x left m st_ K
  | _ => False
theorem vc7 (x : (List (TTable).D)) (left : Int) (K : AV → Hp → Prop) : awp C7 (L7 x left) ann7 (bodyOf Go.Proofs.Tryz.f7) ⟨argEnv 0 [.data (Ty.sl TTable) x, .data (Ty.int .i64) left], []⟩ (outK tab Go.Proofs.Tryz.f7.results.toList (hasBox []) (resK (.dat (Ty.int .i64)) K)) =
  (cond (decide (wrap64 (left - (x.length : Int)) < (0 : Int))) (K (.data (Ty.int .i64) (-1 : Int)) []) ((∃ m_, (True) ∧ LoopE (t := TTable) (fun (i0 : Int) (v0 : Int) => (⟨[(0, .data (Ty.sl TTable) x), (1, .data (Ty.int .i64) v0), (5, .data (Ty.int .i64) i0)], []⟩ : St)) x (F.laws_szTableS_l0 x left) (fun v0 : Int => True) (outD (fun v0 : Int => True → K (.data (Ty.int .i64) v0) []) (fun q0 : Unit => K (.data (Ty.int .i64) (-1 : Int)) [])) m_ (⟨[(0, .data (Ty.sl TTable) x), (1, .data (Ty.int .i64) (wrap64 (left - (x.length : Int)))), (5, .data (Ty.int .i64) (0 : Int))], []⟩ : St)))) := by kernel_rfl
theorem lvc7_0 (x : (List (TTable).D)) (left : Int)  (i0 : Int) (v0 : Int) (m : Nat) (K : X → St → Prop) : awp C7 (L7 x left) ann7 (loopAt (bodyOf Go.Proofs.Tryz.f7) 0) (⟨[(0, .data (Ty.sl TTable) x), (1, .data (Ty.int .i64) v0), (5, .data (Ty.int .i64) i0)], []⟩ : St) (thenW (fun s' => ∃ m', m' < m ∧ (L7 x left) 0 m' s' K) (exitN 0 (ann7 (behind 0)) K)) =
  (cond (decide (i0 < (x.length : Int))) ((0 ≤ i0) ∧ (i0 < (x.length : Int)) ∧ (Ln TTable (nth (t := TTable) x i0)) ∧ (0 ≤ v0) ∧ (v0 ≤ 1048576) ∧ cond (decide ((M.szTable (nth (t := TTable) x i0) v0) < (0 : Int))) (K .ret (⟨[(4, .data (Ty.int .i64) (-1 : Int))], []⟩ : St)) ((∃ m_, m_ < m ∧ (L7 x left) 0 m_ (⟨[(0, .data (Ty.sl TTable) x), (1, .data (Ty.int .i64) (M.szTable (nth (t := TTable) x i0) v0)), (5, .data (Ty.int .i64) (wrap64 (i0 + (1 : Int))))], []⟩ : St) K))) (K (.exit 0) (⟨[(1, .data (Ty.int .i64) v0)], []⟩ : St))) := by kernel_rfl
theorem con7_ok : ConOk P 7 c7 := by
  refine con_okR (fn := Go.Proofs.Tryz.f7) (code := bodyOf Go.Proofs.Tryz.f7) (tab_ok tab_check cmp_check) consOk7 mixed Go.Proofs.Tryz.func7 rfl rfl fun args hp K h0 => ?_
  obtain ⟨a0, a1, rfl, rfl, h1⟩ := args2_elim h0
  obtain ⟨x, rfl, h2⟩ := withD_elim h1
  obtain ⟨left, rfl, h3⟩ := withD_elim h2
  obtain ⟨h_x, p0, p1, hK⟩ := h3
  have h : ok (F.laws_szTableS x left) (fun r => K (.data (Ty.int .i64) r) []) := ok_of_eq (F.laws_szTableS_eq x left h_x p0 p1) hK
  refine ⟨⟨show (2 : Nat) ≤ 27 by decide, show (2 : Nat) ≤ 1000000 by decide⟩, ann7, (L7 x left), (.dat (Ty.int .i64)), (loopsN1 (i0 := 0) (by kernel_rfl) ?_), ?_⟩
  · clear h
    intro m_ s_ K_ h
    obtain ⟨hc0, i0, v0, rfl, hl0, rfl, hv0, h⟩ := (show LP7_0 x left m_ s_ K_ from h)
    rw [lvc7_0 x left i0 v0 _ K_]
    exact (loopE_step (t := TTable) hl0 h (fun ht0 h => ⟨hl0, ⟨ht0, ⟨(sm_nth h_x i0), ⟨(ok_guard h).1, have g_14 := (ok_guard h).1; have h := (ok_guard h).2; ⟨(ok_guard h).1, have g_15 := (ok_guard h).1; have h := (ok_guard h).2; (ok_cond h (fun b_16 h => (have h := ok_ret h; h)) (fun b_16 h => (loopE_next (t := TTable) (fun m hm => (show LP7_0 x left m _ _ from ⟨hc0, hm⟩)) (M.szTable (nth (t := TTable) x i0) v0) rfl hl0 ht0 (sm_len h_x) trivial (have h := ok_ret h; h))))⟩⟩⟩⟩⟩) (fun h => (h trivial)))
  · rw [vc7 x left K]
    exact (ok_cond h (fun b_1 h => (have h := ok_ret h; h)) (fun b_1 h => (loopE_start (t := TTable) (fun m hm => ⟨trivial, hm⟩) (wrap64 (left - (x.length : Int))) rfl trivial (ok_then h (fun v0 h hv0 => (have h := ok_ret h; h)) (fun q0 h => (have h := ok_ret h; h))))))

/-! 120: loop.example/tablehouse/laws.toColumn -/
def c120 : Con := ⟨[.dat TColumn], fun args hp K => args1 (fun a0 => withD TColumn a0 fun x => (∀ r : (TColumn).D, r = (x) → K (.data TColumn r) [])) args hp⟩
def cons120 : Cons := []
def inl120 : List (Nat × Inl) := []
@[reducible] def C120 : Ctx := ⟨tab, fun t => memN t cmps, cons120, 11, inl120, 0⟩
theorem consOk120 : ConsOk P C120 := by
  exact consOk_nil
def ann120 : Nat → List Dir
  | 0 => [.fixRow 1 TColumn, .keep [1, 2]]
  | 1 => [.keep [1, 2, 3]]
  | 2 => [.keep [1, 2, 3]]
  | 3 => [.keep [2, 3]]
  | 4 => [.keep [2]]
  | _ => []
def L120 (x : (TColumn).D) : Loops := fun id m st_ K => match id with
  | _ => False
theorem vc120 (x : (TColumn).D) (K : AV → Hp → Prop) : awp C120 (L120 x) ann120 (bodyOf Go.Proofs.Tryz.f120) ⟨argEnv 0 [.data TColumn x], []⟩ (outK tab Go.Proofs.Tryz.f120.results.toList (hasBox []) (resK (.dat TColumn) K)) =
  (K (.data TColumn x) []) := by kernel_rfl
theorem con120_ok : ConOk P 120 c120 := by
  refine con_okR (fn := Go.Proofs.Tryz.f120) (code := bodyOf Go.Proofs.Tryz.f120) (tab_ok tab_check cmp_check) consOk120 mixed Go.Proofs.Tryz.func120 rfl rfl fun args hp K h0 => ?_
  obtain ⟨a0, rfl, rfl, h1⟩ := args1_elim h0
  obtain ⟨x, rfl, h2⟩ := withD_elim h1
  have hK := h2
  have h : ok (F.laws_toColumn x) (fun r => K (.data TColumn r) []) := ok_of_eq (F.laws_toColumn_eq x) (hK _ rfl)
  refine ⟨⟨show (1 : Nat) ≤ 11 by decide, show (1 : Nat) ≤ 1000000 by decide⟩, ann120, (L120 x), (.dat TColumn), (no_loops (by kernel_rfl)), ?_⟩
  · rw [vc120 x K]
    exact (have h := ok_ret h; h)

/-! 80: loop.example/tablehouse/laws.toColumnS -/
def c80 : Con := ⟨[.dat (Ty.sl TColumn)], fun args hp K => args1 (fun a0 => withD (Ty.sl TColumn) a0 fun x => (Sm (Ty.sl TColumn) x) ∧ (∀ r : (List (TColumn).D), r = (x) → K (.own 0 none) [(0, .arr TColumn r)])) args hp⟩
def cons80 : Cons := [(120, c120)]
def inl80 : List (Nat × Inl) := []
@[reducible] def C80 : Ctx := ⟨tab, fun t => memN t cmps, cons80, 23, inl80, 0⟩
theorem consOk80 : ConsOk P C80 := by
  refine consOk_cons (enter_ok (fn := Go.Proofs.Tryz.f120) Go.Proofs.Tryz.func120 (by kernel_rfl) rfl) con120_ok ?_
  exact consOk_nil
def ann80 : Nat → List Dir
  | 0 => [.keep [0]]
  | 1 => [.keep [0, 3]]
  | 2 => [.keep [0, 3, 4]]
  | 3 => [.keep [0, 3, 4, 11]]
  | 4 => [.keep [0, 3, 4]]
  | 5 => [.keep [0, 3, 4]]
  | 6 => [.keep [2]]
  | 100000 => [.keep [3]]
  | _ => []
@[reducible] def LP80_0 (x : (List (TColumn).D)) (m : Nat) (st_ : St) (K : X → St → Prop) : Prop := (True) ∧ LoopI (fun (i0 : Int) (v0 : (List (TColumn).D)) => (⟨[(0, .data (Ty.sl TColumn) x), (3, .own 7 none), (4, .data (Ty.int .i64) i0)], [(7, .arr TColumn v0)]⟩ : St)) (0 : Int) (x.length : Int) (F.laws_toColumnS_l0 x) (fun v0 : (List (TColumn).D) => True) (outD (fun v0 : (List (TColumn).D) => True → K (.exit 0) (⟨[(3, .own 7 none)], [(7, .arr TColumn v0)]⟩ : St)) (fun _ => False)) m st_
def L80 (x : (List (TColumn).D)) : Loops := fun id m st_ K => match id with
  | 0 => LP80_0 x m st_ K
  | _ => False
theorem vc80 (x : (List (TColumn).D)) (K : AV → Hp → Prop) : awp C80 (L80 x) ann80 (bodyOf Go.Proofs.Tryz.f80) ⟨argEnv 0 [.data (Ty.sl TColumn) x], []⟩ (outK tab Go.Proofs.Tryz.f80.results.toList (hasBox []) (resK .raw K)) =
  (((x.length : Int) = (x.length : Int)) ∧ (0 ≤ (x.length : Int)) ∧ ((x.length : Int) * 16 ≤ (lim : Int)) ∧ (∃ m_, (True) ∧ LoopI (fun (i0 : Int) (v0 : (List (TColumn).D)) => (⟨[(0, .data (Ty.sl TColumn) x), (3, .own 7 none), (4, .data (Ty.int .i64) i0)], [(7, .arr TColumn v0)]⟩ : St)) (0 : Int) (x.length : Int) (F.laws_toColumnS_l0 x) (fun v0 : (List (TColumn).D) => True) (outD (fun v0 : (List (TColumn).D) => True → K (.own 0 none) [(0, .arr TColumn v0)]) (fun _ => False)) m_ (⟨[(0, .data (Ty.sl TColumn) x), (3, .own 7 none), (4, .data (Ty.int .i64) (0 : Int))], [(7, .arr TColumn (List.replicate (x.length : Int).toNat ((0 : Int), (false, ()))))]⟩ : St))) := by kernel_rfl
theorem lvc80_0 (x : (List (TColumn).D))  (i0 : Int) (v0 : (List (TColumn).D)) (m : Nat) (K : X → St → Prop) : awp C80 (L80 x) ann80 (loopAt (bodyOf Go.Proofs.Tryz.f80) 0) (⟨[(0, .data (Ty.sl TColumn) x), (3, .own 7 none), (4, .data (Ty.int .i64) i0)], [(7, .arr TColumn v0)]⟩ : St) (thenW (fun s' => ∃ m', m' < m ∧ (L80 x) 0 m' s' K) (exitN 0 (ann80 (behind 0)) K)) =
  (cond (decide (i0 < (x.length : Int))) ((0 ≤ i0) ∧ (i0 < (x.length : Int)) ∧ (∀ r_5_6 : (TColumn).D, r_5_6 = ((nth (t := TColumn) x i0)) → (0 ≤ i0) ∧ (i0 < (v0.length : Int)) ∧ (∃ m_, m_ < m ∧ (L80 x) 0 m_ (⟨[(0, .data (Ty.sl TColumn) x), (3, .own 7 none), (4, .data (Ty.int .i64) (wrap64 (i0 + (1 : Int))))], [(7, .arr TColumn (v0.set i0.toNat r_5_6))]⟩ : St) K))) (K (.exit 0) (⟨[(3, .own 7 none)], [(7, .arr TColumn v0)]⟩ : St))) := by kernel_rfl
theorem con80_ok : ConOk P 80 c80 := by
  refine con_okR (fn := Go.Proofs.Tryz.f80) (code := bodyOf Go.Proofs.Tryz.f80) (tab_ok tab_check cmp_check) consOk80 mixed Go.Proofs.Tryz.func80 rfl rfl fun args hp K h0 => ?_
  obtain ⟨a0, rfl, rfl, h1⟩ := args1_elim h0
  obtain ⟨x, rfl, h2⟩ := withD_elim h1
  obtain ⟨h_x, hK⟩ := h2
  have h : ok (F.laws_toColumnS x) (fun r => K (.own 0 none) [(0, .arr TColumn r)]) := ok_of_eq (F.laws_toColumnS_eq x h_x) (hK _ rfl)
  refine ⟨⟨show (1 : Nat) ≤ 23 by decide, show (1 : Nat) ≤ 1000000 by decide⟩, ann80, (L80 x), .raw, (loopsN1 (i0 := 0) (by kernel_rfl) ?_), ?_⟩
  · clear h
    intro m_ s_ K_ h
    obtain ⟨hc0, i0, v0, rfl, hl0, rfl, hv0, h⟩ := (show LP80_0 x m_ s_ K_ from h)
    rw [lvc80_0 x i0 v0 _ K_]
    exact (loopI_step h (fun ht0 h => ⟨hl0, ⟨ht0, (fun r_5_6 e_r_5_6 => have h := ok_let h r_5_6 e_r_5_6; ⟨hl0, ⟨(ok_guard h).1, have g_13 := (ok_guard h).1; have h := (ok_guard h).2; (loopI_next (fun m hm => (show LP80_0 x m _ _ from ⟨hc0, hm⟩)) (v0.set i0.toNat r_5_6) rfl hl0 low0 ht0 (sm_len h_x) trivial (have h := ok_ret h; h))⟩⟩)⟩⟩) (fun h => (h trivial)))
  · rw [vc80 x K]
    exact ⟨rfl, ⟨(Int.natCast_nonneg _), ⟨(sm_limI h_x rfl), (loopI_start (fun m hm => ⟨trivial, hm⟩) (0 : Int) (List.replicate (x.length : Int).toNat ((0 : Int), (false, ()))) rfl (Int.natCast_nonneg 0) trivial (ok_then h (fun v0 h hv0 => (have h := ok_ret h; h)) (fun _ h => h.elim)))⟩⟩⟩

/-! 158: loop.example/tablehouse/laws.toValue -/
def c158 : Con := ⟨[.dat TValue], fun args hp K => args1 (fun a0 => withD TValue a0 fun x => (Sm TValue x) ∧ (∀ r : (TValue).D, r = (x) → K (.data TValue r) [])) args hp⟩
def cons158 : Cons := []
def inl158 : List (Nat × Inl) := []
@[reducible] def C158 : Ctx := ⟨tab, fun t => memN t cmps, cons158, 14, inl158, 0⟩
theorem consOk158 : ConsOk P C158 := by
  exact consOk_nil
def ann158 : Nat → List Dir
  | 0 => [.fixRow 1 TValue, .keep [1, 2]]
  | 1 => [.keep [1, 2, 3]]
  | 2 => [.keep [1, 2, 3]]
  | 3 => [.keep [1, 2, 3]]
  | 4 => [.keep [2, 3]]
  | 5 => [.keep [2]]
  | _ => []
def L158 (x : (TValue).D) : Loops := fun id m st_ K => match id with
  | _ => False
theorem vc158 (x : (TValue).D) (K : AV → Hp → Prop) : awp C158 (L158 x) ann158 (bodyOf Go.Proofs.Tryz.f158) ⟨argEnv 0 [.data TValue x], []⟩ (outK tab Go.Proofs.Tryz.f158.results.toList (hasBox []) (resK (.dat TValue) K)) =
  (K (.data TValue x) []) := by kernel_rfl
theorem con158_ok : ConOk P 158 c158 := by
  refine con_okR (fn := Go.Proofs.Tryz.f158) (code := bodyOf Go.Proofs.Tryz.f158) (tab_ok tab_check cmp_check) consOk158 mixed Go.Proofs.Tryz.func158 rfl rfl fun args hp K h0 => ?_
  obtain ⟨a0, rfl, rfl, h1⟩ := args1_elim h0
  obtain ⟨x, rfl, h2⟩ := withD_elim h1
  obtain ⟨h_x, hK⟩ := h2
  have h : ok (F.laws_toValue x) (fun r => K (.data TValue r) []) := ok_of_eq (F.laws_toValue_eq x h_x) (hK _ rfl)
  refine ⟨⟨show (1 : Nat) ≤ 14 by decide, show (1 : Nat) ≤ 1000000 by decide⟩, ann158, (L158 x), (.dat TValue), (no_loops (by kernel_rfl)), ?_⟩
  · rw [vc158 x K]
    exact (have h := ok_ret h; h)

/-! 121: loop.example/tablehouse/laws.toValueS -/
def c121 : Con := ⟨[.dat (Ty.sl TValue)], fun args hp K => args1 (fun a0 => withD (Ty.sl TValue) a0 fun x => (Sm (Ty.sl TValue) x) ∧ (∀ r : (List (TValue).D), r = (x) → K (.own 0 none) [(0, .arr TValue r)])) args hp⟩
def cons121 : Cons := [(158, c158)]
def inl121 : List (Nat × Inl) := []
@[reducible] def C121 : Ctx := ⟨tab, fun t => memN t cmps, cons121, 23, inl121, 0⟩
theorem consOk121 : ConsOk P C121 := by
  refine consOk_cons (enter_ok (fn := Go.Proofs.Tryz.f158) Go.Proofs.Tryz.func158 (by kernel_rfl) rfl) con158_ok ?_
  exact consOk_nil
def ann121 : Nat → List Dir
  | 0 => [.keep [0]]
  | 1 => [.keep [0, 3]]
  | 2 => [.keep [0, 3, 4]]
  | 3 => [.keep [0, 3, 4, 11]]
  | 4 => [.keep [0, 3, 4]]
  | 5 => [.keep [0, 3, 4]]
  | 6 => [.keep [2]]
  | 100000 => [.keep [3]]
  | _ => []
@[reducible] def LP121_0 (x : (List (TValue).D)) (m : Nat) (st_ : St) (K : X → St → Prop) : Prop := (True) ∧ LoopI (fun (i0 : Int) (v0 : (List (TValue).D)) => (⟨[(0, .data (Ty.sl TValue) x), (3, .own 7 none), (4, .data (Ty.int .i64) i0)], [(7, .arr TValue v0)]⟩ : St)) (0 : Int) (x.length : Int) (F.laws_toValueS_l0 x) (fun v0 : (List (TValue).D) => True) (outD (fun v0 : (List (TValue).D) => True → K (.exit 0) (⟨[(3, .own 7 none)], [(7, .arr TValue v0)]⟩ : St)) (fun _ => False)) m st_
def L121 (x : (List (TValue).D)) : Loops := fun id m st_ K => match id with
  | 0 => LP121_0 x m st_ K
  | _ => False
theorem vc121 (x : (List (TValue).D)) (K : AV → Hp → Prop) : awp C121 (L121 x) ann121 (bodyOf Go.Proofs.Tryz.f121) ⟨argEnv 0 [.data (Ty.sl TValue) x], []⟩ (outK tab Go.Proofs.Tryz.f121.results.toList (hasBox []) (resK .raw K)) =
  (((x.length : Int) = (x.length : Int)) ∧ (0 ≤ (x.length : Int)) ∧ ((x.length : Int) * 32 ≤ (lim : Int)) ∧ (∃ m_, (True) ∧ LoopI (fun (i0 : Int) (v0 : (List (TValue).D)) => (⟨[(0, .data (Ty.sl TValue) x), (3, .own 7 none), (4, .data (Ty.int .i64) i0)], [(7, .arr TValue v0)]⟩ : St)) (0 : Int) (x.length : Int) (F.laws_toValueS_l0 x) (fun v0 : (List (TValue).D) => True) (outD (fun v0 : (List (TValue).D) => True → K (.own 0 none) [(0, .arr TValue v0)]) (fun _ => False)) m_ (⟨[(0, .data (Ty.sl TValue) x), (3, .own 7 none), (4, .data (Ty.int .i64) (0 : Int))], [(7, .arr TValue (List.replicate (x.length : Int).toNat ((0 : Int), ((0 : Int), ((⟨#[]⟩ : ByteArray), ())))))]⟩ : St))) := by kernel_rfl
theorem lvc121_0 (x : (List (TValue).D))  (i0 : Int) (v0 : (List (TValue).D)) (m : Nat) (K : X → St → Prop) : awp C121 (L121 x) ann121 (loopAt (bodyOf Go.Proofs.Tryz.f121) 0) (⟨[(0, .data (Ty.sl TValue) x), (3, .own 7 none), (4, .data (Ty.int .i64) i0)], [(7, .arr TValue v0)]⟩ : St) (thenW (fun s' => ∃ m', m' < m ∧ (L121 x) 0 m' s' K) (exitN 0 (ann121 (behind 0)) K)) =
  (cond (decide (i0 < (x.length : Int))) ((0 ≤ i0) ∧ (i0 < (x.length : Int)) ∧ (Sm TValue (nth (t := TValue) x i0)) ∧ (∀ r_5_6 : (TValue).D, r_5_6 = ((nth (t := TValue) x i0)) → (0 ≤ i0) ∧ (i0 < (v0.length : Int)) ∧ (∃ m_, m_ < m ∧ (L121 x) 0 m_ (⟨[(0, .data (Ty.sl TValue) x), (3, .own 7 none), (4, .data (Ty.int .i64) (wrap64 (i0 + (1 : Int))))], [(7, .arr TValue (v0.set i0.toNat r_5_6))]⟩ : St) K))) (K (.exit 0) (⟨[(3, .own 7 none)], [(7, .arr TValue v0)]⟩ : St))) := by kernel_rfl
theorem con121_ok : ConOk P 121 c121 := by
  refine con_okR (fn := Go.Proofs.Tryz.f121) (code := bodyOf Go.Proofs.Tryz.f121) (tab_ok tab_check cmp_check) consOk121 mixed Go.Proofs.Tryz.func121 rfl rfl fun args hp K h0 => ?_
  obtain ⟨a0, rfl, rfl, h1⟩ := args1_elim h0
  obtain ⟨x, rfl, h2⟩ := withD_elim h1
  obtain ⟨h_x, hK⟩ := h2
  have h : ok (F.laws_toValueS x) (fun r => K (.own 0 none) [(0, .arr TValue r)]) := ok_of_eq (F.laws_toValueS_eq x h_x) (hK _ rfl)
  refine ⟨⟨show (1 : Nat) ≤ 23 by decide, show (1 : Nat) ≤ 1000000 by decide⟩, ann121, (L121 x), .raw, (loopsN1 (i0 := 0) (by kernel_rfl) ?_), ?_⟩
  · clear h
    intro m_ s_ K_ h
    obtain ⟨hc0, i0, v0, rfl, hl0, rfl, hv0, h⟩ := (show LP121_0 x m_ s_ K_ from h)
    rw [lvc121_0 x i0 v0 _ K_]
    exact (loopI_step h (fun ht0 h => ⟨hl0, ⟨ht0, ⟨(sm_nth h_x i0), (fun r_5_6 e_r_5_6 => have h := ok_let h r_5_6 e_r_5_6; ⟨hl0, ⟨(ok_guard h).1, have g_13 := (ok_guard h).1; have h := (ok_guard h).2; (loopI_next (fun m hm => (show LP121_0 x m _ _ from ⟨hc0, hm⟩)) (v0.set i0.toNat r_5_6) rfl hl0 low0 ht0 (sm_len h_x) trivial (have h := ok_ret h; h))⟩⟩)⟩⟩⟩) (fun h => (h trivial)))
  · rw [vc121 x K]
    exact ⟨rfl, ⟨(Int.natCast_nonneg _), ⟨(sm_limI h_x rfl), (loopI_start (fun m hm => ⟨trivial, hm⟩) (0 : Int) (List.replicate (x.length : Int).toNat ((0 : Int), ((0 : Int), ((⟨#[]⟩ : ByteArray), ())))) rfl (Int.natCast_nonneg 0) trivial (ok_then h (fun v0 h hv0 => (have h := ok_ret h; h)) (fun _ h => h.elim)))⟩⟩⟩

/-! 81: loop.example/tablehouse/laws.toValueSS -/
def c81 : Con := ⟨[.dat (Ty.sl (Ty.sl TValue))], fun args hp K => args1 (fun a0 => withD (Ty.sl (Ty.sl TValue)) a0 fun x => (Sm (Ty.sl (Ty.sl TValue)) x) ∧ (∀ r : (List (List (TValue).D)), r = (x) → K (.own 0 none) [(0, .arr (Ty.sl TValue) r)])) args hp⟩
def cons81 : Cons := [(121, c121)]
def inl81 : List (Nat × Inl) := []
@[reducible] def C81 : Ctx := ⟨tab, fun t => memN t cmps, cons81, 23, inl81, 0⟩
theorem consOk81 : ConsOk P C81 := by
  refine consOk_cons (enter_ok (fn := Go.Proofs.Tryz.f121) Go.Proofs.Tryz.func121 (by kernel_rfl) rfl) con121_ok ?_
  exact consOk_nil
def ann81 : Nat → List Dir
  | 0 => [.keep [0]]
  | 1 => [.keep [0, 3]]
  | 2 => [.keep [0, 3, 4]]
  | 3 => [.keep [0, 3, 4, 11]]
  | 4 => [.keep [0, 3, 4]]
  | 5 => [.keep [0, 3, 4]]
  | 6 => [.keep [2]]
  | 100000 => [.keep [3]]
  | _ => []
@[reducible] def LP81_0 (x : (List (List (TValue).D))) (m : Nat) (st_ : St) (K : X → St → Prop) : Prop := (True) ∧ LoopI (fun (i0 : Int) (v0 : (List (List (TValue).D))) => (⟨[(0, .data (Ty.sl (Ty.sl TValue)) x), (3, .own 7 none), (4, .data (Ty.int .i64) i0)], [(7, .arr (Ty.sl TValue) v0)]⟩ : St)) (0 : Int) (x.length : Int) (F.laws_toValueSS_l0 x) (fun v0 : (List (List (TValue).D)) => True) (outD (fun v0 : (List (List (TValue).D)) => True → K (.exit 0) (⟨[(3, .own 7 none)], [(7, .arr (Ty.sl TValue) v0)]⟩ : St)) (fun _ => False)) m st_
def L81 (x : (List (List (TValue).D))) : Loops := fun id m st_ K => match id with
  | 0 => LP81_0 x m st_ K
  | _ => False
theorem vc81 (x : (List (List (TValue).D))) (K : AV → Hp → Prop) : awp C81 (L81 x) ann81 (bodyOf Go.Proofs.Tryz.f81) ⟨argEnv 0 [.data (Ty.sl (Ty.sl TValue)) x], []⟩ (outK tab Go.Proofs.Tryz.f81.results.toList (hasBox []) (resK .raw K)) =
  (((x.length : Int) = (x.length : Int)) ∧ (0 ≤ (x.length : Int)) ∧ ((x.length : Int) * 24 ≤ (lim : Int)) ∧ (∃ m_, (True) ∧ LoopI (fun (i0 : Int) (v0 : (List (List (TValue).D))) => (⟨[(0, .data (Ty.sl (Ty.sl TValue)) x), (3, .own 7 none), (4, .data (Ty.int .i64) i0)], [(7, .arr (Ty.sl TValue) v0)]⟩ : St)) (0 : Int) (x.length : Int) (F.laws_toValueSS_l0 x) (fun v0 : (List (List (TValue).D)) => True) (outD (fun v0 : (List (List (TValue).D)) => True → K (.own 0 none) [(0, .arr (Ty.sl TValue) v0)]) (fun _ => False)) m_ (⟨[(0, .data (Ty.sl (Ty.sl TValue)) x), (3, .own 7 none), (4, .data (Ty.int .i64) (0 : Int))], [(7, .arr (Ty.sl TValue) (List.replicate (x.length : Int).toNat []))]⟩ : St))) := by kernel_rfl
theorem lvc81_0 (x : (List (List (TValue).D)))  (i0 : Int) (v0 : (List (List (TValue).D))) (m : Nat) (K : X → St → Prop) : awp C81 (L81 x) ann81 (loopAt (bodyOf Go.Proofs.Tryz.f81) 0) (⟨[(0, .data (Ty.sl (Ty.sl TValue)) x), (3, .own 7 none), (4, .data (Ty.int .i64) i0)], [(7, .arr (Ty.sl TValue) v0)]⟩ : St) (thenW (fun s' => ∃ m', m' < m ∧ (L81 x) 0 m' s' K) (exitN 0 (ann81 (behind 0)) K)) =
  (cond (decide (i0 < (x.length : Int))) ((0 ≤ i0) ∧ (i0 < (x.length : Int)) ∧ (Sm (Ty.sl TValue) (nth (t := (Ty.sl TValue)) x i0)) ∧ (∀ r_5_6 : (List (TValue).D), r_5_6 = ((nth (t := (Ty.sl TValue)) x i0)) → (0 ≤ i0) ∧ (i0 < (v0.length : Int)) ∧ (∃ m_, m_ < m ∧ (L81 x) 0 m_ (⟨[(0, .data (Ty.sl (Ty.sl TValue)) x), (3, .own 7 none), (4, .data (Ty.int .i64) (wrap64 (i0 + (1 : Int))))], [(7, .arr (Ty.sl TValue) (v0.set i0.toNat r_5_6))]⟩ : St) K))) (K (.exit 0) (⟨[(3, .own 7 none)], [(7, .arr (Ty.sl TValue) v0)]⟩ : St))) := by kernel_rfl
theorem con81_ok : ConOk P 81 c81 := by
  refine con_okR (fn := Go.Proofs.Tryz.f81) (code := bodyOf Go.Proofs.Tryz.f81) (tab_ok tab_check cmp_check) consOk81 mixed Go.Proofs.Tryz.func81 rfl rfl fun args hp K h0 => ?_
  obtain ⟨a0, rfl, rfl, h1⟩ := args1_elim h0
  obtain ⟨x, rfl, h2⟩ := withD_elim h1
  obtain ⟨h_x, hK⟩ := h2
  have h : ok (F.laws_toValueSS x) (fun r => K (.own 0 none) [(0, .arr (Ty.sl TValue) r)]) := ok_of_eq (F.laws_toValueSS_eq x h_x) (hK _ rfl)
  refine ⟨⟨show (1 : Nat) ≤ 23 by decide, show (1 : Nat) ≤ 1000000 by decide⟩, ann81, (L81 x), .raw, (loopsN1 (i0 := 0) (by kernel_rfl) ?_), ?_⟩
  · clear h
    intro m_ s_ K_ h
    obtain ⟨hc0, i0, v0, rfl, hl0, rfl, hv0, h⟩ := (show LP81_0 x m_ s_ K_ from h)
    rw [lvc81_0 x i0 v0 _ K_]
    exact (loopI_step h (fun ht0 h => ⟨hl0, ⟨ht0, ⟨(sm_nth h_x i0), (fun r_5_6 e_r_5_6 => have h := ok_let h r_5_6 e_r_5_6; ⟨hl0, ⟨(ok_guard h).1, have g_13 := (ok_guard h).1; have h := (ok_guard h).2; (loopI_next (fun m hm => (show LP81_0 x m _ _ from ⟨hc0, hm⟩)) (v0.set i0.toNat r_5_6) rfl hl0 low0 ht0 (sm_len h_x) trivial (have h := ok_ret h; h))⟩⟩)⟩⟩⟩) (fun h => (h trivial)))
  · rw [vc81 x K]
    exact ⟨rfl, ⟨(Int.natCast_nonneg _), ⟨(sm_limI h_x rfl), (loopI_start (fun m hm => ⟨trivial, hm⟩) (0 : Int) (List.replicate (x.length : Int).toNat []) rfl (Int.natCast_nonneg 0) trivial (ok_then h (fun v0 h hv0 => (have h := ok_ret h; h)) (fun _ h => h.elim)))⟩⟩⟩

/-! 39: loop.example/tablehouse/laws.toTable -/
def c39 : Con := ⟨[.dat TTable], fun args hp K => args1 (fun a0 => withD TTable a0 fun x => (Sm TTable x) ∧ (∀ r : (TTable).D, r = (x) → K (.data TTable r) [])) args hp⟩
def cons39 : Cons := [(80, c80), (81, c81)]
def inl39 : List (Nat × Inl) := []
@[reducible] def C39 : Ctx := ⟨tab, fun t => memN t cmps, cons39, 13, inl39, 0⟩
theorem consOk39 : ConsOk P C39 := by
  refine consOk_cons (enter_ok (fn := Go.Proofs.Tryz.f80) Go.Proofs.Tryz.func80 (by kernel_rfl) rfl) con80_ok ?_
  refine consOk_cons (enter_ok (fn := Go.Proofs.Tryz.f81) Go.Proofs.Tryz.func81 (by kernel_rfl) rfl) con81_ok ?_
  exact consOk_nil
def ann39 : Nat → List Dir
  | 0 => [.fixRow 1 TTable, .keep [1, 2]]
  | 1 => [.keep [1, 2, 3]]
  | 2 => [.keep [1, 2, 3]]
  | 3 => [.keep [2, 3]]
  | 4 => [.keep [2]]
  | _ => []
def L39 (x : (TTable).D) : Loops := fun id m st_ K => match id with
  | _ => False
theorem vc39 (x : (TTable).D) (K : AV → Hp → Prop) : awp C39 (L39 x) ann39 (bodyOf Go.Proofs.Tryz.f39) ⟨argEnv 0 [.data TTable x], []⟩ (outK tab Go.Proofs.Tryz.f39.results.toList (hasBox []) (resK (.dat TTable) K)) =
  ((Sm (Ty.sl TColumn) x.1) ∧ (∀ r_2_2 : (List (TColumn).D), r_2_2 = (x.1) → (Sm (Ty.sl (Ty.sl TValue)) x.2.1) ∧ (∀ r_3_2 : (List (List (TValue).D)), r_3_2 = (x.2.1) → K (.data TTable (r_2_2, (r_3_2, ()))) []))) := by kernel_rfl
theorem con39_ok : ConOk P 39 c39 := by
  refine con_okR (fn := Go.Proofs.Tryz.f39) (code := bodyOf Go.Proofs.Tryz.f39) (tab_ok tab_check cmp_check) consOk39 mixed Go.Proofs.Tryz.func39 rfl rfl fun args hp K h0 => ?_
  obtain ⟨a0, rfl, rfl, h1⟩ := args1_elim h0
  obtain ⟨x, rfl, h2⟩ := withD_elim h1
  obtain ⟨h_x, hK⟩ := h2
  have h : ok (F.laws_toTable x) (fun r => K (.data TTable r) []) := ok_of_eq (F.laws_toTable_eq x h_x) (hK _ rfl)
  refine ⟨⟨show (1 : Nat) ≤ 13 by decide, show (1 : Nat) ≤ 1000000 by decide⟩, ann39, (L39 x), (.dat TTable), (no_loops (by kernel_rfl)), ?_⟩
  · rw [vc39 x K]
    exact ⟨h_x.1, (fun r_2_2 e_r_2_2 => have h := ok_let h r_2_2 e_r_2_2; ⟨h_x.2.1, (fun r_3_2 e_r_3_2 => have h := ok_let h r_3_2 e_r_3_2; (have h := ok_ret h; h))⟩)⟩

/-! 10: loop.example/tablehouse/laws.toTableS -/
def c10 : Con := ⟨[.dat (Ty.sl TTable)], fun args hp K => args1 (fun a0 => withD (Ty.sl TTable) a0 fun x => (Sm (Ty.sl TTable) x) ∧ (∀ r : (List (TTable).D), r = (x) → K (.own 0 none) [(0, .arr TTable r)])) args hp⟩
def cons10 : Cons := [(39, c39)]
def inl10 : List (Nat × Inl) := []
@[reducible] def C10 : Ctx := ⟨tab, fun t => memN t cmps, cons10, 23, inl10, 0⟩
theorem consOk10 : ConsOk P C10 := by
  refine consOk_cons (enter_ok (fn := Go.Proofs.Tryz.f39) Go.Proofs.Tryz.func39 (by kernel_rfl) rfl) con39_ok ?_
  exact consOk_nil
def ann10 : Nat → List Dir
  | 0 => [.keep [0]]
  | 1 => [.keep [0, 3]]
  | 2 => [.keep [0, 3, 4]]
  | 3 => [.keep [0, 3, 4, 11]]
  | 4 => [.keep [0, 3, 4]]
  | 5 => [.keep [0, 3, 4]]
  | 6 => [.keep [2]]
  | 100000 => [.keep [3]]
  | _ => []
@[reducible] def LP10_0 (x : (List (TTable).D)) (m : Nat) (st_ : St) (K : X → St → Prop) : Prop := (True) ∧ LoopI (fun (i0 : Int) (v0 : (List (TTable).D)) => (⟨[(0, .data (Ty.sl TTable) x), (3, .own 7 none), (4, .data (Ty.int .i64) i0)], [(7, .arr TTable v0)]⟩ : St)) (0 : Int) (x.length : Int) (F.laws_toTableS_l0 x) (fun v0 : (List (TTable).D) => True) (outD (fun v0 : (List (TTable).D) => True → K (.exit 0) (⟨[(3, .own 7 none)], [(7, .arr TTable v0)]⟩ : St)) (fun _ => False)) m st_
def L10 (x : (List (TTable).D)) : Loops := fun id m st_ K => match id with
  | 0 => LP10_0 x m st_ K
  | _ => False
theorem vc10 (x : (List (TTable).D)) (K : AV → Hp → Prop) : awp C10 (L10 x) ann10 (bodyOf Go.Proofs.Tryz.f10) ⟨argEnv 0 [.data (Ty.sl TTable) x], []⟩ (outK tab Go.Proofs.Tryz.f10.results.toList (hasBox []) (resK .raw K)) =
  (((x.length : Int) = (x.length : Int)) ∧ (0 ≤ (x.length : Int)) ∧ ((x.length : Int) * 48 ≤ (lim : Int)) ∧ (∃ m_, (True) ∧ LoopI (fun (i0 : Int) (v0 : (List (TTable).D)) => (⟨[(0, .data (Ty.sl TTable) x), (3, .own 7 none), (4, .data (Ty.int .i64) i0)], [(7, .arr TTable v0)]⟩ : St)) (0 : Int) (x.length : Int) (F.laws_toTableS_l0 x) (fun v0 : (List (TTable).D) => True) (outD (fun v0 : (List (TTable).D) => True → K (.own 0 none) [(0, .arr TTable v0)]) (fun _ => False)) m_ (⟨[(0, .data (Ty.sl TTable) x), (3, .own 7 none), (4, .data (Ty.int .i64) (0 : Int))], [(7, .arr TTable (List.replicate (x.length : Int).toNat ([], ([], ()))))]⟩ : St))) := by kernel_rfl
theorem lvc10_0 (x : (List (TTable).D))  (i0 : Int) (v0 : (List (TTable).D)) (m : Nat) (K : X → St → Prop) : awp C10 (L10 x) ann10 (loopAt (bodyOf Go.Proofs.Tryz.f10) 0) (⟨[(0, .data (Ty.sl TTable) x), (3, .own 7 none), (4, .data (Ty.int .i64) i0)], [(7, .arr TTable v0)]⟩ : St) (thenW (fun s' => ∃ m', m' < m ∧ (L10 x) 0 m' s' K) (exitN 0 (ann10 (behind 0)) K)) =
  (cond (decide (i0 < (x.length : Int))) ((0 ≤ i0) ∧ (i0 < (x.length : Int)) ∧ (Sm TTable (nth (t := TTable) x i0)) ∧ (∀ r_5_6 : (TTable).D, r_5_6 = ((nth (t := TTable) x i0)) → (0 ≤ i0) ∧ (i0 < (v0.length : Int)) ∧ (∃ m_, m_ < m ∧ (L10 x) 0 m_ (⟨[(0, .data (Ty.sl TTable) x), (3, .own 7 none), (4, .data (Ty.int .i64) (wrap64 (i0 + (1 : Int))))], [(7, .arr TTable (v0.set i0.toNat r_5_6))]⟩ : St) K))) (K (.exit 0) (⟨[(3, .own 7 none)], [(7, .arr TTable v0)]⟩ : St))) := by kernel_rfl
theorem con10_ok : ConOk P 10 c10 := by
  refine con_okR (fn := Go.Proofs.Tryz.f10) (code := bodyOf Go.Proofs.Tryz.f10) (tab_ok tab_check cmp_check) consOk10 mixed Go.Proofs.Tryz.func10 rfl rfl fun args hp K h0 => ?_
  obtain ⟨a0, rfl, rfl, h1⟩ := args1_elim h0
  obtain ⟨x, rfl, h2⟩ := withD_elim h1
  obtain ⟨h_x, hK⟩ := h2
  have h : ok (F.laws_toTableS x) (fun r => K (.own 0 none) [(0, .arr TTable r)]) := ok_of_eq (F.laws_toTableS_eq x h_x) (hK _ rfl)
  refine ⟨⟨show (1 : Nat) ≤ 23 by decide, show (1 : Nat) ≤ 1000000 by decide⟩, ann10, (L10 x), .raw, (loopsN1 (i0 := 0) (by kernel_rfl) ?_), ?_⟩
  · clear h
    intro m_ s_ K_ h
    obtain ⟨hc0, i0, v0, rfl, hl0, rfl, hv0, h⟩ := (show LP10_0 x m_ s_ K_ from h)
    rw [lvc10_0 x i0 v0 _ K_]
    exact (loopI_step h (fun ht0 h => ⟨hl0, ⟨ht0, ⟨(sm_nth h_x i0), (fun r_5_6 e_r_5_6 => have h := ok_let h r_5_6 e_r_5_6; ⟨hl0, ⟨(ok_guard h).1, have g_13 := (ok_guard h).1; have h := (ok_guard h).2; (loopI_next (fun m hm => (show LP10_0 x m _ _ from ⟨hc0, hm⟩)) (v0.set i0.toNat r_5_6) rfl hl0 low0 ht0 (sm_len h_x) trivial (have h := ok_ret h; h))⟩⟩)⟩⟩⟩) (fun h => (h trivial)))
  · rw [vc10 x K]
    exact ⟨rfl, ⟨(Int.natCast_nonneg _), ⟨(sm_limI h_x rfl), (loopI_start (fun m hm => ⟨trivial, hm⟩) (0 : Int) (List.replicate (x.length : Int).toNat ([], ([], ()))) rfl (Int.natCast_nonneg 0) trivial (ok_then h (fun v0 h hv0 => (have h := ok_ret h; h)) (fun _ h => h.elim)))⟩⟩⟩

/-! 114: loop.example/tablehouse/laws.eqValue -/
def c114 : Con := ⟨[.dat TValue, .dat TValue], fun args hp K => args2 (fun a0 a1 => withD TValue a0 fun x => withD TValue a1 fun y => (Sm TValue x) ∧ (Sm TValue y) ∧ (x = y) ∧ K (.data Ty.bool (true)) []) args hp⟩
def cons114 : Cons := []
def inl114 : List (Nat × Inl) := []
@[reducible] def C114 : Ctx := ⟨tab, fun t => memN t cmps, cons114, 20, inl114, 0⟩
theorem consOk114 : ConsOk P C114 := by
  exact consOk_nil
def ann114 : Nat → List Dir
  | 0 => [.fixRow 2 TValue, .fixRow 3 TValue, .keep [2, 3]]
  | 1 => [.keep [2, 3, 9]]
  | 2 => [.keep [4]]
  | 3 => [.keep [2, 3, 14]]
  | 4 => [.keep [4]]
  | 5 => [.keep [19]]
  | 6 => [.keep [4]]
  | 7 => [.keep [4]]
  | _ => []
def L114 (x : (TValue).D) (y : (TValue).D) : Loops := fun id m st_ K => match id with
  | _ => False
theorem vc114 (x : (TValue).D) (y : (TValue).D) (K : AV → Hp → Prop) : awp C114 (L114 x y) ann114 (bodyOf Go.Proofs.Tryz.f114) ⟨argEnv 0 [.data TValue x, .data TValue y], []⟩ (outK tab Go.Proofs.Tryz.f114.results.toList (hasBox []) (resK (.dat Ty.bool) K)) =
  (cond (!decide (x.1 = y.1)) (K (.data Ty.bool false) []) (cond (!decide (x.2.1 = y.2.1)) (K (.data Ty.bool false) []) (cond (!decide (x.2.2.1 = y.2.2.1)) (K (.data Ty.bool false) []) (K (.data Ty.bool true) [])))) := by kernel_rfl
theorem con114_ok : ConOk P 114 c114 := by
  refine con_okR (fn := Go.Proofs.Tryz.f114) (code := bodyOf Go.Proofs.Tryz.f114) (tab_ok tab_check cmp_check) consOk114 mixed Go.Proofs.Tryz.func114 rfl rfl fun args hp K h0 => ?_
  obtain ⟨a0, a1, rfl, rfl, h1⟩ := args2_elim h0
  obtain ⟨x, rfl, h2⟩ := withD_elim h1
  obtain ⟨y, rfl, h3⟩ := withD_elim h2
  obtain ⟨h_x, h_y, p0, hK⟩ := h3
  have h : ok (F.laws_eqValue x y) (fun r => K (.data Ty.bool r) []) := ok_of_eq (F.laws_eqValue_eq x y h_x h_y p0) hK
  refine ⟨⟨show (2 : Nat) ≤ 20 by decide, show (2 : Nat) ≤ 1000000 by decide⟩, ann114, (L114 x y), (.dat Ty.bool), (no_loops (by kernel_rfl)), ?_⟩
  · rw [vc114 x y K]
    exact (ok_cond h (fun b_1 h => (have h := ok_ret h; h)) (fun b_1 h => (ok_cond h (fun b_2 h => (have h := ok_ret h; h)) (fun b_2 h => (ok_cond h (fun b_3 h => (have h := ok_ret h; h)) (fun b_3 h => (have h := ok_ret h; h)))))))

/-! 70: loop.example/tablehouse/laws.eqValueS -/
def c70 : Con := ⟨[.dat (Ty.sl TValue), .dat (Ty.sl TValue)], fun args hp K => args2 (fun a0 a1 => withD (Ty.sl TValue) a0 fun x => withD (Ty.sl TValue) a1 fun y => (Sm (Ty.sl TValue) x) ∧ (Sm (Ty.sl TValue) y) ∧ (x = y) ∧ K (.data Ty.bool (true)) []) args hp⟩
def cons70 : Cons := [(114, c114)]
def inl70 : List (Nat × Inl) := []
@[reducible] def C70 : Ctx := ⟨tab, fun t => memN t cmps, cons70, 27, inl70, 0⟩
theorem consOk70 : ConsOk P C70 := by
  refine consOk_cons (enter_ok (fn := Go.Proofs.Tryz.f114) Go.Proofs.Tryz.func114 (by kernel_rfl) rfl) con114_ok ?_
  exact consOk_nil
def ann70 : Nat → List Dir
  | 0 => [.keep [0, 1]]
  | 1 => [.keep [0, 1, 10]]
  | 2 => [.keep [4]]
  | 3 => [.keep [0, 1, 5]]
  | 4 => [.keep [0, 1, 5, 14]]
  | 5 => [.keep [0, 1, 5]]
  | 6 => [.keep [0, 1, 5, 26]]
  | 7 => [.keep [4]]
  | 8 => [.keep [4]]
  | 100000 => [.keep []]
  | _ => []
@[reducible] def LP70_0 (x : (List (TValue).D)) (y : (List (TValue).D)) (m : Nat) (st_ : St) (K : X → St → Prop) : Prop := (True) ∧ LoopI (fun (i0 : Int) (v0 : Unit) => (⟨[(0, .data (Ty.sl TValue) x), (1, .data (Ty.sl TValue) y), (5, .data (Ty.int .i64) i0)], []⟩ : St)) (0 : Int) (x.length : Int) (F.laws_eqValueS_l0 x y) (fun v0 : Unit => True) (outD (fun v0 : Unit => True → K (.exit 0) (⟨[], []⟩ : St)) (fun q0 : Unit => K .ret (⟨[(4, .data Ty.bool false)], []⟩ : St))) m st_
def L70 (x : (List (TValue).D)) (y : (List (TValue).D)) : Loops := fun id m st_ K => match id with
  | 0 => LP70_0 x y m st_ K
  | _ => False
theorem vc70 (x : (List (TValue).D)) (y : (List (TValue).D)) (K : AV → Hp → Prop) : awp C70 (L70 x y) ann70 (bodyOf Go.Proofs.Tryz.f70) ⟨argEnv 0 [.data (Ty.sl TValue) x, .data (Ty.sl TValue) y], []⟩ (outK tab Go.Proofs.Tryz.f70.results.toList (hasBox []) (resK (.dat Ty.bool) K)) =
  (cond (!decide ((x.length : Int) = (y.length : Int))) (K (.data Ty.bool false) []) ((∃ m_, (True) ∧ LoopI (fun (i0 : Int) (v0 : Unit) => (⟨[(0, .data (Ty.sl TValue) x), (1, .data (Ty.sl TValue) y), (5, .data (Ty.int .i64) i0)], []⟩ : St)) (0 : Int) (x.length : Int) (F.laws_eqValueS_l0 x y) (fun v0 : Unit => True) (outD (fun v0 : Unit => True → K (.data Ty.bool true) []) (fun q0 : Unit => K (.data Ty.bool false) [])) m_ (⟨[(0, .data (Ty.sl TValue) x), (1, .data (Ty.sl TValue) y), (5, .data (Ty.int .i64) (0 : Int))], []⟩ : St)))) := by kernel_rfl
theorem lvc70_0 (x : (List (TValue).D)) (y : (List (TValue).D))  (i0 : Int) (v0 : Unit) (m : Nat) (K : X → St → Prop) : awp C70 (L70 x y) ann70 (loopAt (bodyOf Go.Proofs.Tryz.f70) 0) (⟨[(0, .data (Ty.sl TValue) x), (1, .data (Ty.sl TValue) y), (5, .data (Ty.int .i64) i0)], []⟩ : St) (thenW (fun s' => ∃ m', m' < m ∧ (L70 x y) 0 m' s' K) (exitN 0 (ann70 (behind 0)) K)) =
  (cond (decide (i0 < (x.length : Int))) ((0 ≤ i0) ∧ (i0 < (x.length : Int)) ∧ (0 ≤ i0) ∧ (i0 < (y.length : Int)) ∧ (Sm TValue (nth (t := TValue) x i0)) ∧ (Sm TValue (nth (t := TValue) y i0)) ∧ ((nth (t := TValue) x i0) = (nth (t := TValue) y i0)) ∧ cond (!(true)) (K .ret (⟨[(4, .data Ty.bool false)], []⟩ : St)) ((∃ m_, m_ < m ∧ (L70 x y) 0 m_ (⟨[(0, .data (Ty.sl TValue) x), (1, .data (Ty.sl TValue) y), (5, .data (Ty.int .i64) (wrap64 (i0 + (1 : Int))))], []⟩ : St) K))) (K (.exit 0) (⟨[], []⟩ : St))) := by kernel_rfl
theorem con70_ok : ConOk P 70 c70 := by
  refine con_okR (fn := Go.Proofs.Tryz.f70) (code := bodyOf Go.Proofs.Tryz.f70) (tab_ok tab_check cmp_check) consOk70 mixed Go.Proofs.Tryz.func70 rfl rfl fun args hp K h0 => ?_
  obtain ⟨a0, a1, rfl, rfl, h1⟩ := args2_elim h0
  obtain ⟨x, rfl, h2⟩ := withD_elim h1
  obtain ⟨y, rfl, h3⟩ := withD_elim h2
  obtain ⟨h_x, h_y, p0, hK⟩ := h3
  have h : ok (F.laws_eqValueS x y) (fun r => K (.data Ty.bool r) []) := ok_of_eq (F.laws_eqValueS_eq x y h_x h_y p0) hK
  refine ⟨⟨show (2 : Nat) ≤ 27 by decide, show (2 : Nat) ≤ 1000000 by decide⟩, ann70, (L70 x y), (.dat Ty.bool), (loopsN1 (i0 := 0) (by kernel_rfl) ?_), ?_⟩
  · clear h
    intro m_ s_ K_ h
    obtain ⟨hc0, i0, v0, rfl, hl0, rfl, hv0, h⟩ := (show LP70_0 x y m_ s_ K_ from h)
    rw [lvc70_0 x y i0 v0 _ K_]
    exact (loopI_step h (fun ht0 h => ⟨hl0, ⟨ht0, ⟨hl0, ⟨(ok_guard h).1, have g_14 := (ok_guard h).1; have h := (ok_guard h).2; ⟨(sm_nth h_x i0), ⟨(sm_nth h_y i0), ⟨(ok_guard h).1, have g_15 := (ok_guard h).1; have h := (ok_guard h).2; (ok_cond h (fun b_16 h => (have h := ok_ret h; h)) (fun b_16 h => (loopI_next (fun m hm => (show LP70_0 x y m _ _ from ⟨hc0, hm⟩)) () rfl hl0 low0 ht0 (sm_len h_x) trivial (have h := ok_ret h; h))))⟩⟩⟩⟩⟩⟩⟩) (fun h => (h trivial)))
  · rw [vc70 x y K]
    exact (ok_cond h (fun b_1 h => (have h := ok_ret h; h)) (fun b_1 h => (loopI_start (fun m hm => ⟨trivial, hm⟩) (0 : Int) () rfl (Int.natCast_nonneg 0) trivial (ok_then h (fun v0 h hv0 => (have h := ok_ret h; h)) (fun q0 h => (have h := ok_ret h; h))))))

/-! 32: loop.example/tablehouse/laws.eqValueSS -/
def c32 : Con := ⟨[.dat (Ty.sl (Ty.sl TValue)), .dat (Ty.sl (Ty.sl TValue))], fun args hp K => args2 (fun a0 a1 => withD (Ty.sl (Ty.sl TValue)) a0 fun x => withD (Ty.sl (Ty.sl TValue)) a1 fun y => (Sm (Ty.sl (Ty.sl TValue)) x) ∧ (Sm (Ty.sl (Ty.sl TValue)) y) ∧ (x = y) ∧ K (.data Ty.bool (true)) []) args hp⟩
def cons32 : Cons := [(70, c70)]
def inl32 : List (Nat × Inl) := []
@[reducible] def C32 : Ctx := ⟨tab, fun t => memN t cmps, cons32, 27, inl32, 0⟩
theorem consOk32 : ConsOk P C32 := by
  refine consOk_cons (enter_ok (fn := Go.Proofs.Tryz.f70) Go.Proofs.Tryz.func70 (by kernel_rfl) rfl) con70_ok ?_
  exact consOk_nil
def ann32 : Nat → List Dir
  | 0 => [.keep [0, 1]]
  | 1 => [.keep [0, 1, 10]]
  | 2 => [.keep [4]]
  | 3 => [.keep [0, 1, 5]]
  | 4 => [.keep [0, 1, 5, 14]]
  | 5 => [.keep [0, 1, 5]]
  | 6 => [.keep [0, 1, 5, 26]]
  | 7 => [.keep [4]]
  | 8 => [.keep [4]]
  | 100000 => [.keep []]
  | _ => []
@[reducible] def LP32_0 (x : (List (List (TValue).D))) (y : (List (List (TValue).D))) (m : Nat) (st_ : St) (K : X → St → Prop) : Prop := (True) ∧ LoopI (fun (i0 : Int) (v0 : Unit) => (⟨[(0, .data (Ty.sl (Ty.sl TValue)) x), (1, .data (Ty.sl (Ty.sl TValue)) y), (5, .data (Ty.int .i64) i0)], []⟩ : St)) (0 : Int) (x.length : Int) (F.laws_eqValueSS_l0 x y) (fun v0 : Unit => True) (outD (fun v0 : Unit => True → K (.exit 0) (⟨[], []⟩ : St)) (fun q0 : Unit => K .ret (⟨[(4, .data Ty.bool false)], []⟩ : St))) m st_
def L32 (x : (List (List (TValue).D))) (y : (List (List (TValue).D))) : Loops := fun id m st_ K => match id with
  | 0 => LP32_0 x y m st_ K
  | _ => False
theorem vc32 (x : (List (List (TValue).D))) (y : (List (List (TValue).D))) (K : AV → Hp → Prop) : awp C32 (L32 x y) ann32 (bodyOf Go.Proofs.Tryz.f32) ⟨argEnv 0 [.data (Ty.sl (Ty.sl TValue)) x, .data (Ty.sl (Ty.sl TValue)) y], []⟩ (outK tab Go.Proofs.Tryz.f32.results.toList (hasBox []) (resK (.dat Ty.bool) K)) =
  (cond (!decide ((x.length : Int) = (y.length : Int))) (K (.data Ty.bool false) []) ((∃ m_, (True) ∧ LoopI (fun (i0 : Int) (v0 : Unit) => (⟨[(0, .data (Ty.sl (Ty.sl TValue)) x), (1, .data (Ty.sl (Ty.sl TValue)) y), (5, .data (Ty.int .i64) i0)], []⟩ : St)) (0 : Int) (x.length : Int) (F.laws_eqValueSS_l0 x y) (fun v0 : Unit => True) (outD (fun v0 : Unit => True → K (.data Ty.bool true) []) (fun q0 : Unit => K (.data Ty.bool false) [])) m_ (⟨[(0, .data (Ty.sl (Ty.sl TValue)) x), (1, .data (Ty.sl (Ty.sl TValue)) y), (5, .data (Ty.int .i64) (0 : Int))], []⟩ : St)))) := by kernel_rfl
theorem lvc32_0 (x : (List (List (TValue).D))) (y : (List (List (TValue).D)))  (i0 : Int) (v0 : Unit) (m : Nat) (K : X → St → Prop) : awp C32 (L32 x y) ann32 (loopAt (bodyOf Go.Proofs.Tryz.f32) 0) (⟨[(0, .data (Ty.sl (Ty.sl TValue)) x), (1, .data (Ty.sl (Ty.sl TValue)) y), (5, .data (Ty.int .i64) i0)], []⟩ : St) (thenW (fun s' => ∃ m', m' < m ∧ (L32 x y) 0 m' s' K) (exitN 0 (ann32 (behind 0)) K)) =
  (cond (decide (i0 < (x.length : Int))) ((0 ≤ i0) ∧ (i0 < (x.length : Int)) ∧ (0 ≤ i0) ∧ (i0 < (y.length : Int)) ∧ (Sm (Ty.sl TValue) (nth (t := (Ty.sl TValue)) x i0)) ∧ (Sm (Ty.sl TValue) (nth (t := (Ty.sl TValue)) y i0)) ∧ ((nth (t := (Ty.sl TValue)) x i0) = (nth (t := (Ty.sl TValue)) y i0)) ∧ cond (!(true)) (K .ret (⟨[(4, .data Ty.bool false)], []⟩ : St)) ((∃ m_, m_ < m ∧ (L32 x y) 0 m_ (⟨[(0, .data (Ty.sl (Ty.sl TValue)) x), (1, .data (Ty.sl (Ty.sl TValue)) y), (5, .data (Ty.int .i64) (wrap64 (i0 + (1 : Int))))], []⟩ : St) K))) (K (.exit 0) (⟨[], []⟩ : St))) := by kernel_rfl
theorem con32_ok : ConOk P 32 c32 := by
  refine con_okR (fn := Go.Proofs.Tryz.f32) (code := bodyOf Go.Proofs.Tryz.f32) (tab_ok tab_check cmp_check) consOk32 mixed Go.Proofs.Tryz.func32 rfl rfl fun args hp K h0 => ?_
  obtain ⟨a0, a1, rfl, rfl, h1⟩ := args2_elim h0
  obtain ⟨x, rfl, h2⟩ := withD_elim h1
  obtain ⟨y, rfl, h3⟩ := withD_elim h2
  obtain ⟨h_x, h_y, p0, hK⟩ := h3
  have h : ok (F.laws_eqValueSS x y) (fun r => K (.data Ty.bool r) []) := ok_of_eq (F.laws_eqValueSS_eq x y h_x h_y p0) hK
  refine ⟨⟨show (2 : Nat) ≤ 27 by decide, show (2 : Nat) ≤ 1000000 by decide⟩, ann32, (L32 x y), (.dat Ty.bool), (loopsN1 (i0 := 0) (by kernel_rfl) ?_), ?_⟩
  · clear h
    intro m_ s_ K_ h
    obtain ⟨hc0, i0, v0, rfl, hl0, rfl, hv0, h⟩ := (show LP32_0 x y m_ s_ K_ from h)
    rw [lvc32_0 x y i0 v0 _ K_]
    exact (loopI_step h (fun ht0 h => ⟨hl0, ⟨ht0, ⟨hl0, ⟨(ok_guard h).1, have g_14 := (ok_guard h).1; have h := (ok_guard h).2; ⟨(sm_nth h_x i0), ⟨(sm_nth h_y i0), ⟨(ok_guard h).1, have g_15 := (ok_guard h).1; have h := (ok_guard h).2; (ok_cond h (fun b_16 h => (have h := ok_ret h; h)) (fun b_16 h => (loopI_next (fun m hm => (show LP32_0 x y m _ _ from ⟨hc0, hm⟩)) () rfl hl0 low0 ht0 (sm_len h_x) trivial (have h := ok_ret h; h))))⟩⟩⟩⟩⟩⟩⟩) (fun h => (h trivial)))
  · rw [vc32 x y K]
    exact (ok_cond h (fun b_1 h => (have h := ok_ret h; h)) (fun b_1 h => (loopI_start (fun m hm => ⟨trivial, hm⟩) (0 : Int) () rfl (Int.natCast_nonneg 0) trivial (ok_then h (fun v0 h hv0 => (have h := ok_ret h; h)) (fun q0 h => (have h := ok_ret h; h))))))

/-! 127: loop.example/tablehouse/laws.eqColumn -/
def c127 : Con := ⟨[.dat TColumn, .dat TColumn], fun args hp K => args2 (fun a0 a1 => withD TColumn a0 fun x => withD TColumn a1 fun y => (x = y) ∧ K (.data Ty.bool (true)) []) args hp⟩
def cons127 : Cons := []
def inl127 : List (Nat × Inl) := []
@[reducible] def C127 : Ctx := ⟨tab, fun t => memN t cmps, cons127, 15, inl127, 0⟩
theorem consOk127 : ConsOk P C127 := by
  exact consOk_nil
def ann127 : Nat → List Dir
  | 0 => [.fixRow 2 TColumn, .fixRow 3 TColumn, .keep [2, 3]]
  | 1 => [.keep [2, 3, 9]]
  | 2 => [.keep [4]]
  | 3 => [.keep [14]]
  | 4 => [.keep [4]]
  | 5 => [.keep [4]]
  | _ => []
def L127 (x : (TColumn).D) (y : (TColumn).D) : Loops := fun id m st_ K => match id with
  | _ => False
theorem vc127 (x : (TColumn).D) (y : (TColumn).D) (K : AV → Hp → Prop) : awp C127 (L127 x y) ann127 (bodyOf Go.Proofs.Tryz.f127) ⟨argEnv 0 [.data TColumn x, .data TColumn y], []⟩ (outK tab Go.Proofs.Tryz.f127.results.toList (hasBox []) (resK (.dat Ty.bool) K)) =
  (cond (!decide (x.1 = y.1)) (K (.data Ty.bool false) []) (cond (!(Ty.beq Ty.bool x.2.1 y.2.1)) (K (.data Ty.bool false) []) (K (.data Ty.bool true) []))) := by kernel_rfl
theorem con127_ok : ConOk P 127 c127 := by
  refine con_okR (fn := Go.Proofs.Tryz.f127) (code := bodyOf Go.Proofs.Tryz.f127) (tab_ok tab_check cmp_check) consOk127 mixed Go.Proofs.Tryz.func127 rfl rfl fun args hp K h0 => ?_
  obtain ⟨a0, a1, rfl, rfl, h1⟩ := args2_elim h0
  obtain ⟨x, rfl, h2⟩ := withD_elim h1
  obtain ⟨y, rfl, h3⟩ := withD_elim h2
  obtain ⟨p0, hK⟩ := h3
  have h : ok (F.laws_eqColumn x y) (fun r => K (.data Ty.bool r) []) := ok_of_eq (F.laws_eqColumn_eq x y p0) hK
  refine ⟨⟨show (2 : Nat) ≤ 15 by decide, show (2 : Nat) ≤ 1000000 by decide⟩, ann127, (L127 x y), (.dat Ty.bool), (no_loops (by kernel_rfl)), ?_⟩
  · rw [vc127 x y K]
    exact (ok_cond h (fun b_1 h => (have h := ok_ret h; h)) (fun b_1 h => (ok_cond h (fun b_2 h => (have h := ok_ret h; h)) (fun b_2 h => (have h := ok_ret h; h)))))

/-! 91: loop.example/tablehouse/laws.eqColumnS -/
def c91 : Con := ⟨[.dat (Ty.sl TColumn), .dat (Ty.sl TColumn)], fun args hp K => args2 (fun a0 a1 => withD (Ty.sl TColumn) a0 fun x => withD (Ty.sl TColumn) a1 fun y => (Sm (Ty.sl TColumn) x) ∧ (Sm (Ty.sl TColumn) y) ∧ (x = y) ∧ K (.data Ty.bool (true)) []) args hp⟩
def cons91 : Cons := [(127, c127)]
def inl91 : List (Nat × Inl) := []
@[reducible] def C91 : Ctx := ⟨tab, fun t => memN t cmps, cons91, 27, inl91, 0⟩
theorem consOk91 : ConsOk P C91 := by
  refine consOk_cons (enter_ok (fn := Go.Proofs.Tryz.f127) Go.Proofs.Tryz.func127 (by kernel_rfl) rfl) con127_ok ?_
  exact consOk_nil
def ann91 : Nat → List Dir
  | 0 => [.keep [0, 1]]
  | 1 => [.keep [0, 1, 10]]
  | 2 => [.keep [4]]
  | 3 => [.keep [0, 1, 5]]
  | 4 => [.keep [0, 1, 5, 14]]
  | 5 => [.keep [0, 1, 5]]
  | 6 => [.keep [0, 1, 5, 26]]
  | 7 => [.keep [4]]
  | 8 => [.keep [4]]
  | 100000 => [.keep []]
  | _ => []
@[reducible] def LP91_0 (x : (List (TColumn).D)) (y : (List (TColumn).D)) (m : Nat) (st_ : St) (K : X → St → Prop) : Prop := (True) ∧ LoopI (fun (i0 : Int) (v0 : Unit) => (⟨[(0, .data (Ty.sl TColumn) x), (1, .data (Ty.sl TColumn) y), (5, .data (Ty.int .i64) i0)], []⟩ : St)) (0 : Int) (x.length : Int) (F.laws_eqColumnS_l0 x y) (fun v0 : Unit => True) (outD (fun v0 : Unit => True → K (.exit 0) (⟨[], []⟩ : St)) (fun q0 : Unit => K .ret (⟨[(4, .data Ty.bool false)], []⟩ : St))) m st_
def L91 (x : (List (TColumn).D)) (y : (List (TColumn).D)) : Loops := fun id m st_ K => match id with
  | 0 => LP91_0 x y m st_ K
  | _ => False
theorem vc91 (x : (List (TColumn).D)) (y : (List (TColumn).D)) (K : AV → Hp → Prop) : awp C91 (L91 x y) ann91 (bodyOf Go.Proofs.Tryz.f91) ⟨argEnv 0 [.data (Ty.sl TColumn) x, .data (Ty.sl TColumn) y], []⟩ (outK tab Go.Proofs.Tryz.f91.results.toList (hasBox []) (resK (.dat Ty.bool) K)) =
  (cond (!decide ((x.length : Int) = (y.length : Int))) (K (.data Ty.bool false) []) ((∃ m_, (True) ∧ LoopI (fun (i0 : Int) (v0 : Unit) => (⟨[(0, .data (Ty.sl TColumn) x), (1, .data (Ty.sl TColumn) y), (5, .data (Ty.int .i64) i0)], []⟩ : St)) (0 : Int) (x.length : Int) (F.laws_eqColumnS_l0 x y) (fun v0 : Unit => True) (outD (fun v0 : Unit => True → K (.data Ty.bool true) []) (fun q0 : Unit => K (.data Ty.bool false) [])) m_ (⟨[(0, .data (Ty.sl TColumn) x), (1, .data (Ty.sl TColumn) y), (5, .data (Ty.int .i64) (0 : Int))], []⟩ : St)))) := by kernel_rfl
theorem lvc91_0 (x : (List (TColumn).D)) (y : (List (TColumn).D))  (i0 : Int) (v0 : Unit) (m : Nat) (K : X → St → Prop) : awp C91 (L91 x y) ann91 (loopAt (bodyOf Go.Proofs.Tryz.f91) 0) (⟨[(0, .data (Ty.sl TColumn) x), (1, .data (Ty.sl TColumn) y), (5, .data (Ty.int .i64) i0)], []⟩ : St) (thenW (fun s' => ∃ m', m' < m ∧ (L91 x y) 0 m' s' K) (exitN 0 (ann91 (behind 0)) K)) =
  (cond (decide (i0 < (x.length : Int))) ((0 ≤ i0) ∧ (i0 < (x.length : Int)) ∧ (0 ≤ i0) ∧ (i0 < (y.length : Int)) ∧ ((nth (t := TColumn) x i0) = (nth (t := TColumn) y i0)) ∧ cond (!(true)) (K .ret (⟨[(4, .data Ty.bool false)], []⟩ : St)) ((∃ m_, m_ < m ∧ (L91 x y) 0 m_ (⟨[(0, .data (Ty.sl TColumn) x), (1, .data (Ty.sl TColumn) y), (5, .data (Ty.int .i64) (wrap64 (i0 + (1 : Int))))], []⟩ : St) K))) (K (.exit 0) (⟨[], []⟩ : St))) := by kernel_rfl
theorem con91_ok : ConOk P 91 c91 := by
  refine con_okR (fn := Go.Proofs.Tryz.f91) (code := bodyOf Go.Proofs.Tryz.f91) (tab_ok tab_check cmp_check) consOk91 mixed Go.Proofs.Tryz.func91 rfl rfl fun args hp K h0 => ?_
  obtain ⟨a0, a1, rfl, rfl, h1⟩ := args2_elim h0
  obtain ⟨x, rfl, h2⟩ := withD_elim h1
  obtain ⟨y, rfl, h3⟩ := withD_elim h2
  obtain ⟨h_x, h_y, p0, hK⟩ := h3
  have h : ok (F.laws_eqColumnS x y) (fun r => K (.data Ty.bool r) []) := ok_of_eq (F.laws_eqColumnS_eq x y h_x h_y p0) hK
  refine ⟨⟨show (2 : Nat) ≤ 27 by decide, show (2 : Nat) ≤ 1000000 by decide⟩, ann91, (L91 x y), (.dat Ty.bool), (loopsN1 (i0 := 0) (by kernel_rfl) ?_), ?_⟩
  · clear h
    intro m_ s_ K_ h
    obtain ⟨hc0, i0, v0, rfl, hl0, rfl, hv0, h⟩ := (show LP91_0 x y m_ s_ K_ from h)
    rw [lvc91_0 x y i0 v0 _ K_]
    exact (loopI_step h (fun ht0 h => ⟨hl0, ⟨ht0, ⟨hl0, ⟨(ok_guard h).1, have g_14 := (ok_guard h).1; have h := (ok_guard h).2; ⟨(ok_guard h).1, have g_15 := (ok_guard h).1; have h := (ok_guard h).2; (ok_cond h (fun b_16 h => (have h := ok_ret h; h)) (fun b_16 h => (loopI_next (fun m hm => (show LP91_0 x y m _ _ from ⟨hc0, hm⟩)) () rfl hl0 low0 ht0 (sm_len h_x) trivial (have h := ok_ret h; h))))⟩⟩⟩⟩⟩) (fun h => (h trivial)))
  · rw [vc91 x y K]
    exact (ok_cond h (fun b_1 h => (have h := ok_ret h; h)) (fun b_1 h => (loopI_start (fun m hm => ⟨trivial, hm⟩) (0 : Int) () rfl (Int.natCast_nonneg 0) trivial (ok_then h (fun v0 h hv0 => (have h := ok_ret h; h)) (fun q0 h => (have h := ok_ret h; h))))))

/-! 44: loop.example/tablehouse/laws.eqTable -/
def c44 : Con := ⟨[.dat TTable, .dat TTable], fun args hp K => args2 (fun a0 a1 => withD TTable a0 fun x => withD TTable a1 fun y => (Sm TTable x) ∧ (Sm TTable y) ∧ (x = y) ∧ K (.data Ty.bool (true)) []) args hp⟩
def cons44 : Cons := [(32, c32), (91, c91)]
def inl44 : List (Nat × Inl) := []
@[reducible] def C44 : Ctx := ⟨tab, fun t => memN t cmps, cons44, 17, inl44, 0⟩
theorem consOk44 : ConsOk P C44 := by
  refine consOk_cons (enter_ok (fn := Go.Proofs.Tryz.f32) Go.Proofs.Tryz.func32 (by kernel_rfl) rfl) con32_ok ?_
  refine consOk_cons (enter_ok (fn := Go.Proofs.Tryz.f91) Go.Proofs.Tryz.func91 (by kernel_rfl) rfl) con91_ok ?_
  exact consOk_nil
def ann44 : Nat → List Dir
  | 0 => [.fixRow 2 TTable, .fixRow 3 TTable, .keep [2, 3]]
  | 1 => [.keep [2, 3, 10]]
  | 2 => [.keep [4]]
  | 3 => [.keep [16]]
  | 4 => [.keep [4]]
  | 5 => [.keep [4]]
  | _ => []
def L44 (x : (TTable).D) (y : (TTable).D) : Loops := fun id m st_ K => match id with
  | _ => False
theorem vc44 (x : (TTable).D) (y : (TTable).D) (K : AV → Hp → Prop) : awp C44 (L44 x y) ann44 (bodyOf Go.Proofs.Tryz.f44) ⟨argEnv 0 [.data TTable x, .data TTable y], []⟩ (outK tab Go.Proofs.Tryz.f44.results.toList (hasBox []) (resK (.dat Ty.bool) K)) =
  ((Sm (Ty.sl TColumn) x.1) ∧ (Sm (Ty.sl TColumn) y.1) ∧ (x.1 = y.1) ∧ cond (!(true)) (K (.data Ty.bool false) []) ((Sm (Ty.sl (Ty.sl TValue)) x.2.1) ∧ (Sm (Ty.sl (Ty.sl TValue)) y.2.1) ∧ (x.2.1 = y.2.1) ∧ cond (!(true)) (K (.data Ty.bool false) []) (K (.data Ty.bool true) []))) := by kernel_rfl
theorem con44_ok : ConOk P 44 c44 := by
  refine con_okR (fn := Go.Proofs.Tryz.f44) (code := bodyOf Go.Proofs.Tryz.f44) (tab_ok tab_check cmp_check) consOk44 mixed Go.Proofs.Tryz.func44 rfl rfl fun args hp K h0 => ?_
  obtain ⟨a0, a1, rfl, rfl, h1⟩ := args2_elim h0
  obtain ⟨x, rfl, h2⟩ := withD_elim h1
  obtain ⟨y, rfl, h3⟩ := withD_elim h2
  obtain ⟨h_x, h_y, p0, hK⟩ := h3
  have h : ok (F.laws_eqTable x y) (fun r => K (.data Ty.bool r) []) := ok_of_eq (F.laws_eqTable_eq x y h_x h_y p0) hK
  refine ⟨⟨show (2 : Nat) ≤ 17 by decide, show (2 : Nat) ≤ 1000000 by decide⟩, ann44, (L44 x y), (.dat Ty.bool), (no_loops (by kernel_rfl)), ?_⟩
  · rw [vc44 x y K]
    exact ⟨h_x.1, ⟨h_y.1, ⟨(ok_guard h).1, have g_1 := (ok_guard h).1; have h := (ok_guard h).2; (ok_cond h (fun b_2 h => (have h := ok_ret h; h)) (fun b_2 h => ⟨h_x.2.1, ⟨h_y.2.1, ⟨(ok_guard h).1, have g_3 := (ok_guard h).1; have h := (ok_guard h).2; (cond_f (unf (bnf b_2)) (have h := ok_ret h; h))⟩⟩⟩))⟩⟩⟩

/-! 14: loop.example/tablehouse/laws.eqTableS -/
def c14 : Con := ⟨[.dat (Ty.sl TTable), .dat (Ty.sl TTable)], fun args hp K => args2 (fun a0 a1 => withD (Ty.sl TTable) a0 fun x => withD (Ty.sl TTable) a1 fun y => (Sm (Ty.sl TTable) x) ∧ (Sm (Ty.sl TTable) y) ∧ (x = y) ∧ K (.data Ty.bool (true)) []) args hp⟩
def cons14 : Cons := [(44, c44)]
def inl14 : List (Nat × Inl) := []
@[reducible] def C14 : Ctx := ⟨tab, fun t => memN t cmps, cons14, 27, inl14, 0⟩
theorem consOk14 : ConsOk P C14 := by
  refine consOk_cons (enter_ok (fn := Go.Proofs.Tryz.f44) Go.Proofs.Tryz.func44 (by kernel_rfl) rfl) con44_ok ?_
  exact consOk_nil
def ann14 : Nat → List Dir
  | 0 => [.keep [0, 1]]
  | 1 => [.keep [0, 1, 10]]
  | 2 => [.keep [4]]
  | 3 => [.keep [0, 1, 5]]
  | 4 => [.keep [0, 1, 5, 14]]
  | 5 => [.keep [0, 1, 5]]
  | 6 => [.keep [0, 1, 5, 26]]
  | 7 => [.keep [4]]
  | 8 => [.keep [4]]
  | 100000 => [.keep []]
  | _ => []
@[reducible] def LP14_0 (x : (List (TTable).D)) (y : (List (TTable).D)) (m : Nat) (st_ : St) (K : X → St → Prop) : Prop := (True) ∧ LoopI (fun (i0 : Int) (v0 : Unit) => (⟨[(0, .data (Ty.sl TTable) x), (1, .data (Ty.sl TTable) y), (5, .data (Ty.int .i64) i0)], []⟩ : St)) (0 : Int) (x.length : Int) (F.laws_eqTableS_l0 x y) (fun v0 : Unit => True) (outD (fun v0 : Unit => True → K (.exit 0) (⟨[], []⟩ : St)) (fun q0 : Unit => K .ret (⟨[(4, .data Ty.bool false)], []⟩ : St))) m st_
def L14 (x : (List (TTable).D)) (y : (List (TTable).D)) : Loops := fun id m st_ K => match id with
  | 0 => LP14_0 x y m st_ K
  | _ => False
theorem vc14 (x : (List (TTable).D)) (y : (List (TTable).D)) (K : AV → Hp → Prop) : awp C14 (L14 x y) ann14 (bodyOf Go.Proofs.Tryz.f14) ⟨argEnv 0 [.data (Ty.sl TTable) x, .data (Ty.sl TTable) y], []⟩ (outK tab Go.Proofs.Tryz.f14.results.toList (hasBox []) (resK (.dat Ty.bool) K)) =
  (cond (!decide ((x.length : Int) = (y.length : Int))) (K (.data Ty.bool false) []) ((∃ m_, (True) ∧ LoopI (fun (i0 : Int) (v0 : Unit) => (⟨[(0, .data (Ty.sl TTable) x), (1, .data (Ty.sl TTable) y), (5, .data (Ty.int .i64) i0)], []⟩ : St)) (0 : Int) (x.length : Int) (F.laws_eqTableS_l0 x y) (fun v0 : Unit => True) (outD (fun v0 : Unit => True → K (.data Ty.bool true) []) (fun q0 : Unit => K (.data Ty.bool false) [])) m_ (⟨[(0, .data (Ty.sl TTable) x), (1, .data (Ty.sl TTable) y), (5, .data (Ty.int .i64) (0 : Int))], []⟩ : St)))) := by kernel_rfl
theorem lvc14_0 (x : (List (TTable).D)) (y : (List (TTable).D))  (i0 : Int) (v0 : Unit) (m : Nat) (K : X → St → Prop) : awp C14 (L14 x y) ann14 (loopAt (bodyOf Go.Proofs.Tryz.f14) 0) (⟨[(0, .data (Ty.sl TTable) x), (1, .data (Ty.sl TTable) y), (5, .data (Ty.int .i64) i0)], []⟩ : St) (thenW (fun s' => ∃ m', m' < m ∧ (L14 x y) 0 m' s' K) (exitN 0 (ann14 (behind 0)) K)) =
  (cond (decide (i0 < (x.length : Int))) ((0 ≤ i0) ∧ (i0 < (x.length : Int)) ∧ (0 ≤ i0) ∧ (i0 < (y.length : Int)) ∧ (Sm TTable (nth (t := TTable) x i0)) ∧ (Sm TTable (nth (t := TTable) y i0)) ∧ ((nth (t := TTable) x i0) = (nth (t := TTable) y i0)) ∧ cond (!(true)) (K .ret (⟨[(4, .data Ty.bool false)], []⟩ : St)) ((∃ m_, m_ < m ∧ (L14 x y) 0 m_ (⟨[(0, .data (Ty.sl TTable) x), (1, .data (Ty.sl TTable) y), (5, .data (Ty.int .i64) (wrap64 (i0 + (1 : Int))))], []⟩ : St) K))) (K (.exit 0) (⟨[], []⟩ : St))) := by kernel_rfl
theorem con14_ok : ConOk P 14 c14 := by
  refine con_okR (fn := Go.Proofs.Tryz.f14) (code := bodyOf Go.Proofs.Tryz.f14) (tab_ok tab_check cmp_check) consOk14 mixed Go.Proofs.Tryz.func14 rfl rfl fun args hp K h0 => ?_
  obtain ⟨a0, a1, rfl, rfl, h1⟩ := args2_elim h0
  obtain ⟨x, rfl, h2⟩ := withD_elim h1
  obtain ⟨y, rfl, h3⟩ := withD_elim h2
  obtain ⟨h_x, h_y, p0, hK⟩ := h3
  have h : ok (F.laws_eqTableS x y) (fun r => K (.data Ty.bool r) []) := ok_of_eq (F.laws_eqTableS_eq x y h_x h_y p0) hK
  refine ⟨⟨show (2 : Nat) ≤ 27 by decide, show (2 : Nat) ≤ 1000000 by decide⟩, ann14, (L14 x y), (.dat Ty.bool), (loopsN1 (i0 := 0) (by kernel_rfl) ?_), ?_⟩
  · clear h
    intro m_ s_ K_ h
    obtain ⟨hc0, i0, v0, rfl, hl0, rfl, hv0, h⟩ := (show LP14_0 x y m_ s_ K_ from h)
    rw [lvc14_0 x y i0 v0 _ K_]
    exact (loopI_step h (fun ht0 h => ⟨hl0, ⟨ht0, ⟨hl0, ⟨(ok_guard h).1, have g_14 := (ok_guard h).1; have h := (ok_guard h).2; ⟨(sm_nth h_x i0), ⟨(sm_nth h_y i0), ⟨(ok_guard h).1, have g_15 := (ok_guard h).1; have h := (ok_guard h).2; (ok_cond h (fun b_16 h => (have h := ok_ret h; h)) (fun b_16 h => (loopI_next (fun m hm => (show LP14_0 x y m _ _ from ⟨hc0, hm⟩)) () rfl hl0 low0 ht0 (sm_len h_x) trivial (have h := ok_ret h; h))))⟩⟩⟩⟩⟩⟩⟩) (fun h => (h trivial)))
  · rw [vc14 x y K]
    exact (ok_cond h (fun b_1 h => (have h := ok_ret h; h)) (fun b_1 h => (loopI_start (fun m hm => ⟨trivial, hm⟩) (0 : Int) () rfl (Int.natCast_nonneg 0) trivial (ok_then h (fun v0 h hv0 => (have h := ok_ret h; h)) (fun q0 h => (have h := ok_ret h; h))))))

/-! 116: loop.example/tablehouse/laws.szPart -/
def c116 : Con := ⟨[.dat TPart, .dat (Ty.int .i64)], fun args hp K => args2 (fun a0 a1 => withD TPart a0 fun x => withD (Ty.int .i64) a1 fun left => (Ln TPart x) ∧ (0 ≤ left) ∧ (left ≤ 1048576) ∧ K (.data (Ty.int .i64) (M.szPart x left)) []) args hp⟩
def cons116 : Cons := [(155, c155)]
def inl116 : List (Nat × Inl) := []
@[reducible] def C116 : Ctx := ⟨tab, fun t => memN t cmps, cons116, 12, inl116, 0⟩
theorem consOk116 : ConsOk P C116 := by
  refine consOk_cons (enter_ok (fn := Go.Proofs.Tryz.f155) Go.Proofs.Tryz.func155 (by kernel_rfl) rfl) con155_ok ?_
  exact consOk_nil
def ann116 : Nat → List Dir
  | 0 => [.fixRow 2 TPart, .keep [1, 2]]
  | 1 => [.keep [1]]
  | 2 => [.keep [1, 10]]
  | 3 => [.keep [4]]
  | 4 => [.keep [4]]
  | _ => []
def L116 (x : (TPart).D) (left : Int) : Loops := fun id m st_ K => match id with
  | _ => False
theorem vc116 (x : (TPart).D) (left : Int) (K : AV → Hp → Prop) : awp C116 (L116 x left) ann116 (bodyOf Go.Proofs.Tryz.f116) ⟨argEnv 0 [.data TPart x, .data (Ty.int .i64) left], []⟩ (outK tab Go.Proofs.Tryz.f116.results.toList (hasBox []) (resK (.dat (Ty.int .i64)) K)) =
  ((Ln TValue x.2.2.1) ∧ (0 ≤ left) ∧ (left ≤ 1048576) ∧ cond (decide ((M.szValue x.2.2.1 left) < (0 : Int))) (K (.data (Ty.int .i64) (-1 : Int)) []) (K (.data (Ty.int .i64) (M.szValue x.2.2.1 left)) [])) := by kernel_rfl
theorem con116_ok : ConOk P 116 c116 := by
  refine con_okR (fn := Go.Proofs.Tryz.f116) (code := bodyOf Go.Proofs.Tryz.f116) (tab_ok tab_check cmp_check) consOk116 mixed Go.Proofs.Tryz.func116 rfl rfl fun args hp K h0 => ?_
  obtain ⟨a0, a1, rfl, rfl, h1⟩ := args2_elim h0
  obtain ⟨x, rfl, h2⟩ := withD_elim h1
  obtain ⟨left, rfl, h3⟩ := withD_elim h2
  obtain ⟨h_x, p0, p1, hK⟩ := h3
  have h : ok (F.laws_szPart x left) (fun r => K (.data (Ty.int .i64) r) []) := ok_of_eq (F.laws_szPart_eq x left h_x p0 p1) hK
  refine ⟨⟨show (2 : Nat) ≤ 12 by decide, show (2 : Nat) ≤ 1000000 by decide⟩, ann116, (L116 x left), (.dat (Ty.int .i64)), (no_loops (by kernel_rfl)), ?_⟩
  · rw [vc116 x left K]
    exact ⟨h_x.2.2.1, ⟨p0, ⟨p1, (ok_cond h (fun b_1 h => (have h := ok_ret h; h)) (fun b_1 h => (have h := ok_ret h; h)))⟩⟩⟩

/-! 75: loop.example/tablehouse/laws.szPartS -/
def c75 : Con := ⟨[.dat (Ty.sl TPart), .dat (Ty.int .i64)], fun args hp K => args2 (fun a0 a1 => withD (Ty.sl TPart) a0 fun x => withD (Ty.int .i64) a1 fun left => (Ln (Ty.sl TPart) x) ∧ (0 ≤ left) ∧ (left ≤ 1048576) ∧ K (.data (Ty.int .i64) (M.szS M.szPart x left)) []) args hp⟩
def cons75 : Cons := [(116, c116)]
def inl75 : List (Nat × Inl) := []
@[reducible] def C75 : Ctx := ⟨tab, fun t => memN t cmps, cons75, 27, inl75, 0⟩
theorem consOk75 : ConsOk P C75 := by
  refine consOk_cons (enter_ok (fn := Go.Proofs.Tryz.f116) Go.Proofs.Tryz.func116 (by kernel_rfl) rfl) con116_ok ?_
  exact consOk_nil
def ann75 : Nat → List Dir
  | 0 => [.keep [0, 1]]
  | 1 => [.keep [0, 1]]
  | 2 => [.keep [0, 1, 11]]
  | 3 => [.keep [4]]
  | 4 => [.keep [0, 1, 5]]
  | 5 => [.keep [0, 1, 5, 15]]
  | 6 => [.keep [0, 1, 5]]
  | 7 => [.keep [0, 1, 5]]
  | 8 => [.keep [0, 1, 5, 25]]
  | 9 => [.keep [4]]
  | 10 => [.keep [4]]
  | 100000 => [.keep [1]]
  | _ => []
@[reducible] def LP75_0 (x : (List (TPart).D)) (left : Int) (m : Nat) (st_ : St) (K : X → St → Prop) : Prop := (True) ∧ LoopE (t := TPart) (fun (i0 : Int) (v0 : Int) => (⟨[(0, .data (Ty.sl TPart) x), (1, .data (Ty.int .i64) v0), (5, .data (Ty.int .i64) i0)], []⟩ : St)) x (F.laws_szPartS_l0 x left) (fun v0 : Int => True) (outD (fun v0 : Int => True → K (.exit 0) (⟨[(1, .data (Ty.int .i64) v0)], []⟩ : St)) (fun q0 : Unit => K .ret (⟨[(4, .data (Ty.int .i64) (-1 : Int))], []⟩ : St))) m st_
def L75 (x : (List (TPart).D)) (left : Int) : Loops := fun id m st_ K => match id with
  | 0 => LP75_0 x left m st_ K
  | _ => False
theorem vc75 (x : (List (TPart).D)) (left : Int) (K : AV → Hp → Prop) : awp C75 (L75 x left) ann75 (bodyOf Go.Proofs.Tryz.f75) ⟨argEnv 0 [.data (Ty.sl TPart) x, .data (Ty.int .i64) left], []⟩ (outK tab Go.Proofs.Tryz.f75.results.toList (hasBox []) (resK (.dat (Ty.int .i64)) K)) =
  (cond (decide (wrap64 (left - (x.length : Int)) < (0 : Int))) (K (.data (Ty.int .i64) (-1 : Int)) []) ((∃ m_, (True) ∧ LoopE (t := TPart) (fun (i0 : Int) (v0 : Int) => (⟨[(0, .data (Ty.sl TPart) x), (1, .data (Ty.int .i64) v0), (5, .data (Ty.int .i64) i0)], []⟩ : St)) x (F.laws_szPartS_l0 x left) (fun v0 : Int => True) (outD (fun v0 : Int => True → K (.data (Ty.int .i64) v0) []) (fun q0 : Unit => K (.data (Ty.int .i64) (-1 : Int)) [])) m_ (⟨[(0, .data (Ty.sl TPart) x), (1, .data (Ty.int .i64) (wrap64 (left - (x.length : Int)))), (5, .data (Ty.int .i64) (0 : Int))], []⟩ : St)))) := by kernel_rfl
theorem lvc75_0 (x : (List (TPart).D)) (left : Int)  (i0 : Int) (v0 : Int) (m : Nat) (K : X → St → Prop) : awp C75 (L75 x left) ann75 (loopAt (bodyOf Go.Proofs.Tryz.f75) 0) (⟨[(0, .data (Ty.sl TPart) x), (1, .data (Ty.int .i64) v0), (5, .data (Ty.int .i64) i0)], []⟩ : St) (thenW (fun s' => ∃ m', m' < m ∧ (L75 x left) 0 m' s' K) (exitN 0 (ann75 (behind 0)) K)) =
  (cond (decide (i0 < (x.length : Int))) ((0 ≤ i0) ∧ (i0 < (x.length : Int)) ∧ (Ln TPart (nth (t := TPart) x i0)) ∧ (0 ≤ v0) ∧ (v0 ≤ 1048576) ∧ cond (decide ((M.szPart (nth (t := TPart) x i0) v0) < (0 : Int))) (K .ret (⟨[(4, .data (Ty.int .i64) (-1 : Int))], []⟩ : St)) ((∃ m_, m_ < m ∧ (L75 x left) 0 m_ (⟨[(0, .data (Ty.sl TPart) x), (1, .data (Ty.int .i64) (M.szPart (nth (t := TPart) x i0) v0)), (5, .data (Ty.int .i64) (wrap64 (i0 + (1 : Int))))], []⟩ : St) K))) (K (.exit 0) (⟨[(1, .data (Ty.int .i64) v0)], []⟩ : St))) := by kernel_rfl
theorem con75_ok : ConOk P 75 c75 := by
  refine con_okR (fn := Go.Proofs.Tryz.f75) (code := bodyOf Go.Proofs.Tryz.f75) (tab_ok tab_check cmp_check) consOk75 mixed Go.Proofs.Tryz.func75 rfl rfl fun args hp K h0 => ?_
  obtain ⟨a0, a1, rfl, rfl, h1⟩ := args2_elim h0
  obtain ⟨x, rfl, h2⟩ := withD_elim h1
  obtain ⟨left, rfl, h3⟩ := withD_elim h2
  obtain ⟨h_x, p0, p1, hK⟩ := h3
  have h : ok (F.laws_szPartS x left) (fun r => K (.data (Ty.int .i64) r) []) := ok_of_eq (F.laws_szPartS_eq x left h_x p0 p1) hK
  refine ⟨⟨show (2 : Nat) ≤ 27 by decide, show (2 : Nat) ≤ 1000000 by decide⟩, ann75, (L75 x left), (.dat (Ty.int .i64)), (loopsN1 (i0 := 0) (by kernel_rfl) ?_), ?_⟩
  · clear h
    intro m_ s_ K_ h
    obtain ⟨hc0, i0, v0, rfl, hl0, rfl, hv0, h⟩ := (show LP75_0 x left m_ s_ K_ from h)
    rw [lvc75_0 x left i0 v0 _ K_]
    exact (loopE_step (t := TPart) hl0 h (fun ht0 h => ⟨hl0, ⟨ht0, ⟨(sm_nth h_x i0), ⟨(ok_guard h).1, have g_14 := (ok_guard h).1; have h := (ok_guard h).2; ⟨(ok_guard h).1, have g_15 := (ok_guard h).1; have h := (ok_guard h).2; (ok_cond h (fun b_16 h => (have h := ok_ret h; h)) (fun b_16 h => (loopE_next (t := TPart) (fun m hm => (show LP75_0 x left m _ _ from ⟨hc0, hm⟩)) (M.szPart (nth (t := TPart) x i0) v0) rfl hl0 ht0 (sm_len h_x) trivial (have h := ok_ret h; h))))⟩⟩⟩⟩⟩) (fun h => (h trivial)))
  · rw [vc75 x left K]
    exact (ok_cond h (fun b_1 h => (have h := ok_ret h; h)) (fun b_1 h => (loopE_start (t := TPart) (fun m hm => ⟨trivial, hm⟩) (wrap64 (left - (x.length : Int))) rfl trivial (ok_then h (fun v0 h hv0 => (have h := ok_ret h; h)) (fun q0 h => (have h := ok_ret h; h))))))

/-! 76: loop.example/tablehouse/laws.szIntS -/
def c76 : Con := ⟨[.dat (Ty.sl (Ty.int .i64)), .dat (Ty.int .i64)], fun args hp K => args2 (fun a0 a1 => withD (Ty.sl (Ty.int .i64)) a0 fun x => withD (Ty.int .i64) a1 fun left => (Ln (Ty.sl (Ty.int .i64)) x) ∧ (0 ≤ left) ∧ (left ≤ 1048576) ∧ K (.data (Ty.int .i64) (M.szLen x.length left)) []) args hp⟩
def cons76 : Cons := []
def inl76 : List (Nat × Inl) := []
@[reducible] def C76 : Ctx := ⟨tab, fun t => memN t cmps, cons76, 12, inl76, 0⟩
theorem consOk76 : ConsOk P C76 := by
  exact consOk_nil
def ann76 : Nat → List Dir
  | 0 => [.keep [0, 1]]
  | 1 => [.keep [1]]
  | 2 => [.keep [1, 10]]
  | 3 => [.keep [4]]
  | 4 => [.keep [4]]
  | _ => []
def L76 (x : (List Int)) (left : Int) : Loops := fun id m st_ K => match id with
  | _ => False
theorem vc76 (x : (List Int)) (left : Int) (K : AV → Hp → Prop) : awp C76 (L76 x left) ann76 (bodyOf Go.Proofs.Tryz.f76) ⟨argEnv 0 [.data (Ty.sl (Ty.int .i64)) x, .data (Ty.int .i64) left], []⟩ (outK tab Go.Proofs.Tryz.f76.results.toList (hasBox []) (resK (.dat (Ty.int .i64)) K)) =
  (cond (decide (wrap64 (left - (x.length : Int)) < (0 : Int))) (K (.data (Ty.int .i64) (-1 : Int)) []) (K (.data (Ty.int .i64) (wrap64 (left - (x.length : Int)))) [])) := by kernel_rfl
theorem con76_ok : ConOk P 76 c76 := by
  refine con_okR (fn := Go.Proofs.Tryz.f76) (code := bodyOf Go.Proofs.Tryz.f76) (tab_ok tab_check cmp_check) consOk76 mixed Go.Proofs.Tryz.func76 rfl rfl fun args hp K h0 => ?_
  obtain ⟨a0, a1, rfl, rfl, h1⟩ := args2_elim h0
  obtain ⟨x, rfl, h2⟩ := withD_elim h1
  obtain ⟨left, rfl, h3⟩ := withD_elim h2
  obtain ⟨h_x, p0, p1, hK⟩ := h3
  have h : ok (F.laws_szIntS x left) (fun r => K (.data (Ty.int .i64) r) []) := ok_of_eq (F.laws_szIntS_eq x left h_x p0 p1) hK
  refine ⟨⟨show (2 : Nat) ≤ 12 by decide, show (2 : Nat) ≤ 1000000 by decide⟩, ann76, (L76 x left), (.dat (Ty.int .i64)), (no_loops (by kernel_rfl)), ?_⟩
  · rw [vc76 x left K]
    exact (ok_cond h (fun b_1 h => (have h := ok_ret h; h)) (fun b_1 h => (have h := ok_ret h; h)))

/-! 62: loop.example/tablehouse/laws.szBond -/
def c62 : Con := ⟨[.dat TBond, .dat (Ty.int .i64)], fun args hp K => args2 (fun a0 a1 => withD TBond a0 fun x => withD (Ty.int .i64) a1 fun left => (Ln TBond x) ∧ (0 ≤ left) ∧ (left ≤ 1048576) ∧ K (.data (Ty.int .i64) (M.szBond x left)) []) args hp⟩
def cons62 : Cons := [(75, c75), (76, c76)]
def inl62 : List (Nat × Inl) := []
@[reducible] def C62 : Ctx := ⟨tab, fun t => memN t cmps, cons62, 24, inl62, 0⟩
theorem consOk62 : ConsOk P C62 := by
  refine consOk_cons (enter_ok (fn := Go.Proofs.Tryz.f75) Go.Proofs.Tryz.func75 (by kernel_rfl) rfl) con75_ok ?_
  refine consOk_cons (enter_ok (fn := Go.Proofs.Tryz.f76) Go.Proofs.Tryz.func76 (by kernel_rfl) rfl) con76_ok ?_
  exact consOk_nil
def ann62 : Nat → List Dir
  | 0 => [.fixRow 2 TBond, .keep [1, 2]]
  | 1 => [.keep [1, 2]]
  | 2 => [.keep [1, 2, 10]]
  | 3 => [.keep [4]]
  | 4 => [.keep [1, 2]]
  | 5 => [.keep [1, 2, 16]]
  | 6 => [.keep [4]]
  | 7 => [.keep [1]]
  | 8 => [.keep [1, 22]]
  | 9 => [.keep [4]]
  | 10 => [.keep [4]]
  | _ => []
def L62 (x : (TBond).D) (left : Int) : Loops := fun id m st_ K => match id with
  | _ => False
theorem vc62 (x : (TBond).D) (left : Int) (K : AV → Hp → Prop) : awp C62 (L62 x left) ann62 (bodyOf Go.Proofs.Tryz.f62) ⟨argEnv 0 [.data TBond x, .data (Ty.int .i64) left], []⟩ (outK tab Go.Proofs.Tryz.f62.results.toList (hasBox []) (resK (.dat (Ty.int .i64)) K)) =
  ((Ln (Ty.sl (Ty.int .i64)) x.2.2.1) ∧ (0 ≤ left) ∧ (left ≤ 1048576) ∧ cond (decide ((M.szLen x.2.2.1.length left) < (0 : Int))) (K (.data (Ty.int .i64) (-1 : Int)) []) ((Ln (Ty.sl (Ty.int .i64)) x.2.2.2.2.1) ∧ (0 ≤ (M.szLen x.2.2.1.length left)) ∧ ((M.szLen x.2.2.1.length left) ≤ 1048576) ∧ cond (decide ((M.szLen x.2.2.2.2.1.length (M.szLen x.2.2.1.length left)) < (0 : Int))) (K (.data (Ty.int .i64) (-1 : Int)) []) ((Ln (Ty.sl TPart) x.2.2.2.2.2.2.1) ∧ (0 ≤ (M.szLen x.2.2.2.2.1.length (M.szLen x.2.2.1.length left))) ∧ ((M.szLen x.2.2.2.2.1.length (M.szLen x.2.2.1.length left)) ≤ 1048576) ∧ cond (decide ((M.szS M.szPart x.2.2.2.2.2.2.1 (M.szLen x.2.2.2.2.1.length (M.szLen x.2.2.1.length left))) < (0 : Int))) (K (.data (Ty.int .i64) (-1 : Int)) []) (K (.data (Ty.int .i64) (M.szS M.szPart x.2.2.2.2.2.2.1 (M.szLen x.2.2.2.2.1.length (M.szLen x.2.2.1.length left)))) [])))) := by kernel_rfl
theorem con62_ok : ConOk P 62 c62 := by
  refine con_okR (fn := Go.Proofs.Tryz.f62) (code := bodyOf Go.Proofs.Tryz.f62) (tab_ok tab_check cmp_check) consOk62 mixed Go.Proofs.Tryz.func62 rfl rfl fun args hp K h0 => ?_
  obtain ⟨a0, a1, rfl, rfl, h1⟩ := args2_elim h0
  obtain ⟨x, rfl, h2⟩ := withD_elim h1
  obtain ⟨left, rfl, h3⟩ := withD_elim h2
  obtain ⟨h_x, p0, p1, hK⟩ := h3
  have h : ok (F.laws_szBond x left) (fun r => K (.data (Ty.int .i64) r) []) := ok_of_eq (F.laws_szBond_eq x left h_x p0 p1) hK
  refine ⟨⟨show (2 : Nat) ≤ 24 by decide, show (2 : Nat) ≤ 1000000 by decide⟩, ann62, (L62 x left), (.dat (Ty.int .i64)), (no_loops (by kernel_rfl)), ?_⟩
  · rw [vc62 x left K]
    exact ⟨h_x.2.2.1, ⟨p0, ⟨p1, (ok_cond h (fun b_1 h => (have h := ok_ret h; h)) (fun b_1 h => ⟨h_x.2.2.2.2.1, ⟨(ok_guard h).1, have g_2 := (ok_guard h).1; have h := (ok_guard h).2; ⟨(ok_guard h).1, have g_3 := (ok_guard h).1; have h := (ok_guard h).2; (ok_cond h (fun b_4 h => (have h := ok_ret h; h)) (fun b_4 h => ⟨h_x.2.2.2.2.2.2.1, ⟨(ok_guard h).1, have g_5 := (ok_guard h).1; have h := (ok_guard h).2; ⟨(ok_guard h).1, have g_6 := (ok_guard h).1; have h := (ok_guard h).2; (ok_cond h (fun b_7 h => (have h := ok_ret h; h)) (fun b_7 h => (have h := ok_ret h; h)))⟩⟩⟩))⟩⟩⟩))⟩⟩⟩

/-! 25: loop.example/tablehouse/laws.szBondS -/
def c25 : Con := ⟨[.dat (Ty.sl TBond), .dat (Ty.int .i64)], fun args hp K => args2 (fun a0 a1 => withD (Ty.sl TBond) a0 fun x => withD (Ty.int .i64) a1 fun left => (Ln (Ty.sl TBond) x) ∧ (0 ≤ left) ∧ (left ≤ 1048576) ∧ K (.data (Ty.int .i64) (M.szS M.szBond x left)) []) args hp⟩
def cons25 : Cons := [(62, c62)]
def inl25 : List (Nat × Inl) := []
@[reducible] def C25 : Ctx := ⟨tab, fun t => memN t cmps, cons25, 27, inl25, 0⟩
theorem consOk25 : ConsOk P C25 := by
  refine consOk_cons (enter_ok (fn := Go.Proofs.Tryz.f62) Go.Proofs.Tryz.func62 (by kernel_rfl) rfl) con62_ok ?_
  exact consOk_nil
def ann25 : Nat → List Dir
  | 0 => [.keep [0, 1]]
  | 1 => [.keep [0, 1]]
  | 2 => [.keep [0, 1, 11]]
  | 3 => [.keep [4]]
  | 4 => [.keep [0, 1, 5]]
  | 5 => [.keep [0, 1, 5, 15]]
  | 6 => [.keep [0, 1, 5]]
  | 7 => [.keep [0, 1, 5]]
  | 8 => [.keep [0, 1, 5, 25]]
  | 9 => [.keep [4]]
  | 10 => [.keep [4]]
  | 100000 => [.keep [1]]
  | _ => []
@[reducible] def LP25_0 (x : (List (TBond).D)) (left : Int) (m : Nat) (st_ : St) (K : X → St → Prop) : Prop := (True) ∧ LoopE (t := TBond) (fun (i0 : Int) (v0 : Int) => (⟨[(0, .data (Ty.sl TBond) x), (1, .data (Ty.int .i64) v0), (5, .data (Ty.int .i64) i0)], []⟩ : St)) x (F.laws_szBondS_l0 x left) (fun v0 : Int => True) (outD (fun v0 : Int => True → K (.exit 0) (⟨[(1, .data (Ty.int .i64) v0)], []⟩ : St)) (fun q0 : Unit => K .ret (⟨[(4, .data (Ty.int .i64) (-1 : Int))], []⟩ : St))) m st_
def L25 (x : (List (TBond).D)) (left : Int) : Loops := fun id m st_ K => match id with
  | 0 => LP25_0 x left m st_ K
  | _ => False
theorem vc25 (x : (List (TBond).D)) (left : Int) (K : AV → Hp → Prop) : awp C25 (L25 x left) ann25 (bodyOf Go.Proofs.Tryz.f25) ⟨argEnv 0 [.data (Ty.sl TBond) x, .data (Ty.int .i64) left], []⟩ (outK tab Go.Proofs.Tryz.f25.results.toList (hasBox []) (resK (.dat (Ty.int .i64)) K)) =
  (cond (decide (wrap64 (left - (x.length : Int)) < (0 : Int))) (K (.data (Ty.int .i64) (-1 : Int)) []) ((∃ m_, (True) ∧ LoopE (t := TBond) (fun (i0 : Int) (v0 : Int) => (⟨[(0, .data (Ty.sl TBond) x), (1, .data (Ty.int .i64) v0), (5, .data (Ty.int .i64) i0)], []⟩ : St)) x (F.laws_szBondS_l0 x left) (fun v0 : Int => True) (outD (fun v0 : Int => True → K (.data (Ty.int .i64) v0) []) (fun q0 : Unit => K (.data (Ty.int .i64) (-1 : Int)) [])) m_ (⟨[(0, .data (Ty.sl TBond) x), (1, .data (Ty.int .i64) (wrap64 (left - (x.length : Int)))), (5, .data (Ty.int .i64) (0 : Int))], []⟩ : St)))) := by kernel_rfl
theorem lvc25_0 (x : (List (TBond).D)) (left : Int)  (i0 : Int) (v0 : Int) (m : Nat) (K : X → St → Prop) : awp C25 (L25 x left) ann25 (loopAt (bodyOf Go.Proofs.Tryz.f25) 0) (⟨[(0, .data (Ty.sl TBond) x), (1, .data (Ty.int .i64) v0), (5, .data (Ty.int .i64) i0)], []⟩ : St) (thenW (fun s' => ∃ m', m' < m ∧ (L25 x left) 0 m' s' K) (exitN 0 (ann25 (behind 0)) K)) =
  (cond (decide (i0 < (x.length : Int))) ((0 ≤ i0) ∧ (i0 < (x.length : Int)) ∧ (Ln TBond (nth (t := TBond) x i0)) ∧ (0 ≤ v0) ∧ (v0 ≤ 1048576) ∧ cond (decide ((M.szBond (nth (t := TBond) x i0) v0) < (0 : Int))) (K .ret (⟨[(4, .data (Ty.int .i64) (-1 : Int))], []⟩ : St)) ((∃ m_, m_ < m ∧ (L25 x left) 0 m_ (⟨[(0, .data (Ty.sl TBond) x), (1, .data (Ty.int .i64) (M.szBond (nth (t := TBond) x i0) v0)), (5, .data (Ty.int .i64) (wrap64 (i0 + (1 : Int))))], []⟩ : St) K))) (K (.exit 0) (⟨[(1, .data (Ty.int .i64) v0)], []⟩ : St))) := by kernel_rfl
theorem con25_ok : ConOk P 25 c25 := by
  refine con_okR (fn := Go.Proofs.Tryz.f25) (code := bodyOf Go.Proofs.Tryz.f25) (tab_ok tab_check cmp_check) consOk25 mixed Go.Proofs.Tryz.func25 rfl rfl fun args hp K h0 => ?_
  obtain ⟨a0, a1, rfl, rfl, h1⟩ := args2_elim h0
  obtain ⟨x, rfl, h2⟩ := withD_elim h1
  obtain ⟨left, rfl, h3⟩ := withD_elim h2
  obtain ⟨h_x, p0, p1, hK⟩ := h3
  have h : ok (F.laws_szBondS x left) (fun r => K (.data (Ty.int .i64) r) []) := ok_of_eq (F.laws_szBondS_eq x left h_x p0 p1) hK
  refine ⟨⟨show (2 : Nat) ≤ 27 by decide, show (2 : Nat) ≤ 1000000 by decide⟩, ann25, (L25 x left), (.dat (Ty.int .i64)), (loopsN1 (i0 := 0) (by kernel_rfl) ?_), ?_⟩
  · clear h
    intro m_ s_ K_ h
    obtain ⟨hc0, i0, v0, rfl, hl0, rfl, hv0, h⟩ := (show LP25_0 x left m_ s_ K_ from h)
    rw [lvc25_0 x left i0 v0 _ K_]
    exact (loopE_step (t := TBond) hl0 h (fun ht0 h => ⟨hl0, ⟨ht0, ⟨(sm_nth h_x i0), ⟨(ok_guard h).1, have g_14 := (ok_guard h).1; have h := (ok_guard h).2; ⟨(ok_guard h).1, have g_15 := (ok_guard h).1; have h := (ok_guard h).2; (ok_cond h (fun b_16 h => (have h := ok_ret h; h)) (fun b_16 h => (loopE_next (t := TBond) (fun m hm => (show LP25_0 x left m _ _ from ⟨hc0, hm⟩)) (M.szBond (nth (t := TBond) x i0) v0) rfl hl0 ht0 (sm_len h_x) trivial (have h := ok_ret h; h))))⟩⟩⟩⟩⟩) (fun h => (h trivial)))
  · rw [vc25 x left K]
    exact (ok_cond h (fun b_1 h => (have h := ok_ret h; h)) (fun b_1 h => (loopE_start (t := TBond) (fun m hm => ⟨trivial, hm⟩) (wrap64 (left - (x.length : Int))) rfl trivial (ok_then h (fun v0 h hv0 => (have h := ok_ret h; h)) (fun q0 h => (have h := ok_ret h; h))))))

/-! 79: loop.example/tablehouse/spec.l1In -/
def c79 : Con := ⟨[.dat (Ty.int .i64), .dat (Ty.int .i64), .dat (Ty.int .i64)], fun args hp K => args3 (fun a0 a1 a2 => withD (Ty.int .i64) a0 fun n => withD (Ty.int .i64) a1 fun low => withD (Ty.int .i64) a2 fun high => K (.data Ty.bool (M.inR n low high)) []) args hp⟩
def cons79 : Cons := []
def inl79 : List (Nat × Inl) := []
@[reducible] def C79 : Ctx := ⟨tab, fun t => memN t cmps, cons79, 15, inl79, 0⟩
theorem consOk79 : ConsOk P C79 := by
  exact consOk_nil
def ann79 : Nat → List Dir
  | 0 => [.keep [0, 1, 2]]
  | 1 => [.keep [6]]
  | _ => []
def L79 (n : Int) (low : Int) (high : Int) : Loops := fun id m st_ K => match id with
  | _ => False
theorem vc79 (n : Int) (low : Int) (high : Int) (K : AV → Hp → Prop) : awp C79 (L79 n low high) ann79 (bodyOf Go.Proofs.Tryz.f79) ⟨argEnv 0 [.data (Ty.int .i64) n, .data (Ty.int .i64) low, .data (Ty.int .i64) high], []⟩ (outK tab Go.Proofs.Tryz.f79.results.toList (hasBox []) (resK (.dat Ty.bool) K)) =
  (cond ((decide (low ≤ n)) == true) (K (.data Ty.bool (decide (n ≤ high))) []) (K (.data Ty.bool false) [])) := by kernel_rfl
theorem con79_ok : ConOk P 79 c79 := by
  refine con_okR (fn := Go.Proofs.Tryz.f79) (code := bodyOf Go.Proofs.Tryz.f79) (tab_ok tab_check cmp_check) consOk79 mixed Go.Proofs.Tryz.func79 rfl rfl fun args hp K h0 => ?_
  obtain ⟨a0, a1, a2, rfl, rfl, h1⟩ := args3_elim h0
  obtain ⟨n, rfl, h2⟩ := withD_elim h1
  obtain ⟨low, rfl, h3⟩ := withD_elim h2
  obtain ⟨high, rfl, h4⟩ := withD_elim h3
  have hK := h4
  have h : ok (F.spec_l1In n low high) (fun r => K (.data Ty.bool r) []) := ok_of_eq (F.spec_l1In_eq n low high) hK
  refine ⟨⟨show (3 : Nat) ≤ 15 by decide, show (3 : Nat) ≤ 1000000 by decide⟩, ann79, (L79 n low high), (.dat Ty.bool), (no_loops (by kernel_rfl)), ?_⟩
  · rw [vc79 n low high K]
    exact (ok_cond h (fun b_1 h => (have h := ok_ret h; h)) (fun b_1 h => (have h := ok_ret h; h)))

/-! 128: loop.example/tablehouse/spec.ColumnsOk -/
def c128 : Con := ⟨[.dat (Ty.sl TColumn)], fun args hp K => args1 (fun a0 => withD (Ty.sl TColumn) a0 fun columns => (Sm (Ty.sl TColumn) columns) ∧ K (.data Ty.bool (M.columnsOk columns)) []) args hp⟩
def cons128 : Cons := [(79, c79)]
def inl128 : List (Nat × Inl) := []
@[reducible] def C128 : Ctx := ⟨tab, fun t => memN t cmps, cons128, 20, inl128, 0⟩
theorem consOk128 : ConsOk P C128 := by
  refine consOk_cons (enter_ok (fn := Go.Proofs.Tryz.f79) Go.Proofs.Tryz.func79 (by kernel_rfl) rfl) con79_ok ?_
  exact consOk_nil
def ann128 : Nat → List Dir
  | 0 => [.keep [0]]
  | 1 => [.keep [0, 3]]
  | 2 => [.keep [0, 3, 7]]
  | 3 => [.keep [0, 3]]
  | 4 => [.keep [0, 3, 16]]
  | 5 => [.keep [2]]
  | 6 => [.keep [2]]
  | 100000 => [.keep [0]]
  | _ => []
@[reducible] def LP128_0 (columns : (List (TColumn).D)) (m : Nat) (st_ : St) (K : X → St → Prop) : Prop := (True) ∧ LoopE (t := TColumn) (fun (i0 : Int) (v0 : Unit) => (⟨[(0, .data (Ty.sl TColumn) columns), (3, .data (Ty.int .i64) i0)], []⟩ : St)) columns (F.spec_ColumnsOk_l0 columns) (fun v0 : Unit => True) (outD (fun v0 : Unit => True → K (.exit 0) (⟨[(0, .data (Ty.sl TColumn) columns)], []⟩ : St)) (fun q0 : Unit => K .ret (⟨[(2, .data Ty.bool false)], []⟩ : St))) m st_
def L128 (columns : (List (TColumn).D)) : Loops := fun id m st_ K => match id with
  | 0 => LP128_0 columns m st_ K
  | _ => False
theorem vc128 (columns : (List (TColumn).D)) (K : AV → Hp → Prop) : awp C128 (L128 columns) ann128 (bodyOf Go.Proofs.Tryz.f128) ⟨argEnv 0 [.data (Ty.sl TColumn) columns], []⟩ (outK tab Go.Proofs.Tryz.f128.results.toList (hasBox []) (resK (.dat Ty.bool) K)) =
  ((∃ m_, (True) ∧ LoopE (t := TColumn) (fun (i0 : Int) (v0 : Unit) => (⟨[(0, .data (Ty.sl TColumn) columns), (3, .data (Ty.int .i64) i0)], []⟩ : St)) columns (F.spec_ColumnsOk_l0 columns) (fun v0 : Unit => True) (outD (fun v0 : Unit => True → K (.data Ty.bool (decide ((columns.length : Int) ≤ (4 : Int)))) []) (fun q0 : Unit => K (.data Ty.bool false) [])) m_ (⟨[(0, .data (Ty.sl TColumn) columns), (3, .data (Ty.int .i64) (0 : Int))], []⟩ : St))) := by kernel_rfl
theorem lvc128_0 (columns : (List (TColumn).D))  (i0 : Int) (v0 : Unit) (m : Nat) (K : X → St → Prop) : awp C128 (L128 columns) ann128 (loopAt (bodyOf Go.Proofs.Tryz.f128) 0) (⟨[(0, .data (Ty.sl TColumn) columns), (3, .data (Ty.int .i64) i0)], []⟩ : St) (thenW (fun s' => ∃ m', m' < m ∧ (L128 columns) 0 m' s' K) (exitN 0 (ann128 (behind 0)) K)) =
  (cond (decide (i0 < (columns.length : Int))) ((0 ≤ i0) ∧ (i0 < (columns.length : Int)) ∧ cond (!(M.inR ((nth (t := TColumn) columns i0).1) (1 : Int) (3 : Int))) (K .ret (⟨[(2, .data Ty.bool false)], []⟩ : St)) ((∃ m_, m_ < m ∧ (L128 columns) 0 m_ (⟨[(0, .data (Ty.sl TColumn) columns), (3, .data (Ty.int .i64) (wrap64 (i0 + (1 : Int))))], []⟩ : St) K))) (K (.exit 0) (⟨[(0, .data (Ty.sl TColumn) columns)], []⟩ : St))) := by kernel_rfl
theorem con128_ok : ConOk P 128 c128 := by
  refine con_okR (fn := Go.Proofs.Tryz.f128) (code := bodyOf Go.Proofs.Tryz.f128) (tab_ok tab_check cmp_check) consOk128 mixed Go.Proofs.Tryz.func128 rfl rfl fun args hp K h0 => ?_
  obtain ⟨a0, rfl, rfl, h1⟩ := args1_elim h0
  obtain ⟨columns, rfl, h2⟩ := withD_elim h1
  obtain ⟨h_columns, hK⟩ := h2
  have h : ok (F.spec_ColumnsOk columns) (fun r => K (.data Ty.bool r) []) := ok_of_eq (F.spec_ColumnsOk_eq columns h_columns) hK
  refine ⟨⟨show (1 : Nat) ≤ 20 by decide, show (1 : Nat) ≤ 1000000 by decide⟩, ann128, (L128 columns), (.dat Ty.bool), (loopsN1 (i0 := 0) (by kernel_rfl) ?_), ?_⟩
  · clear h
    intro m_ s_ K_ h
    obtain ⟨hc0, i0, v0, rfl, hl0, rfl, hv0, h⟩ := (show LP128_0 columns m_ s_ K_ from h)
    rw [lvc128_0 columns i0 v0 _ K_]
    exact (loopE_step (t := TColumn) hl0 h (fun ht0 h => ⟨hl0, ⟨ht0, (ok_cond h (fun b_9 h => (have h := ok_ret h; h)) (fun b_9 h => (loopE_next (t := TColumn) (fun m hm => (show LP128_0 columns m _ _ from ⟨hc0, hm⟩)) () rfl hl0 ht0 (sm_len h_columns) trivial (have h := ok_ret h; h))))⟩⟩) (fun h => (h trivial)))
  · rw [vc128 columns K]
    exact (loopE_start (t := TColumn) (fun m hm => ⟨trivial, hm⟩) () rfl trivial (ok_then h (fun v0 h hv0 => (have h := ok_ret h; h)) (fun q0 h => (have h := ok_ret h; h))))

/-! 203: loop.example/tablehouse/spec.l1Text -/
def c203 : Con := ⟨[.dat Ty.str], fun args hp K => args1 (fun a0 => withD Ty.str a0 fun s => (Sm Ty.str s) ∧ K (.data Ty.bool (M.text s)) []) args hp⟩
def cons203 : Cons := []
def inl203 : List (Nat × Inl) := []
@[reducible] def C203 : Ctx := ⟨tab, fun t => memN t cmps, cons203, 23, inl203, 0⟩
theorem consOk203 : ConsOk P C203 := by
  exact consOk_nil
def ann203 : Nat → List Dir
  | 0 => [.keep [0]]
  | 1 => [.keep [0, 3]]
  | 2 => [.keep [0, 3, 7]]
  | 3 => [.keep [0, 3]]
  | 4 => [.keep [0, 3, 19]]
  | 5 => [.keep [2]]
  | 6 => [.keep [2]]
  | 100000 => [.keep [0]]
  | _ => []
@[reducible] def LP203_0 (s : ByteArray) (m : Nat) (st_ : St) (K : X → St → Prop) : Prop := (True) ∧ LoopI (fun (i0 : Int) (v0 : Unit) => (⟨[(0, .data Ty.str s), (3, .data (Ty.int .i64) i0)], []⟩ : St)) (0 : Int) (s.size : Int) (F.spec_l1Text_l0 s) (fun v0 : Unit => True) (outD (fun v0 : Unit => True → K (.exit 0) (⟨[(0, .data Ty.str s)], []⟩ : St)) (fun q0 : Unit => K .ret (⟨[(2, .data Ty.bool false)], []⟩ : St))) m st_
def L203 (s : ByteArray) : Loops := fun id m st_ K => match id with
  | 0 => LP203_0 s m st_ K
  | _ => False
theorem vc203 (s : ByteArray) (K : AV → Hp → Prop) : awp C203 (L203 s) ann203 (bodyOf Go.Proofs.Tryz.f203) ⟨argEnv 0 [.data Ty.str s], []⟩ (outK tab Go.Proofs.Tryz.f203.results.toList (hasBox []) (resK (.dat Ty.bool) K)) =
  ((∃ m_, (True) ∧ LoopI (fun (i0 : Int) (v0 : Unit) => (⟨[(0, .data Ty.str s), (3, .data (Ty.int .i64) i0)], []⟩ : St)) (0 : Int) (s.size : Int) (F.spec_l1Text_l0 s) (fun v0 : Unit => True) (outD (fun v0 : Unit => True → K (.data Ty.bool (decide ((s.size : Int) ≤ (6 : Int)))) []) (fun q0 : Unit => K (.data Ty.bool false) [])) m_ (⟨[(0, .data Ty.str s), (3, .data (Ty.int .i64) (0 : Int))], []⟩ : St))) := by kernel_rfl
theorem lvc203_0 (s : ByteArray)  (i0 : Int) (v0 : Unit) (m : Nat) (K : X → St → Prop) : awp C203 (L203 s) ann203 (loopAt (bodyOf Go.Proofs.Tryz.f203) 0) (⟨[(0, .data Ty.str s), (3, .data (Ty.int .i64) i0)], []⟩ : St) (thenW (fun s' => ∃ m', m' < m ∧ (L203 s) 0 m' s' K) (exitN 0 (ann203 (behind 0)) K)) =
  (cond (decide (i0 < (s.size : Int))) ((0 ≤ i0) ∧ (i0 < (s.size : Int)) ∧ cond ((decide (((s.get! i0.toNat).toNat : Int) < (97 : Int))) == false) ((0 ≤ i0) ∧ (i0 < (s.size : Int)) ∧ cond (decide ((122 : Int) < ((s.get! i0.toNat).toNat : Int))) (K .ret (⟨[(2, .data Ty.bool false)], []⟩ : St)) ((∃ m_, m_ < m ∧ (L203 s) 0 m_ (⟨[(0, .data Ty.str s), (3, .data (Ty.int .i64) (wrap64 (i0 + (1 : Int))))], []⟩ : St) K))) (K .ret (⟨[(2, .data Ty.bool false)], []⟩ : St))) (K (.exit 0) (⟨[(0, .data Ty.str s)], []⟩ : St))) := by kernel_rfl
theorem con203_ok : ConOk P 203 c203 := by
  refine con_okR (fn := Go.Proofs.Tryz.f203) (code := bodyOf Go.Proofs.Tryz.f203) (tab_ok tab_check cmp_check) consOk203 mixed Go.Proofs.Tryz.func203 rfl rfl fun args hp K h0 => ?_
  obtain ⟨a0, rfl, rfl, h1⟩ := args1_elim h0
  obtain ⟨s, rfl, h2⟩ := withD_elim h1
  obtain ⟨h_s, hK⟩ := h2
  have h : ok (F.spec_l1Text s) (fun r => K (.data Ty.bool r) []) := ok_of_eq (F.spec_l1Text_eq s h_s) hK
  refine ⟨⟨show (1 : Nat) ≤ 23 by decide, show (1 : Nat) ≤ 1000000 by decide⟩, ann203, (L203 s), (.dat Ty.bool), (loopsN1 (i0 := 0) (by kernel_rfl) ?_), ?_⟩
  · clear h
    intro m_ s_ K_ h
    obtain ⟨hc0, i0, v0, rfl, hl0, rfl, hv0, h⟩ := (show LP203_0 s m_ s_ K_ from h)
    rw [lvc203_0 s i0 v0 _ K_]
    exact (loopI_step h (fun ht0 h => ⟨hl0, ⟨ht0, (ok_cond h (fun b_11 h => ⟨hl0, ⟨ht0, (ok_cond h (fun b_12 h => (have h := ok_ret h; h)) (fun b_12 h => (loopI_next (fun m hm => (show LP203_0 s m _ _ from ⟨hc0, hm⟩)) () rfl hl0 low0 ht0 (sm_size h_s) trivial (have h := ok_ret h; h))))⟩⟩) (fun b_11 h => (have h := ok_ret h; h)))⟩⟩) (fun h => (h trivial)))
  · rw [vc203 s K]
    exact (loopI_start (fun m hm => ⟨trivial, hm⟩) (0 : Int) () rfl (Int.natCast_nonneg 0) trivial (ok_then h (fun v0 h hv0 => (have h := ok_ret h; h)) (fun q0 h => (have h := ok_ret h; h))))

/-! 163: loop.example/tablehouse/spec.ValueOk -/
def c163 : Con := ⟨[.dat TValue], fun args hp K => args1 (fun a0 => withD TValue a0 fun v => (Sm TValue v) ∧ K (.data Ty.bool (M.valueOk v)) []) args hp⟩
def cons163 : Cons := [(79, c79), (203, c203)]
def inl163 : List (Nat × Inl) := []
@[reducible] def C163 : Ctx := ⟨tab, fun t => memN t cmps, cons163, 45, inl163, 0⟩
theorem consOk163 : ConsOk P C163 := by
  refine consOk_cons (enter_ok (fn := Go.Proofs.Tryz.f79) Go.Proofs.Tryz.func79 (by kernel_rfl) rfl) con79_ok ?_
  refine consOk_cons (enter_ok (fn := Go.Proofs.Tryz.f203) Go.Proofs.Tryz.func203 (by kernel_rfl) rfl) con203_ok ?_
  exact consOk_nil
def ann163 : Nat → List Dir
  | 0 => [.fixRow 1 TValue, .keep [1]]
  | 1 => [.keep [1, 4]]
  | 2 => [.keep [1, 4, 5]]
  | 3 => [.keep [2]]
  | 4 => [.keep [1, 4, 15]]
  | 5 => [.keep [2]]
  | 6 => [.keep [1, 4, 25]]
  | 7 => [.keep [2]]
  | 8 => [.keep [1, 35]]
  | 9 => [.keep [2]]
  | 10 => [.keep [2]]
  | _ => []
def L163 (v : (TValue).D) : Loops := fun id m st_ K => match id with
  | _ => False
theorem vc163 (v : (TValue).D) (K : AV → Hp → Prop) : awp C163 (L163 v) ann163 (bodyOf Go.Proofs.Tryz.f163) ⟨argEnv 0 [.data TValue v], []⟩ (outK tab Go.Proofs.Tryz.f163.results.toList (hasBox []) (resK (.dat Ty.bool) K)) =
  (cond (decide (v.1 = (0 : Int))) (cond ((decide (v.2.1 = (0 : Int))) == true) (K (.data Ty.bool (decide (v.2.2.1 = (⟨#[]⟩ : ByteArray)))) []) (K (.data Ty.bool false) [])) (cond (decide (v.1 = (1 : Int))) (cond ((M.inR v.2.1 (-9999 : Int) (9999 : Int)) == true) (K (.data Ty.bool (decide (v.2.2.1 = (⟨#[]⟩ : ByteArray)))) []) (K (.data Ty.bool false) [])) (cond (decide (v.1 = (2 : Int))) (cond ((decide (v.2.1 = (0 : Int))) == true) ((Sm Ty.str v.2.2.1) ∧ K (.data Ty.bool (M.text v.2.2.1)) []) (K (.data Ty.bool false) [])) (cond (decide (v.1 = (3 : Int))) (cond ((M.inR v.2.1 (0 : Int) (1 : Int)) == true) (K (.data Ty.bool (decide (v.2.2.1 = (⟨#[]⟩ : ByteArray)))) []) (K (.data Ty.bool false) [])) (K (.data Ty.bool false) []))))) := by kernel_rfl
theorem con163_ok : ConOk P 163 c163 := by
  refine con_okR (fn := Go.Proofs.Tryz.f163) (code := bodyOf Go.Proofs.Tryz.f163) (tab_ok tab_check cmp_check) consOk163 mixed Go.Proofs.Tryz.func163 rfl rfl fun args hp K h0 => ?_
  obtain ⟨a0, rfl, rfl, h1⟩ := args1_elim h0
  obtain ⟨v, rfl, h2⟩ := withD_elim h1
  obtain ⟨h_v, hK⟩ := h2
  have h : ok (F.spec_ValueOk v) (fun r => K (.data Ty.bool r) []) := ok_of_eq (F.spec_ValueOk_eq v h_v) hK
  refine ⟨⟨show (1 : Nat) ≤ 45 by decide, show (1 : Nat) ≤ 1000000 by decide⟩, ann163, (L163 v), (.dat Ty.bool), (no_loops (by kernel_rfl)), ?_⟩
  · rw [vc163 v K]
    exact (ok_cond h (fun b_1 h => (ok_cond h (fun b_2 h => (have h := ok_ret h; h)) (fun b_2 h => (have h := ok_ret h; h)))) (fun b_1 h => (ok_cond h (fun b_3 h => (ok_cond h (fun b_4 h => (have h := ok_ret h; h)) (fun b_4 h => (have h := ok_ret h; h)))) (fun b_3 h => (ok_cond h (fun b_5 h => (ok_cond h (fun b_6 h => ⟨h_v.2.2.1, (have h := ok_ret h; h)⟩) (fun b_6 h => (have h := ok_ret h; h)))) (fun b_5 h => (ok_cond h (fun b_7 h => (ok_cond h (fun b_8 h => (have h := ok_ret h; h)) (fun b_8 h => (have h := ok_ret h; h)))) (fun b_7 h => (have h := ok_ret h; h)))))))))

/-! 199: loop.example/tablehouse/spec.RowOk -/
def c199 : Con := ⟨[.dat (Ty.sl TValue)], fun args hp K => args1 (fun a0 => withD (Ty.sl TValue) a0 fun row => (Sm (Ty.sl TValue) row) ∧ K (.data Ty.bool (M.rowOk row)) []) args hp⟩
def cons199 : Cons := [(163, c163)]
def inl199 : List (Nat × Inl) := []
@[reducible] def C199 : Ctx := ⟨tab, fun t => memN t cmps, cons199, 19, inl199, 0⟩
theorem consOk199 : ConsOk P C199 := by
  refine consOk_cons (enter_ok (fn := Go.Proofs.Tryz.f163) Go.Proofs.Tryz.func163 (by kernel_rfl) rfl) con163_ok ?_
  exact consOk_nil
def ann199 : Nat → List Dir
  | 0 => [.keep [0]]
  | 1 => [.keep [0, 3]]
  | 2 => [.keep [0, 3, 7]]
  | 3 => [.keep [0, 3]]
  | 4 => [.keep [0, 3, 15]]
  | 5 => [.keep [2]]
  | 6 => [.keep [2]]
  | 100000 => [.keep [0]]
  | _ => []
@[reducible] def LP199_0 (row : (List (TValue).D)) (m : Nat) (st_ : St) (K : X → St → Prop) : Prop := (True) ∧ LoopE (t := TValue) (fun (i0 : Int) (v0 : Unit) => (⟨[(0, .data (Ty.sl TValue) row), (3, .data (Ty.int .i64) i0)], []⟩ : St)) row (F.spec_RowOk_l0 row) (fun v0 : Unit => True) (outD (fun v0 : Unit => True → K (.exit 0) (⟨[(0, .data (Ty.sl TValue) row)], []⟩ : St)) (fun q0 : Unit => K .ret (⟨[(2, .data Ty.bool false)], []⟩ : St))) m st_
def L199 (row : (List (TValue).D)) : Loops := fun id m st_ K => match id with
  | 0 => LP199_0 row m st_ K
  | _ => False
theorem vc199 (row : (List (TValue).D)) (K : AV → Hp → Prop) : awp C199 (L199 row) ann199 (bodyOf Go.Proofs.Tryz.f199) ⟨argEnv 0 [.data (Ty.sl TValue) row], []⟩ (outK tab Go.Proofs.Tryz.f199.results.toList (hasBox []) (resK (.dat Ty.bool) K)) =
  ((∃ m_, (True) ∧ LoopE (t := TValue) (fun (i0 : Int) (v0 : Unit) => (⟨[(0, .data (Ty.sl TValue) row), (3, .data (Ty.int .i64) i0)], []⟩ : St)) row (F.spec_RowOk_l0 row) (fun v0 : Unit => True) (outD (fun v0 : Unit => True → K (.data Ty.bool (decide ((row.length : Int) ≤ (4 : Int)))) []) (fun q0 : Unit => K (.data Ty.bool false) [])) m_ (⟨[(0, .data (Ty.sl TValue) row), (3, .data (Ty.int .i64) (0 : Int))], []⟩ : St))) := by kernel_rfl
theorem lvc199_0 (row : (List (TValue).D))  (i0 : Int) (v0 : Unit) (m : Nat) (K : X → St → Prop) : awp C199 (L199 row) ann199 (loopAt (bodyOf Go.Proofs.Tryz.f199) 0) (⟨[(0, .data (Ty.sl TValue) row), (3, .data (Ty.int .i64) i0)], []⟩ : St) (thenW (fun s' => ∃ m', m' < m ∧ (L199 row) 0 m' s' K) (exitN 0 (ann199 (behind 0)) K)) =
  (cond (decide (i0 < (row.length : Int))) ((0 ≤ i0) ∧ (i0 < (row.length : Int)) ∧ (Sm TValue (nth (t := TValue) row i0)) ∧ cond (!(M.valueOk (nth (t := TValue) row i0))) (K .ret (⟨[(2, .data Ty.bool false)], []⟩ : St)) ((∃ m_, m_ < m ∧ (L199 row) 0 m_ (⟨[(0, .data (Ty.sl TValue) row), (3, .data (Ty.int .i64) (wrap64 (i0 + (1 : Int))))], []⟩ : St) K))) (K (.exit 0) (⟨[(0, .data (Ty.sl TValue) row)], []⟩ : St))) := by kernel_rfl
theorem con199_ok : ConOk P 199 c199 := by
  refine con_okR (fn := Go.Proofs.Tryz.f199) (code := bodyOf Go.Proofs.Tryz.f199) (tab_ok tab_check cmp_check) consOk199 mixed Go.Proofs.Tryz.func199 rfl rfl fun args hp K h0 => ?_
  obtain ⟨a0, rfl, rfl, h1⟩ := args1_elim h0
  obtain ⟨row, rfl, h2⟩ := withD_elim h1
  obtain ⟨h_row, hK⟩ := h2
  have h : ok (F.spec_RowOk row) (fun r => K (.data Ty.bool r) []) := ok_of_eq (F.spec_RowOk_eq row h_row) hK
  refine ⟨⟨show (1 : Nat) ≤ 19 by decide, show (1 : Nat) ≤ 1000000 by decide⟩, ann199, (L199 row), (.dat Ty.bool), (loopsN1 (i0 := 0) (by kernel_rfl) ?_), ?_⟩
  · clear h
    intro m_ s_ K_ h
    obtain ⟨hc0, i0, v0, rfl, hl0, rfl, hv0, h⟩ := (show LP199_0 row m_ s_ K_ from h)
    rw [lvc199_0 row i0 v0 _ K_]
    exact (loopE_step (t := TValue) hl0 h (fun ht0 h => ⟨hl0, ⟨ht0, ⟨(sm_nth h_row i0), (ok_cond h (fun b_9 h => (have h := ok_ret h; h)) (fun b_9 h => (loopE_next (t := TValue) (fun m hm => (show LP199_0 row m _ _ from ⟨hc0, hm⟩)) () rfl hl0 ht0 (sm_len h_row) trivial (have h := ok_ret h; h))))⟩⟩⟩) (fun h => (h trivial)))
  · rw [vc199 row K]
    exact (loopE_start (t := TValue) (fun m hm => ⟨trivial, hm⟩) () rfl trivial (ok_then h (fun v0 h hv0 => (have h := ok_ret h; h)) (fun q0 h => (have h := ok_ret h; h))))

/-! 157: loop.example/tablehouse/spec.RowFits -/
def c157 : Con := ⟨[.dat (Ty.sl TColumn), .dat (Ty.sl TValue)], fun args hp K => args2 (fun a0 a1 => withD (Ty.sl TColumn) a0 fun columns => withD (Ty.sl TValue) a1 fun row => (Sm (Ty.sl TColumn) columns) ∧ (Sm (Ty.sl TValue) row) ∧ K (.data Ty.bool (M.rowFits columns row)) []) args hp⟩
def cons157 : Cons := [(128, c128), (199, c199)]
def inl157 : List (Nat × Inl) := []
@[reducible] def C157 : Ctx := ⟨tab, fun t => memN t cmps, cons157, 54, inl157, 0⟩
theorem consOk157 : ConsOk P C157 := by
  refine consOk_cons (enter_ok (fn := Go.Proofs.Tryz.f128) Go.Proofs.Tryz.func128 (by kernel_rfl) rfl) con128_ok ?_
  refine consOk_cons (enter_ok (fn := Go.Proofs.Tryz.f199) Go.Proofs.Tryz.func199 (by kernel_rfl) rfl) con199_ok ?_
  exact consOk_nil
def ann157 : Nat → List Dir
  | 0 => [.keep [0, 1]]
  | 1 => [.keep [0, 1, 20]]
  | 2 => [.keep [4]]
  | 3 => [.keep [0, 1, 5]]
  | 4 => [.keep [0, 1, 5, 24]]
  | 5 => [.keep [0, 1, 5]]
  | 6 => [.keep [0, 1, 5, 53]]
  | 7 => [.keep [4]]
  | 8 => [.keep [4]]
  | 100000 => [.keep []]
  | _ => []
@[reducible] def LP157_0 (columns : (List (TColumn).D)) (row : (List (TValue).D)) (m : Nat) (st_ : St) (K : X → St → Prop) : Prop := (True) ∧ LoopI (fun (i0 : Int) (v0 : Unit) => (⟨[(0, .data (Ty.sl TColumn) columns), (1, .data (Ty.sl TValue) row), (5, .data (Ty.int .i64) i0)], []⟩ : St)) (0 : Int) (row.length : Int) (F.spec_RowFits_l0 columns row) (fun v0 : Unit => True) (outD (fun v0 : Unit => True → K (.exit 0) (⟨[], []⟩ : St)) (fun q0 : Unit => K .ret (⟨[(4, .data Ty.bool false)], []⟩ : St))) m st_
def L157 (columns : (List (TColumn).D)) (row : (List (TValue).D)) : Loops := fun id m st_ K => match id with
  | 0 => LP157_0 columns row m st_ K
  | _ => False
theorem vc157 (columns : (List (TColumn).D)) (row : (List (TValue).D)) (K : AV → Hp → Prop) : awp C157 (L157 columns row) ann157 (bodyOf Go.Proofs.Tryz.f157) ⟨argEnv 0 [.data (Ty.sl TColumn) columns, .data (Ty.sl TValue) row], []⟩ (outK tab Go.Proofs.Tryz.f157.results.toList (hasBox []) (resK (.dat Ty.bool) K)) =
  ((Sm (Ty.sl TColumn) columns) ∧ cond ((!(M.columnsOk columns)) == false) ((Sm (Ty.sl TValue) row) ∧ cond ((!(M.rowOk row)) == false) (cond (!decide ((row.length : Int) = (columns.length : Int))) (K (.data Ty.bool false) []) ((∃ m_, (True) ∧ LoopI (fun (i0 : Int) (v0 : Unit) => (⟨[(0, .data (Ty.sl TColumn) columns), (1, .data (Ty.sl TValue) row), (5, .data (Ty.int .i64) i0)], []⟩ : St)) (0 : Int) (row.length : Int) (F.spec_RowFits_l0 columns row) (fun v0 : Unit => True) (outD (fun v0 : Unit => True → K (.data Ty.bool true) []) (fun q0 : Unit => K (.data Ty.bool false) [])) m_ (⟨[(0, .data (Ty.sl TColumn) columns), (1, .data (Ty.sl TValue) row), (5, .data (Ty.int .i64) (0 : Int))], []⟩ : St)))) (K (.data Ty.bool false) [])) (K (.data Ty.bool false) [])) := by kernel_rfl
theorem lvc157_0 (columns : (List (TColumn).D)) (row : (List (TValue).D))  (i0 : Int) (v0 : Unit) (m : Nat) (K : X → St → Prop) : awp C157 (L157 columns row) ann157 (loopAt (bodyOf Go.Proofs.Tryz.f157) 0) (⟨[(0, .data (Ty.sl TColumn) columns), (1, .data (Ty.sl TValue) row), (5, .data (Ty.int .i64) i0)], []⟩ : St) (thenW (fun s' => ∃ m', m' < m ∧ (L157 columns row) 0 m' s' K) (exitN 0 (ann157 (behind 0)) K)) =
  (cond (decide (i0 < (row.length : Int))) ((0 ≤ i0) ∧ (i0 < (row.length : Int)) ∧ (0 ≤ i0) ∧ (i0 < (columns.length : Int)) ∧ cond ((!decide ((nth (t := TValue) row i0).1 = (nth (t := TColumn) columns i0).1)) == true) ((0 ≤ i0) ∧ (i0 < (row.length : Int)) ∧ cond ((!decide ((nth (t := TValue) row i0).1 = (0 : Int))) == false) ((0 ≤ i0) ∧ (i0 < (columns.length : Int)) ∧ cond (!(((nth (t := TColumn) columns i0).2).1)) (K .ret (⟨[(4, .data Ty.bool false)], []⟩ : St)) ((∃ m_, m_ < m ∧ (L157 columns row) 0 m_ (⟨[(0, .data (Ty.sl TColumn) columns), (1, .data (Ty.sl TValue) row), (5, .data (Ty.int .i64) (wrap64 (i0 + (1 : Int))))], []⟩ : St) K))) (K .ret (⟨[(4, .data Ty.bool false)], []⟩ : St))) ((∃ m_, m_ < m ∧ (L157 columns row) 0 m_ (⟨[(0, .data (Ty.sl TColumn) columns), (1, .data (Ty.sl TValue) row), (5, .data (Ty.int .i64) (wrap64 (i0 + (1 : Int))))], []⟩ : St) K))) (K (.exit 0) (⟨[], []⟩ : St))) := by kernel_rfl
theorem con157_ok : ConOk P 157 c157 := by
  refine con_okR (fn := Go.Proofs.Tryz.f157) (code := bodyOf Go.Proofs.Tryz.f157) (tab_ok tab_check cmp_check) consOk157 mixed Go.Proofs.Tryz.func157 rfl rfl fun args hp K h0 => ?_
  obtain ⟨a0, a1, rfl, rfl, h1⟩ := args2_elim h0
  obtain ⟨columns, rfl, h2⟩ := withD_elim h1
  obtain ⟨row, rfl, h3⟩ := withD_elim h2
  obtain ⟨h_columns, h_row, hK⟩ := h3
  have h : ok (F.spec_RowFits columns row) (fun r => K (.data Ty.bool r) []) := ok_of_eq (F.spec_RowFits_eq columns row h_columns h_row) hK
  refine ⟨⟨show (2 : Nat) ≤ 54 by decide, show (2 : Nat) ≤ 1000000 by decide⟩, ann157, (L157 columns row), (.dat Ty.bool), (loopsN1 (i0 := 0) (by kernel_rfl) ?_), ?_⟩
  · clear h
    intro m_ s_ K_ h
    obtain ⟨hc0, i0, v0, rfl, hl0, rfl, hv0, h⟩ := (show LP157_0 columns row m_ s_ K_ from h)
    rw [lvc157_0 columns row i0 v0 _ K_]
    exact (loopI_step h (fun ht0 h => ⟨hl0, ⟨ht0, ⟨hl0, ⟨(ok_guard h).1, have g_18 := (ok_guard h).1; have h := (ok_guard h).2; (ok_cond h (fun b_19 h => ⟨hl0, ⟨ht0, (ok_cond h (fun b_20 h => ⟨hl0, ⟨g_18, (ok_cond h (fun b_21 h => (have h := ok_ret h; h)) (fun b_21 h => (loopI_next (fun m hm => (show LP157_0 columns row m _ _ from ⟨hc0, hm⟩)) () rfl hl0 low0 ht0 (sm_len h_row) trivial (have h := ok_ret h; h))))⟩⟩) (fun b_20 h => (have h := ok_ret h; h)))⟩⟩) (fun b_19 h => (loopI_next (fun m hm => (show LP157_0 columns row m _ _ from ⟨hc0, hm⟩)) () rfl hl0 low0 ht0 (sm_len h_row) trivial (have h := ok_ret h; h))))⟩⟩⟩⟩) (fun h => (h trivial)))
  · rw [vc157 columns row K]
    exact ⟨h_columns, (ok_cond h (fun b_1 h => ⟨h_row, (ok_cond h (fun b_2 h => (ok_cond h (fun b_3 h => (have h := ok_ret h; h)) (fun b_3 h => (loopI_start (fun m hm => ⟨trivial, hm⟩) (0 : Int) () rfl (Int.natCast_nonneg 0) trivial (ok_then h (fun v0 h hv0 => (have h := ok_ret h; h)) (fun q0 h => (have h := ok_ret h; h))))))) (fun b_2 h => (have h := ok_ret h; h)))⟩) (fun b_1 h => (have h := ok_ret h; h)))⟩

/-! 119: loop.example/tablehouse/spec.RowsOk -/
def c119 : Con := ⟨[.dat (Ty.sl TColumn), .dat (Ty.sl (Ty.sl TValue))], fun args hp K => args2 (fun a0 a1 => withD (Ty.sl TColumn) a0 fun columns => withD (Ty.sl (Ty.sl TValue)) a1 fun rows => (Sm (Ty.sl TColumn) columns) ∧ (Sm (Ty.sl (Ty.sl TValue)) rows) ∧ K (.data Ty.bool (M.rowsOk columns rows)) []) args hp⟩
def cons119 : Cons := [(128, c128), (157, c157)]
def inl119 : List (Nat × Inl) := []
@[reducible] def C119 : Ctx := ⟨tab, fun t => memN t cmps, cons119, 21, inl119, 0⟩
theorem consOk119 : ConsOk P C119 := by
  refine consOk_cons (enter_ok (fn := Go.Proofs.Tryz.f128) Go.Proofs.Tryz.func128 (by kernel_rfl) rfl) con128_ok ?_
  refine consOk_cons (enter_ok (fn := Go.Proofs.Tryz.f157) Go.Proofs.Tryz.func157 (by kernel_rfl) rfl) con157_ok ?_
  exact consOk_nil
def ann119 : Nat → List Dir
  | 0 => [.keep [0, 1]]
  | 1 => [.keep [0, 1, 5]]
  | 2 => [.keep [0, 1, 5, 9]]
  | 3 => [.keep [0, 1, 5]]
  | 4 => [.keep [0, 1, 5, 18]]
  | 5 => [.keep [4]]
  | 6 => [.keep [4]]
  | 100000 => [.keep [0]]
  | _ => []
@[reducible] def LP119_0 (columns : (List (TColumn).D)) (rows : (List (List (TValue).D))) (m : Nat) (st_ : St) (K : X → St → Prop) : Prop := (True) ∧ LoopE (t := (Ty.sl TValue)) (fun (i0 : Int) (v0 : Unit) => (⟨[(0, .data (Ty.sl TColumn) columns), (1, .data (Ty.sl (Ty.sl TValue)) rows), (5, .data (Ty.int .i64) i0)], []⟩ : St)) rows (F.spec_RowsOk_l0 columns rows) (fun v0 : Unit => True) (outD (fun v0 : Unit => True → K (.exit 0) (⟨[(0, .data (Ty.sl TColumn) columns)], []⟩ : St)) (fun q0 : Unit => K .ret (⟨[(4, .data Ty.bool false)], []⟩ : St))) m st_
def L119 (columns : (List (TColumn).D)) (rows : (List (List (TValue).D))) : Loops := fun id m st_ K => match id with
  | 0 => LP119_0 columns rows m st_ K
  | _ => False
theorem vc119 (columns : (List (TColumn).D)) (rows : (List (List (TValue).D))) (K : AV → Hp → Prop) : awp C119 (L119 columns rows) ann119 (bodyOf Go.Proofs.Tryz.f119) ⟨argEnv 0 [.data (Ty.sl TColumn) columns, .data (Ty.sl (Ty.sl TValue)) rows], []⟩ (outK tab Go.Proofs.Tryz.f119.results.toList (hasBox []) (resK (.dat Ty.bool) K)) =
  ((∃ m_, (True) ∧ LoopE (t := (Ty.sl TValue)) (fun (i0 : Int) (v0 : Unit) => (⟨[(0, .data (Ty.sl TColumn) columns), (1, .data (Ty.sl (Ty.sl TValue)) rows), (5, .data (Ty.int .i64) i0)], []⟩ : St)) rows (F.spec_RowsOk_l0 columns rows) (fun v0 : Unit => True) (outD (fun v0 : Unit => True → (Sm (Ty.sl TColumn) columns) ∧ K (.data Ty.bool (M.columnsOk columns)) []) (fun q0 : Unit => K (.data Ty.bool false) [])) m_ (⟨[(0, .data (Ty.sl TColumn) columns), (1, .data (Ty.sl (Ty.sl TValue)) rows), (5, .data (Ty.int .i64) (0 : Int))], []⟩ : St))) := by kernel_rfl
theorem lvc119_0 (columns : (List (TColumn).D)) (rows : (List (List (TValue).D)))  (i0 : Int) (v0 : Unit) (m : Nat) (K : X → St → Prop) : awp C119 (L119 columns rows) ann119 (loopAt (bodyOf Go.Proofs.Tryz.f119) 0) (⟨[(0, .data (Ty.sl TColumn) columns), (1, .data (Ty.sl (Ty.sl TValue)) rows), (5, .data (Ty.int .i64) i0)], []⟩ : St) (thenW (fun s' => ∃ m', m' < m ∧ (L119 columns rows) 0 m' s' K) (exitN 0 (ann119 (behind 0)) K)) =
  (cond (decide (i0 < (rows.length : Int))) ((0 ≤ i0) ∧ (i0 < (rows.length : Int)) ∧ (Sm (Ty.sl TColumn) columns) ∧ (Sm (Ty.sl TValue) (nth (t := (Ty.sl TValue)) rows i0)) ∧ cond (!(M.rowFits columns (nth (t := (Ty.sl TValue)) rows i0))) (K .ret (⟨[(4, .data Ty.bool false)], []⟩ : St)) ((∃ m_, m_ < m ∧ (L119 columns rows) 0 m_ (⟨[(0, .data (Ty.sl TColumn) columns), (1, .data (Ty.sl (Ty.sl TValue)) rows), (5, .data (Ty.int .i64) (wrap64 (i0 + (1 : Int))))], []⟩ : St) K))) (K (.exit 0) (⟨[(0, .data (Ty.sl TColumn) columns)], []⟩ : St))) := by kernel_rfl
theorem con119_ok : ConOk P 119 c119 := by
  refine con_okR (fn := Go.Proofs.Tryz.f119) (code := bodyOf Go.Proofs.Tryz.f119) (tab_ok tab_check cmp_check) consOk119 mixed Go.Proofs.Tryz.func119 rfl rfl fun args hp K h0 => ?_
  obtain ⟨a0, a1, rfl, rfl, h1⟩ := args2_elim h0
  obtain ⟨columns, rfl, h2⟩ := withD_elim h1
  obtain ⟨rows, rfl, h3⟩ := withD_elim h2
  obtain ⟨h_columns, h_rows, hK⟩ := h3
  have h : ok (F.spec_RowsOk columns rows) (fun r => K (.data Ty.bool r) []) := ok_of_eq (F.spec_RowsOk_eq columns rows h_columns h_rows) hK
  refine ⟨⟨show (2 : Nat) ≤ 21 by decide, show (2 : Nat) ≤ 1000000 by decide⟩, ann119, (L119 columns rows), (.dat Ty.bool), (loopsN1 (i0 := 0) (by kernel_rfl) ?_), ?_⟩
  · clear h
    intro m_ s_ K_ h
    obtain ⟨hc0, i0, v0, rfl, hl0, rfl, hv0, h⟩ := (show LP119_0 columns rows m_ s_ K_ from h)
    rw [lvc119_0 columns rows i0 v0 _ K_]
    exact (loopE_step (t := (Ty.sl TValue)) hl0 h (fun ht0 h => ⟨hl0, ⟨ht0, ⟨h_columns, ⟨(sm_nth h_rows i0), (ok_cond h (fun b_9 h => (have h := ok_ret h; h)) (fun b_9 h => (loopE_next (t := (Ty.sl TValue)) (fun m hm => (show LP119_0 columns rows m _ _ from ⟨hc0, hm⟩)) () rfl hl0 ht0 (sm_len h_rows) trivial (have h := ok_ret h; h))))⟩⟩⟩⟩) (fun h => (h trivial)))
  · rw [vc119 columns rows K]
    exact (loopE_start (t := (Ty.sl TValue)) (fun m hm => ⟨trivial, hm⟩) () rfl trivial (ok_then h (fun v0 h hv0 => ⟨h_columns, (have h := ok_ret h; h)⟩) (fun q0 h => (have h := ok_ret h; h))))

/-! 78: loop.example/tablehouse/spec.TablesOk -/
def c78 : Con := ⟨[.dat (Ty.sl TTable)], fun args hp K => args1 (fun a0 => withD (Ty.sl TTable) a0 fun tables => (Sm (Ty.sl TTable) tables) ∧ K (.data Ty.bool (M.tablesOk tables)) []) args hp⟩
def cons78 : Cons := [(119, c119)]
def inl78 : List (Nat × Inl) := []
@[reducible] def C78 : Ctx := ⟨tab, fun t => memN t cmps, cons78, 34, inl78, 0⟩
theorem consOk78 : ConsOk P C78 := by
  refine consOk_cons (enter_ok (fn := Go.Proofs.Tryz.f119) Go.Proofs.Tryz.func119 (by kernel_rfl) rfl) con119_ok ?_
  exact consOk_nil
def ann78 : Nat → List Dir
  | 0 => [.keep [0]]
  | 1 => [.keep [0, 3]]
  | 2 => [.keep [0, 3, 7]]
  | 3 => [.keep [0, 3]]
  | 4 => [.keep [0, 3, 30]]
  | 5 => [.keep [2]]
  | 6 => [.keep [2]]
  | 100000 => [.keep [0]]
  | _ => []
@[reducible] def LP78_0 (tables : (List (TTable).D)) (m : Nat) (st_ : St) (K : X → St → Prop) : Prop := (True) ∧ LoopE (t := TTable) (fun (i0 : Int) (v0 : Unit) => (⟨[(0, .data (Ty.sl TTable) tables), (3, .data (Ty.int .i64) i0)], []⟩ : St)) tables (F.spec_TablesOk_l0 tables) (fun v0 : Unit => True) (outD (fun v0 : Unit => True → K (.exit 0) (⟨[(0, .data (Ty.sl TTable) tables)], []⟩ : St)) (fun q0 : Unit => K .ret (⟨[(2, .data Ty.bool false)], []⟩ : St))) m st_
def L78 (tables : (List (TTable).D)) : Loops := fun id m st_ K => match id with
  | 0 => LP78_0 tables m st_ K
  | _ => False
theorem vc78 (tables : (List (TTable).D)) (K : AV → Hp → Prop) : awp C78 (L78 tables) ann78 (bodyOf Go.Proofs.Tryz.f78) ⟨argEnv 0 [.data (Ty.sl TTable) tables], []⟩ (outK tab Go.Proofs.Tryz.f78.results.toList (hasBox []) (resK (.dat Ty.bool) K)) =
  ((∃ m_, (True) ∧ LoopE (t := TTable) (fun (i0 : Int) (v0 : Unit) => (⟨[(0, .data (Ty.sl TTable) tables), (3, .data (Ty.int .i64) i0)], []⟩ : St)) tables (F.spec_TablesOk_l0 tables) (fun v0 : Unit => True) (outD (fun v0 : Unit => True → K (.data Ty.bool (decide ((tables.length : Int) ≤ (3 : Int)))) []) (fun q0 : Unit => K (.data Ty.bool false) [])) m_ (⟨[(0, .data (Ty.sl TTable) tables), (3, .data (Ty.int .i64) (0 : Int))], []⟩ : St))) := by kernel_rfl
theorem lvc78_0 (tables : (List (TTable).D))  (i0 : Int) (v0 : Unit) (m : Nat) (K : X → St → Prop) : awp C78 (L78 tables) ann78 (loopAt (bodyOf Go.Proofs.Tryz.f78) 0) (⟨[(0, .data (Ty.sl TTable) tables), (3, .data (Ty.int .i64) i0)], []⟩ : St) (thenW (fun s' => ∃ m', m' < m ∧ (L78 tables) 0 m' s' K) (exitN 0 (ann78 (behind 0)) K)) =
  (cond (decide (i0 < (tables.length : Int))) ((0 ≤ i0) ∧ (i0 < (tables.length : Int)) ∧ cond ((decide ((6 : Int) < ((((nth (t := TTable) tables i0).2).1).length : Int))) == false) ((0 ≤ i0) ∧ (i0 < (tables.length : Int)) ∧ (0 ≤ i0) ∧ (i0 < (tables.length : Int)) ∧ (Sm (Ty.sl TColumn) ((nth (t := TTable) tables i0).1)) ∧ (Sm (Ty.sl (Ty.sl TValue)) (((nth (t := TTable) tables i0).2).1)) ∧ cond (!(M.rowsOk ((nth (t := TTable) tables i0).1) (((nth (t := TTable) tables i0).2).1))) (K .ret (⟨[(2, .data Ty.bool false)], []⟩ : St)) ((∃ m_, m_ < m ∧ (L78 tables) 0 m_ (⟨[(0, .data (Ty.sl TTable) tables), (3, .data (Ty.int .i64) (wrap64 (i0 + (1 : Int))))], []⟩ : St) K))) (K .ret (⟨[(2, .data Ty.bool false)], []⟩ : St))) (K (.exit 0) (⟨[(0, .data (Ty.sl TTable) tables)], []⟩ : St))) := by kernel_rfl
theorem con78_ok : ConOk P 78 c78 := by
  refine con_okR (fn := Go.Proofs.Tryz.f78) (code := bodyOf Go.Proofs.Tryz.f78) (tab_ok tab_check cmp_check) consOk78 mixed Go.Proofs.Tryz.func78 rfl rfl fun args hp K h0 => ?_
  obtain ⟨a0, rfl, rfl, h1⟩ := args1_elim h0
  obtain ⟨tables, rfl, h2⟩ := withD_elim h1
  obtain ⟨h_tables, hK⟩ := h2
  have h : ok (F.spec_TablesOk tables) (fun r => K (.data Ty.bool r) []) := ok_of_eq (F.spec_TablesOk_eq tables h_tables) hK
  refine ⟨⟨show (1 : Nat) ≤ 34 by decide, show (1 : Nat) ≤ 1000000 by decide⟩, ann78, (L78 tables), (.dat Ty.bool), (loopsN1 (i0 := 0) (by kernel_rfl) ?_), ?_⟩
  · clear h
    intro m_ s_ K_ h
    obtain ⟨hc0, i0, v0, rfl, hl0, rfl, hv0, h⟩ := (show LP78_0 tables m_ s_ K_ from h)
    rw [lvc78_0 tables i0 v0 _ K_]
    exact (loopE_step (t := TTable) hl0 h (fun ht0 h => ⟨hl0, ⟨ht0, (ok_cond h (fun b_11 h => ⟨hl0, ⟨ht0, ⟨hl0, ⟨ht0, ⟨(sm_nth h_tables i0).1, ⟨(sm_nth h_tables i0).2.1, (ok_cond h (fun b_12 h => (have h := ok_ret h; h)) (fun b_12 h => (loopE_next (t := TTable) (fun m hm => (show LP78_0 tables m _ _ from ⟨hc0, hm⟩)) () rfl hl0 ht0 (sm_len h_tables) trivial (have h := ok_ret h; h))))⟩⟩⟩⟩⟩⟩) (fun b_11 h => (have h := ok_ret h; h)))⟩⟩) (fun h => (h trivial)))
  · rw [vc78 tables K]
    exact (loopE_start (t := TTable) (fun m hm => ⟨trivial, hm⟩) () rfl trivial (ok_then h (fun v0 h hv0 => (have h := ok_ret h; h)) (fun q0 h => (have h := ok_ret h; h))))

/-! 129: loop.example/tablehouse/spec.l4Step, in place -/
def cons129 : Cons := [(79, c79), (163, c163)]
@[reducible] def C129 : Ctx := ⟨tab, fun t => memN t cmps, cons129, 191, [], 200000⟩
theorem consOk129 : ConsOk P C129 := by
  refine consOk_cons (enter_ok (fn := Go.Proofs.Tryz.f79) Go.Proofs.Tryz.func79 (by kernel_rfl) rfl) con79_ok ?_
  refine consOk_cons (enter_ok (fn := Go.Proofs.Tryz.f163) Go.Proofs.Tryz.func163 (by kernel_rfl) rfl) con163_ok ?_
  exact consOk_nil
def T129 : Inl := inlT C129 (fun _ => []) (bodyOf Go.Proofs.Tryz.f129) Go.Proofs.Tryz.f129.results.toList
theorem inlOk129 : InlOk P 129 T129 := inl_ok (fn := Go.Proofs.Tryz.f129) (code := bodyOf Go.Proofs.Tryz.f129) (tab_ok tab_check cmp_check) consOk129 mixed Go.Proofs.Tryz.func129 rfl rfl (by kernel_rfl)

/-! 93: loop.example/tablehouse/spec.ExprKind -/
def c93 : Con := ⟨[.dat (Ty.sl TColumn), .dat (Ty.sl TPart)], fun args hp K => args2 (fun a0 a1 => withD (Ty.sl TColumn) a0 fun columns => withD (Ty.sl TPart) a1 fun e => (Sm (Ty.sl TColumn) columns) ∧ (Sm (Ty.sl TPart) e) ∧ K (.data (Ty.int .i64) (M.exprKind columns e)) []) args hp⟩
def cons93 : Cons := [(128, c128)]
def inl93 : List (Nat × Inl) := [(129, T129)]
@[reducible] def C93 : Ctx := ⟨tab, fun t => memN t cmps, cons93, 46, inl93, 0⟩
theorem consOk93 : ConsOk P C93 := by
  refine consOk_cons (enter_ok (fn := Go.Proofs.Tryz.f128) Go.Proofs.Tryz.func128 (by kernel_rfl) rfl) con128_ok ?_
  refine consOk_inl (enter_ok (fn := Go.Proofs.Tryz.f129) Go.Proofs.Tryz.func129 (by kernel_rfl) rfl) inlOk129 ?_
  exact consOk_nil
def ann93 : Nat → List Dir
  | 0 => [.keep [0, 1]]
  | 1 => [.keep [0, 1, 15]]
  | 2 => [.keep [4]]
  | 3 => [.keep [0, 1, 5]]
  | 4 => [.keep [0, 1, 5, 6]]
  | 5 => [.keep [0, 1, 5, 6, 7]]
  | 6 => [.keep [0, 1, 5, 6, 7, 23]]
  | 7 => [.keep [0, 1, 5, 6, 7]]
  | 8 => [.keep [0, 1, 5, 6, 7]]
  | 9 => [.keep [5, 42]]
  | 10 => [.keep [4]]
  | 11 => [.keep [4]]
  | 100000 => [.keep [5, 6]]
  | _ => []
@[reducible] def LP93_0 (columns : (List (TColumn).D)) (e : (List (TPart).D)) (m : Nat) (st_ : St) (K : X → St → Prop) : Prop := (True) ∧ LoopW (fun v0 : Bool × Int × (List Int) => (⟨[(0, .data (Ty.sl TColumn) columns), (1, .data (Ty.sl TPart) e), (5, .own 16 none), (6, .data Ty.bool v0.1), (7, .data (Ty.int .i64) v0.2.1)], [(16, .arr (Ty.int .i64) v0.2.2)]⟩ : St)) (F.spec_ExprKind_l0 columns e) (fun v0 : Bool × Int × (List Int) => True) ((fun e0 : Bool × (List Int) => True → K (.exit 0) (⟨[(5, .own 16 none), (6, .data Ty.bool e0.1)], [(16, .arr (Ty.int .i64) e0.2)]⟩ : St))) m st_
def L93 (columns : (List (TColumn).D)) (e : (List (TPart).D)) : Loops := fun id m st_ K => match id with
  | 0 => LP93_0 columns e m st_ K
  | _ => False
theorem vc93 (columns : (List (TColumn).D)) (e : (List (TPart).D)) (K : AV → Hp → Prop) : awp C93 (L93 columns e) ann93 (bodyOf Go.Proofs.Tryz.f93) ⟨argEnv 0 [.data (Ty.sl TColumn) columns, .data (Ty.sl TPart) e], []⟩ (outK tab Go.Proofs.Tryz.f93.results.toList (hasBox []) (resK (.dat (Ty.int .i64)) K)) =
  ((Sm (Ty.sl TColumn) columns) ∧ cond ((!(M.columnsOk columns)) == false) (cond (decide ((12 : Int) < (e.length : Int))) (K (.data (Ty.int .i64) (-1 : Int)) []) ((∃ m_, (True) ∧ LoopW (fun v0 : Bool × Int × (List Int) => (⟨[(0, .data (Ty.sl TColumn) columns), (1, .data (Ty.sl TPart) e), (5, .own 16 none), (6, .data Ty.bool v0.1), (7, .data (Ty.int .i64) v0.2.1)], [(16, .arr (Ty.int .i64) v0.2.2)]⟩ : St)) (F.spec_ExprKind_l0 columns e) (fun v0 : Bool × Int × (List Int) => True) ((fun e0 : Bool × (List Int) => True → cond ((!e0.1) == false) (cond (!decide ((e0.2.length : Int) = (1 : Int))) (K (.data (Ty.int .i64) (-1 : Int)) []) ((0 ≤ (0 : Int)) ∧ ((0 : Int) < (e0.2.length : Int)) ∧ K (.data (Ty.int .i64) (nth (t := (Ty.int .i64)) e0.2 (0 : Int))) [])) (K (.data (Ty.int .i64) (-1 : Int)) []))) m_ (⟨[(0, .data (Ty.sl TColumn) columns), (1, .data (Ty.sl TPart) e), (5, .own 16 none), (6, .data Ty.bool true), (7, .data (Ty.int .i64) (0 : Int))], [(16, .arr (Ty.int .i64) [])]⟩ : St)))) (K (.data (Ty.int .i64) (-1 : Int)) [])) := by kernel_rfl
theorem lvc93_0 (columns : (List (TColumn).D)) (e : (List (TPart).D))  (v0 : Bool × Int × (List Int)) (m : Nat) (K : X → St → Prop) : awp C93 (L93 columns e) ann93 (loopAt (bodyOf Go.Proofs.Tryz.f93) 0) (⟨[(0, .data (Ty.sl TColumn) columns), (1, .data (Ty.sl TPart) e), (5, .own 16 none), (6, .data Ty.bool v0.1), (7, .data (Ty.int .i64) v0.2.1)], [(16, .arr (Ty.int .i64) v0.2.2)]⟩ : St) (thenW (fun s' => ∃ m', m' < m ∧ (L93 columns e) 0 m' s' K) (exitN 0 (ann93 (behind 0)) K)) =
  (cond ((decide (v0.2.1 < (e.length : Int))) == true) (cond v0.1 ((0 ≤ v0.2.1) ∧ (v0.2.1 < (e.length : Int)) ∧ cond ((!decide ((nth (t := TPart) e v0.2.1).1 = (1 : Int))) == true) (cond ((!(Ty.beq TValue ((((nth (t := TPart) e v0.2.1).2).2).1) ((0 : Int), ((0 : Int), ((⟨#[]⟩ : ByteArray), ()))))) == false) (cond ((!decide ((nth (t := TPart) e v0.2.1).1 = (2 : Int))) == true) (cond ((!decide ((nth (t := TPart) e v0.2.1).1 = (4 : Int))) == true) (cond (!decide (((nth (t := TPart) e v0.2.1).2).1 = (0 : Int))) ((∃ m_, m_ < m ∧ (L93 columns e) 0 m_ (⟨[(0, .data (Ty.sl TColumn) columns), (1, .data (Ty.sl TPart) e), (5, .own 16 none), (6, .data Ty.bool false), (7, .data (Ty.int .i64) (wrap64 (v0.2.1 + (1 : Int))))], [(16, .arr (Ty.int .i64) v0.2.2)]⟩ : St) K)) (cond (decide ((nth (t := TPart) e v0.2.1).1 = (1 : Int))) ((Sm TValue ((((nth (t := TPart) e v0.2.1).2).2).1)) ∧ cond ((!(M.valueOk ((((nth (t := TPart) e v0.2.1).2).2).1))) == false) (cond (decide (((((nth (t := TPart) e v0.2.1).2).2).1).1 = (0 : Int))) ((∃ m_, m_ < m ∧ (L93 columns e) 0 m_ (⟨[(0, .data (Ty.sl TColumn) columns), (1, .data (Ty.sl TPart) e), (5, .own 16 none), (6, .data Ty.bool false), (7, .data (Ty.int .i64) (wrap64 (v0.2.1 + (1 : Int))))], [(16, .arr (Ty.int .i64) v0.2.2)]⟩ : St) K)) (((v0.2.2.length + [((((nth (t := TPart) e v0.2.1).2).2).1).1].length) * 8 ≤ lim) ∧ (∃ m_, m_ < m ∧ (L93 columns e) 0 m_ (⟨[(0, .data (Ty.sl TColumn) columns), (1, .data (Ty.sl TPart) e), (5, .own 16 none), (6, .data Ty.bool true), (7, .data (Ty.int .i64) (wrap64 (v0.2.1 + (1 : Int))))], [(16, .arr (Ty.int .i64) (v0.2.2 ++ [((((nth (t := TPart) e v0.2.1).2).2).1).1]))]⟩ : St) K))) ((∃ m_, m_ < m ∧ (L93 columns e) 0 m_ (⟨[(0, .data (Ty.sl TColumn) columns), (1, .data (Ty.sl TPart) e), (5, .own 16 none), (6, .data Ty.bool false), (7, .data (Ty.int .i64) (wrap64 (v0.2.1 + (1 : Int))))], [(16, .arr (Ty.int .i64) v0.2.2)]⟩ : St) K))) (cond (decide ((nth (t := TPart) e v0.2.1).1 = (2 : Int))) (cond (!(M.inR (((nth (t := TPart) e v0.2.1).2).1) (0 : Int) (wrap64 ((columns.length : Int) - (1 : Int))))) ((∃ m_, m_ < m ∧ (L93 columns e) 0 m_ (⟨[(0, .data (Ty.sl TColumn) columns), (1, .data (Ty.sl TPart) e), (5, .own 16 none), (6, .data Ty.bool false), (7, .data (Ty.int .i64) (wrap64 (v0.2.1 + (1 : Int))))], [(16, .arr (Ty.int .i64) v0.2.2)]⟩ : St) K)) ((0 ≤ ((nth (t := TPart) e v0.2.1).2).1) ∧ (((nth (t := TPart) e v0.2.1).2).1 < (columns.length : Int)) ∧ ((v0.2.2.length + [(nth (t := TColumn) columns (((nth (t := TPart) e v0.2.1).2).1)).1].length) * 8 ≤ lim) ∧ (∃ m_, m_ < m ∧ (L93 columns e) 0 m_ (⟨[(0, .data (Ty.sl TColumn) columns), (1, .data (Ty.sl TPart) e), (5, .own 16 none), (6, .data Ty.bool true), (7, .data (Ty.int .i64) (wrap64 (v0.2.1 + (1 : Int))))], [(16, .arr (Ty.int .i64) (v0.2.2 ++ [(nth (t := TColumn) columns (((nth (t := TPart) e v0.2.1).2).1)).1]))]⟩ : St) K))) (cond (decide ((nth (t := TPart) e v0.2.1).1 = (3 : Int))) (cond ((decide ((1 : Int) < (v0.2.2.length : Int))) == true) ((0 ≤ wrap64 ((v0.2.2.length : Int) - (1 : Int))) ∧ (wrap64 ((v0.2.2.length : Int) - (1 : Int)) < (v0.2.2.length : Int)) ∧ cond ((decide ((nth (t := (Ty.int .i64)) v0.2.2 (wrap64 ((v0.2.2.length : Int) - (1 : Int)))) = (1 : Int))) == true) ((0 ≤ wrap64 ((v0.2.2.length : Int) - (2 : Int))) ∧ (wrap64 ((v0.2.2.length : Int) - (2 : Int)) < (v0.2.2.length : Int)) ∧ (0 ≤ (0 : Int)) ∧ ((0 : Int) ≤ (maxI (wrap64 ((v0.2.2.length : Int) - (2 : Int))) (0 : Int))) ∧ ((maxI (wrap64 ((v0.2.2.length : Int) - (2 : Int))) (0 : Int)) ≤ (v0.2.2.length : Int)) ∧ ((maxI (wrap64 ((v0.2.2.length : Int) - (2 : Int))) (0 : Int)) = (maxI (wrap64 ((v0.2.2.length : Int) - (2 : Int))) (0 : Int))) ∧ ((0 : Int) = 0) ∧ (((maxI (wrap64 ((v0.2.2.length : Int) - (2 : Int))) (0 : Int)).toNat + [(1 : Int)].length) * 8 ≤ lim) ∧ (∃ m_, m_ < m ∧ (L93 columns e) 0 m_ (⟨[(0, .data (Ty.sl TColumn) columns), (1, .data (Ty.sl TPart) e), (5, .own 16 none), (6, .data Ty.bool (decide ((nth (t := (Ty.int .i64)) v0.2.2 (wrap64 ((v0.2.2.length : Int) - (2 : Int)))) = (1 : Int)))), (7, .data (Ty.int .i64) (wrap64 (v0.2.1 + (1 : Int))))], [(16, .arr (Ty.int .i64) (v0.2.2.take (maxI (wrap64 ((v0.2.2.length : Int) - (2 : Int))) (0 : Int)).toNat ++ [(1 : Int)]))]⟩ : St) K)) ((0 ≤ (0 : Int)) ∧ ((0 : Int) ≤ (maxI (wrap64 ((v0.2.2.length : Int) - (2 : Int))) (0 : Int))) ∧ ((maxI (wrap64 ((v0.2.2.length : Int) - (2 : Int))) (0 : Int)) ≤ (v0.2.2.length : Int)) ∧ ((maxI (wrap64 ((v0.2.2.length : Int) - (2 : Int))) (0 : Int)) = (maxI (wrap64 ((v0.2.2.length : Int) - (2 : Int))) (0 : Int))) ∧ ((0 : Int) = 0) ∧ (((maxI (wrap64 ((v0.2.2.length : Int) - (2 : Int))) (0 : Int)).toNat + [(1 : Int)].length) * 8 ≤ lim) ∧ (∃ m_, m_ < m ∧ (L93 columns e) 0 m_ (⟨[(0, .data (Ty.sl TColumn) columns), (1, .data (Ty.sl TPart) e), (5, .own 16 none), (6, .data Ty.bool false), (7, .data (Ty.int .i64) (wrap64 (v0.2.1 + (1 : Int))))], [(16, .arr (Ty.int .i64) (v0.2.2.take (maxI (wrap64 ((v0.2.2.length : Int) - (2 : Int))) (0 : Int)).toNat ++ [(1 : Int)]))]⟩ : St) K))) ((0 ≤ (0 : Int)) ∧ ((0 : Int) ≤ (maxI (wrap64 ((v0.2.2.length : Int) - (2 : Int))) (0 : Int))) ∧ ((maxI (wrap64 ((v0.2.2.length : Int) - (2 : Int))) (0 : Int)) ≤ (v0.2.2.length : Int)) ∧ ((maxI (wrap64 ((v0.2.2.length : Int) - (2 : Int))) (0 : Int)) = (maxI (wrap64 ((v0.2.2.length : Int) - (2 : Int))) (0 : Int))) ∧ ((0 : Int) = 0) ∧ (((maxI (wrap64 ((v0.2.2.length : Int) - (2 : Int))) (0 : Int)).toNat + [(1 : Int)].length) * 8 ≤ lim) ∧ (∃ m_, m_ < m ∧ (L93 columns e) 0 m_ (⟨[(0, .data (Ty.sl TColumn) columns), (1, .data (Ty.sl TPart) e), (5, .own 16 none), (6, .data Ty.bool false), (7, .data (Ty.int .i64) (wrap64 (v0.2.1 + (1 : Int))))], [(16, .arr (Ty.int .i64) (v0.2.2.take (maxI (wrap64 ((v0.2.2.length : Int) - (2 : Int))) (0 : Int)).toNat ++ [(1 : Int)]))]⟩ : St) K))) (cond (decide ((nth (t := TPart) e v0.2.1).1 = (4 : Int))) (cond ((decide ((1 : Int) < (v0.2.2.length : Int))) == true) ((0 ≤ wrap64 ((v0.2.2.length : Int) - (1 : Int))) ∧ (wrap64 ((v0.2.2.length : Int) - (1 : Int)) < (v0.2.2.length : Int)) ∧ (0 ≤ wrap64 ((v0.2.2.length : Int) - (2 : Int))) ∧ (wrap64 ((v0.2.2.length : Int) - (2 : Int)) < (v0.2.2.length : Int)) ∧ cond ((decide ((nth (t := (Ty.int .i64)) v0.2.2 (wrap64 ((v0.2.2.length : Int) - (1 : Int)))) = (nth (t := (Ty.int .i64)) v0.2.2 (wrap64 ((v0.2.2.length : Int) - (2 : Int)))))) == true) ((0 ≤ (0 : Int)) ∧ ((0 : Int) ≤ (maxI (wrap64 ((v0.2.2.length : Int) - (2 : Int))) (0 : Int))) ∧ ((maxI (wrap64 ((v0.2.2.length : Int) - (2 : Int))) (0 : Int)) ≤ (v0.2.2.length : Int)) ∧ ((maxI (wrap64 ((v0.2.2.length : Int) - (2 : Int))) (0 : Int)) = (maxI (wrap64 ((v0.2.2.length : Int) - (2 : Int))) (0 : Int))) ∧ ((0 : Int) = 0) ∧ (((maxI (wrap64 ((v0.2.2.length : Int) - (2 : Int))) (0 : Int)).toNat + [(3 : Int)].length) * 8 ≤ lim) ∧ (∃ m_, m_ < m ∧ (L93 columns e) 0 m_ (⟨[(0, .data (Ty.sl TColumn) columns), (1, .data (Ty.sl TPart) e), (5, .own 16 none), (6, .data Ty.bool (M.inR (((nth (t := TPart) e v0.2.1).2).1) (1 : Int) (4 : Int))), (7, .data (Ty.int .i64) (wrap64 (v0.2.1 + (1 : Int))))], [(16, .arr (Ty.int .i64) (v0.2.2.take (maxI (wrap64 ((v0.2.2.length : Int) - (2 : Int))) (0 : Int)).toNat ++ [(3 : Int)]))]⟩ : St) K)) ((0 ≤ (0 : Int)) ∧ ((0 : Int) ≤ (maxI (wrap64 ((v0.2.2.length : Int) - (2 : Int))) (0 : Int))) ∧ ((maxI (wrap64 ((v0.2.2.length : Int) - (2 : Int))) (0 : Int)) ≤ (v0.2.2.length : Int)) ∧ ((maxI (wrap64 ((v0.2.2.length : Int) - (2 : Int))) (0 : Int)) = (maxI (wrap64 ((v0.2.2.length : Int) - (2 : Int))) (0 : Int))) ∧ ((0 : Int) = 0) ∧ (((maxI (wrap64 ((v0.2.2.length : Int) - (2 : Int))) (0 : Int)).toNat + [(3 : Int)].length) * 8 ≤ lim) ∧ (∃ m_, m_ < m ∧ (L93 columns e) 0 m_ (⟨[(0, .data (Ty.sl TColumn) columns), (1, .data (Ty.sl TPart) e), (5, .own 16 none), (6, .data Ty.bool false), (7, .data (Ty.int .i64) (wrap64 (v0.2.1 + (1 : Int))))], [(16, .arr (Ty.int .i64) (v0.2.2.take (maxI (wrap64 ((v0.2.2.length : Int) - (2 : Int))) (0 : Int)).toNat ++ [(3 : Int)]))]⟩ : St) K))) ((0 ≤ (0 : Int)) ∧ ((0 : Int) ≤ (maxI (wrap64 ((v0.2.2.length : Int) - (2 : Int))) (0 : Int))) ∧ ((maxI (wrap64 ((v0.2.2.length : Int) - (2 : Int))) (0 : Int)) ≤ (v0.2.2.length : Int)) ∧ ((maxI (wrap64 ((v0.2.2.length : Int) - (2 : Int))) (0 : Int)) = (maxI (wrap64 ((v0.2.2.length : Int) - (2 : Int))) (0 : Int))) ∧ ((0 : Int) = 0) ∧ (((maxI (wrap64 ((v0.2.2.length : Int) - (2 : Int))) (0 : Int)).toNat + [(3 : Int)].length) * 8 ≤ lim) ∧ (∃ m_, m_ < m ∧ (L93 columns e) 0 m_ (⟨[(0, .data (Ty.sl TColumn) columns), (1, .data (Ty.sl TPart) e), (5, .own 16 none), (6, .data Ty.bool false), (7, .data (Ty.int .i64) (wrap64 (v0.2.1 + (1 : Int))))], [(16, .arr (Ty.int .i64) (v0.2.2.take (maxI (wrap64 ((v0.2.2.length : Int) - (2 : Int))) (0 : Int)).toNat ++ [(3 : Int)]))]⟩ : St) K))) (cond (decide ((nth (t := TPart) e v0.2.1).1 = (5 : Int))) (cond (decide ((nth (t := TPart) e v0.2.1).1 = (5 : Int))) (cond ((decide ((1 : Int) < (v0.2.2.length : Int))) == true) ((0 ≤ wrap64 ((v0.2.2.length : Int) - (1 : Int))) ∧ (wrap64 ((v0.2.2.length : Int) - (1 : Int)) < (v0.2.2.length : Int)) ∧ cond ((decide ((nth (t := (Ty.int .i64)) v0.2.2 (wrap64 ((v0.2.2.length : Int) - (1 : Int)))) = (3 : Int))) == true) ((0 ≤ wrap64 ((v0.2.2.length : Int) - (2 : Int))) ∧ (wrap64 ((v0.2.2.length : Int) - (2 : Int)) < (v0.2.2.length : Int)) ∧ (0 ≤ (0 : Int)) ∧ ((0 : Int) ≤ (maxI (wrap64 ((v0.2.2.length : Int) - (2 : Int))) (0 : Int))) ∧ ((maxI (wrap64 ((v0.2.2.length : Int) - (2 : Int))) (0 : Int)) ≤ (v0.2.2.length : Int)) ∧ ((maxI (wrap64 ((v0.2.2.length : Int) - (2 : Int))) (0 : Int)) = (maxI (wrap64 ((v0.2.2.length : Int) - (2 : Int))) (0 : Int))) ∧ ((0 : Int) = 0) ∧ (((maxI (wrap64 ((v0.2.2.length : Int) - (2 : Int))) (0 : Int)).toNat + [(3 : Int)].length) * 8 ≤ lim) ∧ (∃ m_, m_ < m ∧ (L93 columns e) 0 m_ (⟨[(0, .data (Ty.sl TColumn) columns), (1, .data (Ty.sl TPart) e), (5, .own 16 none), (6, .data Ty.bool (decide ((nth (t := (Ty.int .i64)) v0.2.2 (wrap64 ((v0.2.2.length : Int) - (2 : Int)))) = (3 : Int)))), (7, .data (Ty.int .i64) (wrap64 (v0.2.1 + (1 : Int))))], [(16, .arr (Ty.int .i64) (v0.2.2.take (maxI (wrap64 ((v0.2.2.length : Int) - (2 : Int))) (0 : Int)).toNat ++ [(3 : Int)]))]⟩ : St) K)) ((0 ≤ (0 : Int)) ∧ ((0 : Int) ≤ (maxI (wrap64 ((v0.2.2.length : Int) - (2 : Int))) (0 : Int))) ∧ ((maxI (wrap64 ((v0.2.2.length : Int) - (2 : Int))) (0 : Int)) ≤ (v0.2.2.length : Int)) ∧ ((maxI (wrap64 ((v0.2.2.length : Int) - (2 : Int))) (0 : Int)) = (maxI (wrap64 ((v0.2.2.length : Int) - (2 : Int))) (0 : Int))) ∧ ((0 : Int) = 0) ∧ (((maxI (wrap64 ((v0.2.2.length : Int) - (2 : Int))) (0 : Int)).toNat + [(3 : Int)].length) * 8 ≤ lim) ∧ (∃ m_, m_ < m ∧ (L93 columns e) 0 m_ (⟨[(0, .data (Ty.sl TColumn) columns), (1, .data (Ty.sl TPart) e), (5, .own 16 none), (6, .data Ty.bool false), (7, .data (Ty.int .i64) (wrap64 (v0.2.1 + (1 : Int))))], [(16, .arr (Ty.int .i64) (v0.2.2.take (maxI (wrap64 ((v0.2.2.length : Int) - (2 : Int))) (0 : Int)).toNat ++ [(3 : Int)]))]⟩ : St) K))) ((0 ≤ (0 : Int)) ∧ ((0 : Int) ≤ (maxI (wrap64 ((v0.2.2.length : Int) - (2 : Int))) (0 : Int))) ∧ ((maxI (wrap64 ((v0.2.2.length : Int) - (2 : Int))) (0 : Int)) ≤ (v0.2.2.length : Int)) ∧ ((maxI (wrap64 ((v0.2.2.length : Int) - (2 : Int))) (0 : Int)) = (maxI (wrap64 ((v0.2.2.length : Int) - (2 : Int))) (0 : Int))) ∧ ((0 : Int) = 0) ∧ (((maxI (wrap64 ((v0.2.2.length : Int) - (2 : Int))) (0 : Int)).toNat + [(3 : Int)].length) * 8 ≤ lim) ∧ (∃ m_, m_ < m ∧ (L93 columns e) 0 m_ (⟨[(0, .data (Ty.sl TColumn) columns), (1, .data (Ty.sl TPart) e), (5, .own 16 none), (6, .data Ty.bool false), (7, .data (Ty.int .i64) (wrap64 (v0.2.1 + (1 : Int))))], [(16, .arr (Ty.int .i64) (v0.2.2.take (maxI (wrap64 ((v0.2.2.length : Int) - (2 : Int))) (0 : Int)).toNat ++ [(3 : Int)]))]⟩ : St) K))) (cond (decide ((nth (t := TPart) e v0.2.1).1 = (7 : Int))) (cond ((decide ((0 : Int) < (v0.2.2.length : Int))) == true) ((0 ≤ wrap64 ((v0.2.2.length : Int) - (1 : Int))) ∧ (wrap64 ((v0.2.2.length : Int) - (1 : Int)) < (v0.2.2.length : Int)) ∧ (∃ m_, m_ < m ∧ (L93 columns e) 0 m_ (⟨[(0, .data (Ty.sl TColumn) columns), (1, .data (Ty.sl TPart) e), (5, .own 16 none), (6, .data Ty.bool (decide ((nth (t := (Ty.int .i64)) v0.2.2 (wrap64 ((v0.2.2.length : Int) - (1 : Int)))) = (3 : Int)))), (7, .data (Ty.int .i64) (wrap64 (v0.2.1 + (1 : Int))))], [(16, .arr (Ty.int .i64) v0.2.2)]⟩ : St) K)) ((∃ m_, m_ < m ∧ (L93 columns e) 0 m_ (⟨[(0, .data (Ty.sl TColumn) columns), (1, .data (Ty.sl TPart) e), (5, .own 16 none), (6, .data Ty.bool false), (7, .data (Ty.int .i64) (wrap64 (v0.2.1 + (1 : Int))))], [(16, .arr (Ty.int .i64) v0.2.2)]⟩ : St) K))) (cond (decide ((nth (t := TPart) e v0.2.1).1 = (8 : Int))) ((0 ≤ (0 : Int)) ∧ ((0 : Int) ≤ (maxI (wrap64 ((v0.2.2.length : Int) - (1 : Int))) (0 : Int))) ∧ ((maxI (wrap64 ((v0.2.2.length : Int) - (1 : Int))) (0 : Int)) ≤ (v0.2.2.length : Int)) ∧ ((maxI (wrap64 ((v0.2.2.length : Int) - (1 : Int))) (0 : Int)) = (maxI (wrap64 ((v0.2.2.length : Int) - (1 : Int))) (0 : Int))) ∧ ((0 : Int) = 0) ∧ (((maxI (wrap64 ((v0.2.2.length : Int) - (1 : Int))) (0 : Int)).toNat + [(3 : Int)].length) * 8 ≤ lim) ∧ (∃ m_, m_ < m ∧ (L93 columns e) 0 m_ (⟨[(0, .data (Ty.sl TColumn) columns), (1, .data (Ty.sl TPart) e), (5, .own 16 none), (6, .data Ty.bool (decide ((0 : Int) < (v0.2.2.length : Int)))), (7, .data (Ty.int .i64) (wrap64 (v0.2.1 + (1 : Int))))], [(16, .arr (Ty.int .i64) (v0.2.2.take (maxI (wrap64 ((v0.2.2.length : Int) - (1 : Int))) (0 : Int)).toNat ++ [(3 : Int)]))]⟩ : St) K)) ((∃ m_, m_ < m ∧ (L93 columns e) 0 m_ (⟨[(0, .data (Ty.sl TColumn) columns), (1, .data (Ty.sl TPart) e), (5, .own 16 none), (6, .data Ty.bool false), (7, .data (Ty.int .i64) (wrap64 (v0.2.1 + (1 : Int))))], [(16, .arr (Ty.int .i64) v0.2.2)]⟩ : St) K))))) (cond (decide ((nth (t := TPart) e v0.2.1).1 = (6 : Int))) (cond ((decide ((1 : Int) < (v0.2.2.length : Int))) == true) ((0 ≤ wrap64 ((v0.2.2.length : Int) - (1 : Int))) ∧ (wrap64 ((v0.2.2.length : Int) - (1 : Int)) < (v0.2.2.length : Int)) ∧ cond ((decide ((nth (t := (Ty.int .i64)) v0.2.2 (wrap64 ((v0.2.2.length : Int) - (1 : Int)))) = (3 : Int))) == true) ((0 ≤ wrap64 ((v0.2.2.length : Int) - (2 : Int))) ∧ (wrap64 ((v0.2.2.length : Int) - (2 : Int)) < (v0.2.2.length : Int)) ∧ (0 ≤ (0 : Int)) ∧ ((0 : Int) ≤ (maxI (wrap64 ((v0.2.2.length : Int) - (2 : Int))) (0 : Int))) ∧ ((maxI (wrap64 ((v0.2.2.length : Int) - (2 : Int))) (0 : Int)) ≤ (v0.2.2.length : Int)) ∧ ((maxI (wrap64 ((v0.2.2.length : Int) - (2 : Int))) (0 : Int)) = (maxI (wrap64 ((v0.2.2.length : Int) - (2 : Int))) (0 : Int))) ∧ ((0 : Int) = 0) ∧ (((maxI (wrap64 ((v0.2.2.length : Int) - (2 : Int))) (0 : Int)).toNat + [(3 : Int)].length) * 8 ≤ lim) ∧ (∃ m_, m_ < m ∧ (L93 columns e) 0 m_ (⟨[(0, .data (Ty.sl TColumn) columns), (1, .data (Ty.sl TPart) e), (5, .own 16 none), (6, .data Ty.bool (decide ((nth (t := (Ty.int .i64)) v0.2.2 (wrap64 ((v0.2.2.length : Int) - (2 : Int)))) = (3 : Int)))), (7, .data (Ty.int .i64) (wrap64 (v0.2.1 + (1 : Int))))], [(16, .arr (Ty.int .i64) (v0.2.2.take (maxI (wrap64 ((v0.2.2.length : Int) - (2 : Int))) (0 : Int)).toNat ++ [(3 : Int)]))]⟩ : St) K)) ((0 ≤ (0 : Int)) ∧ ((0 : Int) ≤ (maxI (wrap64 ((v0.2.2.length : Int) - (2 : Int))) (0 : Int))) ∧ ((maxI (wrap64 ((v0.2.2.length : Int) - (2 : Int))) (0 : Int)) ≤ (v0.2.2.length : Int)) ∧ ((maxI (wrap64 ((v0.2.2.length : Int) - (2 : Int))) (0 : Int)) = (maxI (wrap64 ((v0.2.2.length : Int) - (2 : Int))) (0 : Int))) ∧ ((0 : Int) = 0) ∧ (((maxI (wrap64 ((v0.2.2.length : Int) - (2 : Int))) (0 : Int)).toNat + [(3 : Int)].length) * 8 ≤ lim) ∧ (∃ m_, m_ < m ∧ (L93 columns e) 0 m_ (⟨[(0, .data (Ty.sl TColumn) columns), (1, .data (Ty.sl TPart) e), (5, .own 16 none), (6, .data Ty.bool false), (7, .data (Ty.int .i64) (wrap64 (v0.2.1 + (1 : Int))))], [(16, .arr (Ty.int .i64) (v0.2.2.take (maxI (wrap64 ((v0.2.2.length : Int) - (2 : Int))) (0 : Int)).toNat ++ [(3 : Int)]))]⟩ : St) K))) ((0 ≤ (0 : Int)) ∧ ((0 : Int) ≤ (maxI (wrap64 ((v0.2.2.length : Int) - (2 : Int))) (0 : Int))) ∧ ((maxI (wrap64 ((v0.2.2.length : Int) - (2 : Int))) (0 : Int)) ≤ (v0.2.2.length : Int)) ∧ ((maxI (wrap64 ((v0.2.2.length : Int) - (2 : Int))) (0 : Int)) = (maxI (wrap64 ((v0.2.2.length : Int) - (2 : Int))) (0 : Int))) ∧ ((0 : Int) = 0) ∧ (((maxI (wrap64 ((v0.2.2.length : Int) - (2 : Int))) (0 : Int)).toNat + [(3 : Int)].length) * 8 ≤ lim) ∧ (∃ m_, m_ < m ∧ (L93 columns e) 0 m_ (⟨[(0, .data (Ty.sl TColumn) columns), (1, .data (Ty.sl TPart) e), (5, .own 16 none), (6, .data Ty.bool false), (7, .data (Ty.int .i64) (wrap64 (v0.2.1 + (1 : Int))))], [(16, .arr (Ty.int .i64) (v0.2.2.take (maxI (wrap64 ((v0.2.2.length : Int) - (2 : Int))) (0 : Int)).toNat ++ [(3 : Int)]))]⟩ : St) K))) (cond (decide ((nth (t := TPart) e v0.2.1).1 = (7 : Int))) (cond ((decide ((0 : Int) < (v0.2.2.length : Int))) == true) ((0 ≤ wrap64 ((v0.2.2.length : Int) - (1 : Int))) ∧ (wrap64 ((v0.2.2.length : Int) - (1 : Int)) < (v0.2.2.length : Int)) ∧ (∃ m_, m_ < m ∧ (L93 columns e) 0 m_ (⟨[(0, .data (Ty.sl TColumn) columns), (1, .data (Ty.sl TPart) e), (5, .own 16 none), (6, .data Ty.bool (decide ((nth (t := (Ty.int .i64)) v0.2.2 (wrap64 ((v0.2.2.length : Int) - (1 : Int)))) = (3 : Int)))), (7, .data (Ty.int .i64) (wrap64 (v0.2.1 + (1 : Int))))], [(16, .arr (Ty.int .i64) v0.2.2)]⟩ : St) K)) ((∃ m_, m_ < m ∧ (L93 columns e) 0 m_ (⟨[(0, .data (Ty.sl TColumn) columns), (1, .data (Ty.sl TPart) e), (5, .own 16 none), (6, .data Ty.bool false), (7, .data (Ty.int .i64) (wrap64 (v0.2.1 + (1 : Int))))], [(16, .arr (Ty.int .i64) v0.2.2)]⟩ : St) K))) (cond (decide ((nth (t := TPart) e v0.2.1).1 = (8 : Int))) ((0 ≤ (0 : Int)) ∧ ((0 : Int) ≤ (maxI (wrap64 ((v0.2.2.length : Int) - (1 : Int))) (0 : Int))) ∧ ((maxI (wrap64 ((v0.2.2.length : Int) - (1 : Int))) (0 : Int)) ≤ (v0.2.2.length : Int)) ∧ ((maxI (wrap64 ((v0.2.2.length : Int) - (1 : Int))) (0 : Int)) = (maxI (wrap64 ((v0.2.2.length : Int) - (1 : Int))) (0 : Int))) ∧ ((0 : Int) = 0) ∧ (((maxI (wrap64 ((v0.2.2.length : Int) - (1 : Int))) (0 : Int)).toNat + [(3 : Int)].length) * 8 ≤ lim) ∧ (∃ m_, m_ < m ∧ (L93 columns e) 0 m_ (⟨[(0, .data (Ty.sl TColumn) columns), (1, .data (Ty.sl TPart) e), (5, .own 16 none), (6, .data Ty.bool (decide ((0 : Int) < (v0.2.2.length : Int)))), (7, .data (Ty.int .i64) (wrap64 (v0.2.1 + (1 : Int))))], [(16, .arr (Ty.int .i64) (v0.2.2.take (maxI (wrap64 ((v0.2.2.length : Int) - (1 : Int))) (0 : Int)).toNat ++ [(3 : Int)]))]⟩ : St) K)) ((∃ m_, m_ < m ∧ (L93 columns e) 0 m_ (⟨[(0, .data (Ty.sl TColumn) columns), (1, .data (Ty.sl TPart) e), (5, .own 16 none), (6, .data Ty.bool false), (7, .data (Ty.int .i64) (wrap64 (v0.2.1 + (1 : Int))))], [(16, .arr (Ty.int .i64) v0.2.2)]⟩ : St) K))))))))))) (cond (decide ((nth (t := TPart) e v0.2.1).1 = (1 : Int))) ((Sm TValue ((((nth (t := TPart) e v0.2.1).2).2).1)) ∧ cond ((!(M.valueOk ((((nth (t := TPart) e v0.2.1).2).2).1))) == false) (cond (decide (((((nth (t := TPart) e v0.2.1).2).2).1).1 = (0 : Int))) ((∃ m_, m_ < m ∧ (L93 columns e) 0 m_ (⟨[(0, .data (Ty.sl TColumn) columns), (1, .data (Ty.sl TPart) e), (5, .own 16 none), (6, .data Ty.bool false), (7, .data (Ty.int .i64) (wrap64 (v0.2.1 + (1 : Int))))], [(16, .arr (Ty.int .i64) v0.2.2)]⟩ : St) K)) (((v0.2.2.length + [((((nth (t := TPart) e v0.2.1).2).2).1).1].length) * 8 ≤ lim) ∧ (∃ m_, m_ < m ∧ (L93 columns e) 0 m_ (⟨[(0, .data (Ty.sl TColumn) columns), (1, .data (Ty.sl TPart) e), (5, .own 16 none), (6, .data Ty.bool true), (7, .data (Ty.int .i64) (wrap64 (v0.2.1 + (1 : Int))))], [(16, .arr (Ty.int .i64) (v0.2.2 ++ [((((nth (t := TPart) e v0.2.1).2).2).1).1]))]⟩ : St) K))) ((∃ m_, m_ < m ∧ (L93 columns e) 0 m_ (⟨[(0, .data (Ty.sl TColumn) columns), (1, .data (Ty.sl TPart) e), (5, .own 16 none), (6, .data Ty.bool false), (7, .data (Ty.int .i64) (wrap64 (v0.2.1 + (1 : Int))))], [(16, .arr (Ty.int .i64) v0.2.2)]⟩ : St) K))) (cond (decide ((nth (t := TPart) e v0.2.1).1 = (2 : Int))) (cond (!(M.inR (((nth (t := TPart) e v0.2.1).2).1) (0 : Int) (wrap64 ((columns.length : Int) - (1 : Int))))) ((∃ m_, m_ < m ∧ (L93 columns e) 0 m_ (⟨[(0, .data (Ty.sl TColumn) columns), (1, .data (Ty.sl TPart) e), (5, .own 16 none), (6, .data Ty.bool false), (7, .data (Ty.int .i64) (wrap64 (v0.2.1 + (1 : Int))))], [(16, .arr (Ty.int .i64) v0.2.2)]⟩ : St) K)) ((0 ≤ ((nth (t := TPart) e v0.2.1).2).1) ∧ (((nth (t := TPart) e v0.2.1).2).1 < (columns.length : Int)) ∧ ((v0.2.2.length + [(nth (t := TColumn) columns (((nth (t := TPart) e v0.2.1).2).1)).1].length) * 8 ≤ lim) ∧ (∃ m_, m_ < m ∧ (L93 columns e) 0 m_ (⟨[(0, .data (Ty.sl TColumn) columns), (1, .data (Ty.sl TPart) e), (5, .own 16 none), (6, .data Ty.bool true), (7, .data (Ty.int .i64) (wrap64 (v0.2.1 + (1 : Int))))], [(16, .arr (Ty.int .i64) (v0.2.2 ++ [(nth (t := TColumn) columns (((nth (t := TPart) e v0.2.1).2).1)).1]))]⟩ : St) K))) (cond (decide ((nth (t := TPart) e v0.2.1).1 = (3 : Int))) (cond ((decide ((1 : Int) < (v0.2.2.length : Int))) == true) ((0 ≤ wrap64 ((v0.2.2.length : Int) - (1 : Int))) ∧ (wrap64 ((v0.2.2.length : Int) - (1 : Int)) < (v0.2.2.length : Int)) ∧ cond ((decide ((nth (t := (Ty.int .i64)) v0.2.2 (wrap64 ((v0.2.2.length : Int) - (1 : Int)))) = (1 : Int))) == true) ((0 ≤ wrap64 ((v0.2.2.length : Int) - (2 : Int))) ∧ (wrap64 ((v0.2.2.length : Int) - (2 : Int)) < (v0.2.2.length : Int)) ∧ (0 ≤ (0 : Int)) ∧ ((0 : Int) ≤ (maxI (wrap64 ((v0.2.2.length : Int) - (2 : Int))) (0 : Int))) ∧ ((maxI (wrap64 ((v0.2.2.length : Int) - (2 : Int))) (0 : Int)) ≤ (v0.2.2.length : Int)) ∧ ((maxI (wrap64 ((v0.2.2.length : Int) - (2 : Int))) (0 : Int)) = (maxI (wrap64 ((v0.2.2.length : Int) - (2 : Int))) (0 : Int))) ∧ ((0 : Int) = 0) ∧ (((maxI (wrap64 ((v0.2.2.length : Int) - (2 : Int))) (0 : Int)).toNat + [(1 : Int)].length) * 8 ≤ lim) ∧ (∃ m_, m_ < m ∧ (L93 columns e) 0 m_ (⟨[(0, .data (Ty.sl TColumn) columns), (1, .data (Ty.sl TPart) e), (5, .own 16 none), (6, .data Ty.bool (decide ((nth (t := (Ty.int .i64)) v0.2.2 (wrap64 ((v0.2.2.length : Int) - (2 : Int)))) = (1 : Int)))), (7, .data (Ty.int .i64) (wrap64 (v0.2.1 + (1 : Int))))], [(16, .arr (Ty.int .i64) (v0.2.2.take (maxI (wrap64 ((v0.2.2.length : Int) - (2 : Int))) (0 : Int)).toNat ++ [(1 : Int)]))]⟩ : St) K)) ((0 ≤ (0 : Int)) ∧ ((0 : Int) ≤ (maxI (wrap64 ((v0.2.2.length : Int) - (2 : Int))) (0 : Int))) ∧ ((maxI (wrap64 ((v0.2.2.length : Int) - (2 : Int))) (0 : Int)) ≤ (v0.2.2.length : Int)) ∧ ((maxI (wrap64 ((v0.2.2.length : Int) - (2 : Int))) (0 : Int)) = (maxI (wrap64 ((v0.2.2.length : Int) - (2 : Int))) (0 : Int))) ∧ ((0 : Int) = 0) ∧ (((maxI (wrap64 ((v0.2.2.length : Int) - (2 : Int))) (0 : Int)).toNat + [(1 : Int)].length) * 8 ≤ lim) ∧ (∃ m_, m_ < m ∧ (L93 columns e) 0 m_ (⟨[(0, .data (Ty.sl TColumn) columns), (1, .data (Ty.sl TPart) e), (5, .own 16 none), (6, .data Ty.bool false), (7, .data (Ty.int .i64) (wrap64 (v0.2.1 + (1 : Int))))], [(16, .arr (Ty.int .i64) (v0.2.2.take (maxI (wrap64 ((v0.2.2.length : Int) - (2 : Int))) (0 : Int)).toNat ++ [(1 : Int)]))]⟩ : St) K))) ((0 ≤ (0 : Int)) ∧ ((0 : Int) ≤ (maxI (wrap64 ((v0.2.2.length : Int) - (2 : Int))) (0 : Int))) ∧ ((maxI (wrap64 ((v0.2.2.length : Int) - (2 : Int))) (0 : Int)) ≤ (v0.2.2.length : Int)) ∧ ((maxI (wrap64 ((v0.2.2.length : Int) - (2 : Int))) (0 : Int)) = (maxI (wrap64 ((v0.2.2.length : Int) - (2 : Int))) (0 : Int))) ∧ ((0 : Int) = 0) ∧ (((maxI (wrap64 ((v0.2.2.length : Int) - (2 : Int))) (0 : Int)).toNat + [(1 : Int)].length) * 8 ≤ lim) ∧ (∃ m_, m_ < m ∧ (L93 columns e) 0 m_ (⟨[(0, .data (Ty.sl TColumn) columns), (1, .data (Ty.sl TPart) e), (5, .own 16 none), (6, .data Ty.bool false), (7, .data (Ty.int .i64) (wrap64 (v0.2.1 + (1 : Int))))], [(16, .arr (Ty.int .i64) (v0.2.2.take (maxI (wrap64 ((v0.2.2.length : Int) - (2 : Int))) (0 : Int)).toNat ++ [(1 : Int)]))]⟩ : St) K))) (cond (decide ((nth (t := TPart) e v0.2.1).1 = (4 : Int))) (cond ((decide ((1 : Int) < (v0.2.2.length : Int))) == true) ((0 ≤ wrap64 ((v0.2.2.length : Int) - (1 : Int))) ∧ (wrap64 ((v0.2.2.length : Int) - (1 : Int)) < (v0.2.2.length : Int)) ∧ (0 ≤ wrap64 ((v0.2.2.length : Int) - (2 : Int))) ∧ (wrap64 ((v0.2.2.length : Int) - (2 : Int)) < (v0.2.2.length : Int)) ∧ cond ((decide ((nth (t := (Ty.int .i64)) v0.2.2 (wrap64 ((v0.2.2.length : Int) - (1 : Int)))) = (nth (t := (Ty.int .i64)) v0.2.2 (wrap64 ((v0.2.2.length : Int) - (2 : Int)))))) == true) ((0 ≤ (0 : Int)) ∧ ((0 : Int) ≤ (maxI (wrap64 ((v0.2.2.length : Int) - (2 : Int))) (0 : Int))) ∧ ((maxI (wrap64 ((v0.2.2.length : Int) - (2 : Int))) (0 : Int)) ≤ (v0.2.2.length : Int)) ∧ ((maxI (wrap64 ((v0.2.2.length : Int) - (2 : Int))) (0 : Int)) = (maxI (wrap64 ((v0.2.2.length : Int) - (2 : Int))) (0 : Int))) ∧ ((0 : Int) = 0) ∧ (((maxI (wrap64 ((v0.2.2.length : Int) - (2 : Int))) (0 : Int)).toNat + [(3 : Int)].length) * 8 ≤ lim) ∧ (∃ m_, m_ < m ∧ (L93 columns e) 0 m_ (⟨[(0, .data (Ty.sl TColumn) columns), (1, .data (Ty.sl TPart) e), (5, .own 16 none), (6, .data Ty.bool (M.inR (((nth (t := TPart) e v0.2.1).2).1) (1 : Int) (4 : Int))), (7, .data (Ty.int .i64) (wrap64 (v0.2.1 + (1 : Int))))], [(16, .arr (Ty.int .i64) (v0.2.2.take (maxI (wrap64 ((v0.2.2.length : Int) - (2 : Int))) (0 : Int)).toNat ++ [(3 : Int)]))]⟩ : St) K)) ((0 ≤ (0 : Int)) ∧ ((0 : Int) ≤ (maxI (wrap64 ((v0.2.2.length : Int) - (2 : Int))) (0 : Int))) ∧ ((maxI (wrap64 ((v0.2.2.length : Int) - (2 : Int))) (0 : Int)) ≤ (v0.2.2.length : Int)) ∧ ((maxI (wrap64 ((v0.2.2.length : Int) - (2 : Int))) (0 : Int)) = (maxI (wrap64 ((v0.2.2.length : Int) - (2 : Int))) (0 : Int))) ∧ ((0 : Int) = 0) ∧ (((maxI (wrap64 ((v0.2.2.length : Int) - (2 : Int))) (0 : Int)).toNat + [(3 : Int)].length) * 8 ≤ lim) ∧ (∃ m_, m_ < m ∧ (L93 columns e) 0 m_ (⟨[(0, .data (Ty.sl TColumn) columns), (1, .data (Ty.sl TPart) e), (5, .own 16 none), (6, .data Ty.bool false), (7, .data (Ty.int .i64) (wrap64 (v0.2.1 + (1 : Int))))], [(16, .arr (Ty.int .i64) (v0.2.2.take (maxI (wrap64 ((v0.2.2.length : Int) - (2 : Int))) (0 : Int)).toNat ++ [(3 : Int)]))]⟩ : St) K))) ((0 ≤ (0 : Int)) ∧ ((0 : Int) ≤ (maxI (wrap64 ((v0.2.2.length : Int) - (2 : Int))) (0 : Int))) ∧ ((maxI (wrap64 ((v0.2.2.length : Int) - (2 : Int))) (0 : Int)) ≤ (v0.2.2.length : Int)) ∧ ((maxI (wrap64 ((v0.2.2.length : Int) - (2 : Int))) (0 : Int)) = (maxI (wrap64 ((v0.2.2.length : Int) - (2 : Int))) (0 : Int))) ∧ ((0 : Int) = 0) ∧ (((maxI (wrap64 ((v0.2.2.length : Int) - (2 : Int))) (0 : Int)).toNat + [(3 : Int)].length) * 8 ≤ lim) ∧ (∃ m_, m_ < m ∧ (L93 columns e) 0 m_ (⟨[(0, .data (Ty.sl TColumn) columns), (1, .data (Ty.sl TPart) e), (5, .own 16 none), (6, .data Ty.bool false), (7, .data (Ty.int .i64) (wrap64 (v0.2.1 + (1 : Int))))], [(16, .arr (Ty.int .i64) (v0.2.2.take (maxI (wrap64 ((v0.2.2.length : Int) - (2 : Int))) (0 : Int)).toNat ++ [(3 : Int)]))]⟩ : St) K))) (cond (decide ((nth (t := TPart) e v0.2.1).1 = (5 : Int))) (cond (decide ((nth (t := TPart) e v0.2.1).1 = (5 : Int))) (cond ((decide ((1 : Int) < (v0.2.2.length : Int))) == true) ((0 ≤ wrap64 ((v0.2.2.length : Int) - (1 : Int))) ∧ (wrap64 ((v0.2.2.length : Int) - (1 : Int)) < (v0.2.2.length : Int)) ∧ cond ((decide ((nth (t := (Ty.int .i64)) v0.2.2 (wrap64 ((v0.2.2.length : Int) - (1 : Int)))) = (3 : Int))) == true) ((0 ≤ wrap64 ((v0.2.2.length : Int) - (2 : Int))) ∧ (wrap64 ((v0.2.2.length : Int) - (2 : Int)) < (v0.2.2.length : Int)) ∧ (0 ≤ (0 : Int)) ∧ ((0 : Int) ≤ (maxI (wrap64 ((v0.2.2.length : Int) - (2 : Int))) (0 : Int))) ∧ ((maxI (wrap64 ((v0.2.2.length : Int) - (2 : Int))) (0 : Int)) ≤ (v0.2.2.length : Int)) ∧ ((maxI (wrap64 ((v0.2.2.length : Int) - (2 : Int))) (0 : Int)) = (maxI (wrap64 ((v0.2.2.length : Int) - (2 : Int))) (0 : Int))) ∧ ((0 : Int) = 0) ∧ (((maxI (wrap64 ((v0.2.2.length : Int) - (2 : Int))) (0 : Int)).toNat + [(3 : Int)].length) * 8 ≤ lim) ∧ (∃ m_, m_ < m ∧ (L93 columns e) 0 m_ (⟨[(0, .data (Ty.sl TColumn) columns), (1, .data (Ty.sl TPart) e), (5, .own 16 none), (6, .data Ty.bool (decide ((nth (t := (Ty.int .i64)) v0.2.2 (wrap64 ((v0.2.2.length : Int) - (2 : Int)))) = (3 : Int)))), (7, .data (Ty.int .i64) (wrap64 (v0.2.1 + (1 : Int))))], [(16, .arr (Ty.int .i64) (v0.2.2.take (maxI (wrap64 ((v0.2.2.length : Int) - (2 : Int))) (0 : Int)).toNat ++ [(3 : Int)]))]⟩ : St) K)) ((0 ≤ (0 : Int)) ∧ ((0 : Int) ≤ (maxI (wrap64 ((v0.2.2.length : Int) - (2 : Int))) (0 : Int))) ∧ ((maxI (wrap64 ((v0.2.2.length : Int) - (2 : Int))) (0 : Int)) ≤ (v0.2.2.length : Int)) ∧ ((maxI (wrap64 ((v0.2.2.length : Int) - (2 : Int))) (0 : Int)) = (maxI (wrap64 ((v0.2.2.length : Int) - (2 : Int))) (0 : Int))) ∧ ((0 : Int) = 0) ∧ (((maxI (wrap64 ((v0.2.2.length : Int) - (2 : Int))) (0 : Int)).toNat + [(3 : Int)].length) * 8 ≤ lim) ∧ (∃ m_, m_ < m ∧ (L93 columns e) 0 m_ (⟨[(0, .data (Ty.sl TColumn) columns), (1, .data (Ty.sl TPart) e), (5, .own 16 none), (6, .data Ty.bool false), (7, .data (Ty.int .i64) (wrap64 (v0.2.1 + (1 : Int))))], [(16, .arr (Ty.int .i64) (v0.2.2.take (maxI (wrap64 ((v0.2.2.length : Int) - (2 : Int))) (0 : Int)).toNat ++ [(3 : Int)]))]⟩ : St) K))) ((0 ≤ (0 : Int)) ∧ ((0 : Int) ≤ (maxI (wrap64 ((v0.2.2.length : Int) - (2 : Int))) (0 : Int))) ∧ ((maxI (wrap64 ((v0.2.2.length : Int) - (2 : Int))) (0 : Int)) ≤ (v0.2.2.length : Int)) ∧ ((maxI (wrap64 ((v0.2.2.length : Int) - (2 : Int))) (0 : Int)) = (maxI (wrap64 ((v0.2.2.length : Int) - (2 : Int))) (0 : Int))) ∧ ((0 : Int) = 0) ∧ (((maxI (wrap64 ((v0.2.2.length : Int) - (2 : Int))) (0 : Int)).toNat + [(3 : Int)].length) * 8 ≤ lim) ∧ (∃ m_, m_ < m ∧ (L93 columns e) 0 m_ (⟨[(0, .data (Ty.sl TColumn) columns), (1, .data (Ty.sl TPart) e), (5, .own 16 none), (6, .data Ty.bool false), (7, .data (Ty.int .i64) (wrap64 (v0.2.1 + (1 : Int))))], [(16, .arr (Ty.int .i64) (v0.2.2.take (maxI (wrap64 ((v0.2.2.length : Int) - (2 : Int))) (0 : Int)).toNat ++ [(3 : Int)]))]⟩ : St) K))) (cond (decide ((nth (t := TPart) e v0.2.1).1 = (7 : Int))) (cond ((decide ((0 : Int) < (v0.2.2.length : Int))) == true) ((0 ≤ wrap64 ((v0.2.2.length : Int) - (1 : Int))) ∧ (wrap64 ((v0.2.2.length : Int) - (1 : Int)) < (v0.2.2.length : Int)) ∧ (∃ m_, m_ < m ∧ (L93 columns e) 0 m_ (⟨[(0, .data (Ty.sl TColumn) columns), (1, .data (Ty.sl TPart) e), (5, .own 16 none), (6, .data Ty.bool (decide ((nth (t := (Ty.int .i64)) v0.2.2 (wrap64 ((v0.2.2.length : Int) - (1 : Int)))) = (3 : Int)))), (7, .data (Ty.int .i64) (wrap64 (v0.2.1 + (1 : Int))))], [(16, .arr (Ty.int .i64) v0.2.2)]⟩ : St) K)) ((∃ m_, m_ < m ∧ (L93 columns e) 0 m_ (⟨[(0, .data (Ty.sl TColumn) columns), (1, .data (Ty.sl TPart) e), (5, .own 16 none), (6, .data Ty.bool false), (7, .data (Ty.int .i64) (wrap64 (v0.2.1 + (1 : Int))))], [(16, .arr (Ty.int .i64) v0.2.2)]⟩ : St) K))) (cond (decide ((nth (t := TPart) e v0.2.1).1 = (8 : Int))) ((0 ≤ (0 : Int)) ∧ ((0 : Int) ≤ (maxI (wrap64 ((v0.2.2.length : Int) - (1 : Int))) (0 : Int))) ∧ ((maxI (wrap64 ((v0.2.2.length : Int) - (1 : Int))) (0 : Int)) ≤ (v0.2.2.length : Int)) ∧ ((maxI (wrap64 ((v0.2.2.length : Int) - (1 : Int))) (0 : Int)) = (maxI (wrap64 ((v0.2.2.length : Int) - (1 : Int))) (0 : Int))) ∧ ((0 : Int) = 0) ∧ (((maxI (wrap64 ((v0.2.2.length : Int) - (1 : Int))) (0 : Int)).toNat + [(3 : Int)].length) * 8 ≤ lim) ∧ (∃ m_, m_ < m ∧ (L93 columns e) 0 m_ (⟨[(0, .data (Ty.sl TColumn) columns), (1, .data (Ty.sl TPart) e), (5, .own 16 none), (6, .data Ty.bool (decide ((0 : Int) < (v0.2.2.length : Int)))), (7, .data (Ty.int .i64) (wrap64 (v0.2.1 + (1 : Int))))], [(16, .arr (Ty.int .i64) (v0.2.2.take (maxI (wrap64 ((v0.2.2.length : Int) - (1 : Int))) (0 : Int)).toNat ++ [(3 : Int)]))]⟩ : St) K)) ((∃ m_, m_ < m ∧ (L93 columns e) 0 m_ (⟨[(0, .data (Ty.sl TColumn) columns), (1, .data (Ty.sl TPart) e), (5, .own 16 none), (6, .data Ty.bool false), (7, .data (Ty.int .i64) (wrap64 (v0.2.1 + (1 : Int))))], [(16, .arr (Ty.int .i64) v0.2.2)]⟩ : St) K))))) (cond (decide ((nth (t := TPart) e v0.2.1).1 = (6 : Int))) (cond ((decide ((1 : Int) < (v0.2.2.length : Int))) == true) ((0 ≤ wrap64 ((v0.2.2.length : Int) - (1 : Int))) ∧ (wrap64 ((v0.2.2.length : Int) - (1 : Int)) < (v0.2.2.length : Int)) ∧ cond ((decide ((nth (t := (Ty.int .i64)) v0.2.2 (wrap64 ((v0.2.2.length : Int) - (1 : Int)))) = (3 : Int))) == true) ((0 ≤ wrap64 ((v0.2.2.length : Int) - (2 : Int))) ∧ (wrap64 ((v0.2.2.length : Int) - (2 : Int)) < (v0.2.2.length : Int)) ∧ (0 ≤ (0 : Int)) ∧ ((0 : Int) ≤ (maxI (wrap64 ((v0.2.2.length : Int) - (2 : Int))) (0 : Int))) ∧ ((maxI (wrap64 ((v0.2.2.length : Int) - (2 : Int))) (0 : Int)) ≤ (v0.2.2.length : Int)) ∧ ((maxI (wrap64 ((v0.2.2.length : Int) - (2 : Int))) (0 : Int)) = (maxI (wrap64 ((v0.2.2.length : Int) - (2 : Int))) (0 : Int))) ∧ ((0 : Int) = 0) ∧ (((maxI (wrap64 ((v0.2.2.length : Int) - (2 : Int))) (0 : Int)).toNat + [(3 : Int)].length) * 8 ≤ lim) ∧ (∃ m_, m_ < m ∧ (L93 columns e) 0 m_ (⟨[(0, .data (Ty.sl TColumn) columns), (1, .data (Ty.sl TPart) e), (5, .own 16 none), (6, .data Ty.bool (decide ((nth (t := (Ty.int .i64)) v0.2.2 (wrap64 ((v0.2.2.length : Int) - (2 : Int)))) = (3 : Int)))), (7, .data (Ty.int .i64) (wrap64 (v0.2.1 + (1 : Int))))], [(16, .arr (Ty.int .i64) (v0.2.2.take (maxI (wrap64 ((v0.2.2.length : Int) - (2 : Int))) (0 : Int)).toNat ++ [(3 : Int)]))]⟩ : St) K)) ((0 ≤ (0 : Int)) ∧ ((0 : Int) ≤ (maxI (wrap64 ((v0.2.2.length : Int) - (2 : Int))) (0 : Int))) ∧ ((maxI (wrap64 ((v0.2.2.length : Int) - (2 : Int))) (0 : Int)) ≤ (v0.2.2.length : Int)) ∧ ((maxI (wrap64 ((v0.2.2.length : Int) - (2 : Int))) (0 : Int)) = (maxI (wrap64 ((v0.2.2.length : Int) - (2 : Int))) (0 : Int))) ∧ ((0 : Int) = 0) ∧ (((maxI (wrap64 ((v0.2.2.length : Int) - (2 : Int))) (0 : Int)).toNat + [(3 : Int)].length) * 8 ≤ lim) ∧ (∃ m_, m_ < m ∧ (L93 columns e) 0 m_ (⟨[(0, .data (Ty.sl TColumn) columns), (1, .data (Ty.sl TPart) e), (5, .own 16 none), (6, .data Ty.bool false), (7, .data (Ty.int .i64) (wrap64 (v0.2.1 + (1 : Int))))], [(16, .arr (Ty.int .i64) (v0.2.2.take (maxI (wrap64 ((v0.2.2.length : Int) - (2 : Int))) (0 : Int)).toNat ++ [(3 : Int)]))]⟩ : St) K))) ((0 ≤ (0 : Int)) ∧ ((0 : Int) ≤ (maxI (wrap64 ((v0.2.2.length : Int) - (2 : Int))) (0 : Int))) ∧ ((maxI (wrap64 ((v0.2.2.length : Int) - (2 : Int))) (0 : Int)) ≤ (v0.2.2.length : Int)) ∧ ((maxI (wrap64 ((v0.2.2.length : Int) - (2 : Int))) (0 : Int)) = (maxI (wrap64 ((v0.2.2.length : Int) - (2 : Int))) (0 : Int))) ∧ ((0 : Int) = 0) ∧ (((maxI (wrap64 ((v0.2.2.length : Int) - (2 : Int))) (0 : Int)).toNat + [(3 : Int)].length) * 8 ≤ lim) ∧ (∃ m_, m_ < m ∧ (L93 columns e) 0 m_ (⟨[(0, .data (Ty.sl TColumn) columns), (1, .data (Ty.sl TPart) e), (5, .own 16 none), (6, .data Ty.bool false), (7, .data (Ty.int .i64) (wrap64 (v0.2.1 + (1 : Int))))], [(16, .arr (Ty.int .i64) (v0.2.2.take (maxI (wrap64 ((v0.2.2.length : Int) - (2 : Int))) (0 : Int)).toNat ++ [(3 : Int)]))]⟩ : St) K))) (cond (decide ((nth (t := TPart) e v0.2.1).1 = (7 : Int))) (cond ((decide ((0 : Int) < (v0.2.2.length : Int))) == true) ((0 ≤ wrap64 ((v0.2.2.length : Int) - (1 : Int))) ∧ (wrap64 ((v0.2.2.length : Int) - (1 : Int)) < (v0.2.2.length : Int)) ∧ (∃ m_, m_ < m ∧ (L93 columns e) 0 m_ (⟨[(0, .data (Ty.sl TColumn) columns), (1, .data (Ty.sl TPart) e), (5, .own 16 none), (6, .data Ty.bool (decide ((nth (t := (Ty.int .i64)) v0.2.2 (wrap64 ((v0.2.2.length : Int) - (1 : Int)))) = (3 : Int)))), (7, .data (Ty.int .i64) (wrap64 (v0.2.1 + (1 : Int))))], [(16, .arr (Ty.int .i64) v0.2.2)]⟩ : St) K)) ((∃ m_, m_ < m ∧ (L93 columns e) 0 m_ (⟨[(0, .data (Ty.sl TColumn) columns), (1, .data (Ty.sl TPart) e), (5, .own 16 none), (6, .data Ty.bool false), (7, .data (Ty.int .i64) (wrap64 (v0.2.1 + (1 : Int))))], [(16, .arr (Ty.int .i64) v0.2.2)]⟩ : St) K))) (cond (decide ((nth (t := TPart) e v0.2.1).1 = (8 : Int))) ((0 ≤ (0 : Int)) ∧ ((0 : Int) ≤ (maxI (wrap64 ((v0.2.2.length : Int) - (1 : Int))) (0 : Int))) ∧ ((maxI (wrap64 ((v0.2.2.length : Int) - (1 : Int))) (0 : Int)) ≤ (v0.2.2.length : Int)) ∧ ((maxI (wrap64 ((v0.2.2.length : Int) - (1 : Int))) (0 : Int)) = (maxI (wrap64 ((v0.2.2.length : Int) - (1 : Int))) (0 : Int))) ∧ ((0 : Int) = 0) ∧ (((maxI (wrap64 ((v0.2.2.length : Int) - (1 : Int))) (0 : Int)).toNat + [(3 : Int)].length) * 8 ≤ lim) ∧ (∃ m_, m_ < m ∧ (L93 columns e) 0 m_ (⟨[(0, .data (Ty.sl TColumn) columns), (1, .data (Ty.sl TPart) e), (5, .own 16 none), (6, .data Ty.bool (decide ((0 : Int) < (v0.2.2.length : Int)))), (7, .data (Ty.int .i64) (wrap64 (v0.2.1 + (1 : Int))))], [(16, .arr (Ty.int .i64) (v0.2.2.take (maxI (wrap64 ((v0.2.2.length : Int) - (1 : Int))) (0 : Int)).toNat ++ [(3 : Int)]))]⟩ : St) K)) ((∃ m_, m_ < m ∧ (L93 columns e) 0 m_ (⟨[(0, .data (Ty.sl TColumn) columns), (1, .data (Ty.sl TPart) e), (5, .own 16 none), (6, .data Ty.bool false), (7, .data (Ty.int .i64) (wrap64 (v0.2.1 + (1 : Int))))], [(16, .arr (Ty.int .i64) v0.2.2)]⟩ : St) K))))))))))) (cond (decide ((nth (t := TPart) e v0.2.1).1 = (1 : Int))) ((Sm TValue ((((nth (t := TPart) e v0.2.1).2).2).1)) ∧ cond ((!(M.valueOk ((((nth (t := TPart) e v0.2.1).2).2).1))) == false) (cond (decide (((((nth (t := TPart) e v0.2.1).2).2).1).1 = (0 : Int))) ((∃ m_, m_ < m ∧ (L93 columns e) 0 m_ (⟨[(0, .data (Ty.sl TColumn) columns), (1, .data (Ty.sl TPart) e), (5, .own 16 none), (6, .data Ty.bool false), (7, .data (Ty.int .i64) (wrap64 (v0.2.1 + (1 : Int))))], [(16, .arr (Ty.int .i64) v0.2.2)]⟩ : St) K)) (((v0.2.2.length + [((((nth (t := TPart) e v0.2.1).2).2).1).1].length) * 8 ≤ lim) ∧ (∃ m_, m_ < m ∧ (L93 columns e) 0 m_ (⟨[(0, .data (Ty.sl TColumn) columns), (1, .data (Ty.sl TPart) e), (5, .own 16 none), (6, .data Ty.bool true), (7, .data (Ty.int .i64) (wrap64 (v0.2.1 + (1 : Int))))], [(16, .arr (Ty.int .i64) (v0.2.2 ++ [((((nth (t := TPart) e v0.2.1).2).2).1).1]))]⟩ : St) K))) ((∃ m_, m_ < m ∧ (L93 columns e) 0 m_ (⟨[(0, .data (Ty.sl TColumn) columns), (1, .data (Ty.sl TPart) e), (5, .own 16 none), (6, .data Ty.bool false), (7, .data (Ty.int .i64) (wrap64 (v0.2.1 + (1 : Int))))], [(16, .arr (Ty.int .i64) v0.2.2)]⟩ : St) K))) (cond (decide ((nth (t := TPart) e v0.2.1).1 = (2 : Int))) (cond (!(M.inR (((nth (t := TPart) e v0.2.1).2).1) (0 : Int) (wrap64 ((columns.length : Int) - (1 : Int))))) ((∃ m_, m_ < m ∧ (L93 columns e) 0 m_ (⟨[(0, .data (Ty.sl TColumn) columns), (1, .data (Ty.sl TPart) e), (5, .own 16 none), (6, .data Ty.bool false), (7, .data (Ty.int .i64) (wrap64 (v0.2.1 + (1 : Int))))], [(16, .arr (Ty.int .i64) v0.2.2)]⟩ : St) K)) ((0 ≤ ((nth (t := TPart) e v0.2.1).2).1) ∧ (((nth (t := TPart) e v0.2.1).2).1 < (columns.length : Int)) ∧ ((v0.2.2.length + [(nth (t := TColumn) columns (((nth (t := TPart) e v0.2.1).2).1)).1].length) * 8 ≤ lim) ∧ (∃ m_, m_ < m ∧ (L93 columns e) 0 m_ (⟨[(0, .data (Ty.sl TColumn) columns), (1, .data (Ty.sl TPart) e), (5, .own 16 none), (6, .data Ty.bool true), (7, .data (Ty.int .i64) (wrap64 (v0.2.1 + (1 : Int))))], [(16, .arr (Ty.int .i64) (v0.2.2 ++ [(nth (t := TColumn) columns (((nth (t := TPart) e v0.2.1).2).1)).1]))]⟩ : St) K))) (cond (decide ((nth (t := TPart) e v0.2.1).1 = (3 : Int))) (cond ((decide ((1 : Int) < (v0.2.2.length : Int))) == true) ((0 ≤ wrap64 ((v0.2.2.length : Int) - (1 : Int))) ∧ (wrap64 ((v0.2.2.length : Int) - (1 : Int)) < (v0.2.2.length : Int)) ∧ cond ((decide ((nth (t := (Ty.int .i64)) v0.2.2 (wrap64 ((v0.2.2.length : Int) - (1 : Int)))) = (1 : Int))) == true) ((0 ≤ wrap64 ((v0.2.2.length : Int) - (2 : Int))) ∧ (wrap64 ((v0.2.2.length : Int) - (2 : Int)) < (v0.2.2.length : Int)) ∧ (0 ≤ (0 : Int)) ∧ ((0 : Int) ≤ (maxI (wrap64 ((v0.2.2.length : Int) - (2 : Int))) (0 : Int))) ∧ ((maxI (wrap64 ((v0.2.2.length : Int) - (2 : Int))) (0 : Int)) ≤ (v0.2.2.length : Int)) ∧ ((maxI (wrap64 ((v0.2.2.length : Int) - (2 : Int))) (0 : Int)) = (maxI (wrap64 ((v0.2.2.length : Int) - (2 : Int))) (0 : Int))) ∧ ((0 : Int) = 0) ∧ (((maxI (wrap64 ((v0.2.2.length : Int) - (2 : Int))) (0 : Int)).toNat + [(1 : Int)].length) * 8 ≤ lim) ∧ (∃ m_, m_ < m ∧ (L93 columns e) 0 m_ (⟨[(0, .data (Ty.sl TColumn) columns), (1, .data (Ty.sl TPart) e), (5, .own 16 none), (6, .data Ty.bool (decide ((nth (t := (Ty.int .i64)) v0.2.2 (wrap64 ((v0.2.2.length : Int) - (2 : Int)))) = (1 : Int)))), (7, .data (Ty.int .i64) (wrap64 (v0.2.1 + (1 : Int))))], [(16, .arr (Ty.int .i64) (v0.2.2.take (maxI (wrap64 ((v0.2.2.length : Int) - (2 : Int))) (0 : Int)).toNat ++ [(1 : Int)]))]⟩ : St) K)) ((0 ≤ (0 : Int)) ∧ ((0 : Int) ≤ (maxI (wrap64 ((v0.2.2.length : Int) - (2 : Int))) (0 : Int))) ∧ ((maxI (wrap64 ((v0.2.2.length : Int) - (2 : Int))) (0 : Int)) ≤ (v0.2.2.length : Int)) ∧ ((maxI (wrap64 ((v0.2.2.length : Int) - (2 : Int))) (0 : Int)) = (maxI (wrap64 ((v0.2.2.length : Int) - (2 : Int))) (0 : Int))) ∧ ((0 : Int) = 0) ∧ (((maxI (wrap64 ((v0.2.2.length : Int) - (2 : Int))) (0 : Int)).toNat + [(1 : Int)].length) * 8 ≤ lim) ∧ (∃ m_, m_ < m ∧ (L93 columns e) 0 m_ (⟨[(0, .data (Ty.sl TColumn) columns), (1, .data (Ty.sl TPart) e), (5, .own 16 none), (6, .data Ty.bool false), (7, .data (Ty.int .i64) (wrap64 (v0.2.1 + (1 : Int))))], [(16, .arr (Ty.int .i64) (v0.2.2.take (maxI (wrap64 ((v0.2.2.length : Int) - (2 : Int))) (0 : Int)).toNat ++ [(1 : Int)]))]⟩ : St) K))) ((0 ≤ (0 : Int)) ∧ ((0 : Int) ≤ (maxI (wrap64 ((v0.2.2.length : Int) - (2 : Int))) (0 : Int))) ∧ ((maxI (wrap64 ((v0.2.2.length : Int) - (2 : Int))) (0 : Int)) ≤ (v0.2.2.length : Int)) ∧ ((maxI (wrap64 ((v0.2.2.length : Int) - (2 : Int))) (0 : Int)) = (maxI (wrap64 ((v0.2.2.length : Int) - (2 : Int))) (0 : Int))) ∧ ((0 : Int) = 0) ∧ (((maxI (wrap64 ((v0.2.2.length : Int) - (2 : Int))) (0 : Int)).toNat + [(1 : Int)].length) * 8 ≤ lim) ∧ (∃ m_, m_ < m ∧ (L93 columns e) 0 m_ (⟨[(0, .data (Ty.sl TColumn) columns), (1, .data (Ty.sl TPart) e), (5, .own 16 none), (6, .data Ty.bool false), (7, .data (Ty.int .i64) (wrap64 (v0.2.1 + (1 : Int))))], [(16, .arr (Ty.int .i64) (v0.2.2.take (maxI (wrap64 ((v0.2.2.length : Int) - (2 : Int))) (0 : Int)).toNat ++ [(1 : Int)]))]⟩ : St) K))) (cond (decide ((nth (t := TPart) e v0.2.1).1 = (4 : Int))) (cond ((decide ((1 : Int) < (v0.2.2.length : Int))) == true) ((0 ≤ wrap64 ((v0.2.2.length : Int) - (1 : Int))) ∧ (wrap64 ((v0.2.2.length : Int) - (1 : Int)) < (v0.2.2.length : Int)) ∧ (0 ≤ wrap64 ((v0.2.2.length : Int) - (2 : Int))) ∧ (wrap64 ((v0.2.2.length : Int) - (2 : Int)) < (v0.2.2.length : Int)) ∧ cond ((decide ((nth (t := (Ty.int .i64)) v0.2.2 (wrap64 ((v0.2.2.length : Int) - (1 : Int)))) = (nth (t := (Ty.int .i64)) v0.2.2 (wrap64 ((v0.2.2.length : Int) - (2 : Int)))))) == true) ((0 ≤ (0 : Int)) ∧ ((0 : Int) ≤ (maxI (wrap64 ((v0.2.2.length : Int) - (2 : Int))) (0 : Int))) ∧ ((maxI (wrap64 ((v0.2.2.length : Int) - (2 : Int))) (0 : Int)) ≤ (v0.2.2.length : Int)) ∧ ((maxI (wrap64 ((v0.2.2.length : Int) - (2 : Int))) (0 : Int)) = (maxI (wrap64 ((v0.2.2.length : Int) - (2 : Int))) (0 : Int))) ∧ ((0 : Int) = 0) ∧ (((maxI (wrap64 ((v0.2.2.length : Int) - (2 : Int))) (0 : Int)).toNat + [(3 : Int)].length) * 8 ≤ lim) ∧ (∃ m_, m_ < m ∧ (L93 columns e) 0 m_ (⟨[(0, .data (Ty.sl TColumn) columns), (1, .data (Ty.sl TPart) e), (5, .own 16 none), (6, .data Ty.bool (M.inR (((nth (t := TPart) e v0.2.1).2).1) (1 : Int) (4 : Int))), (7, .data (Ty.int .i64) (wrap64 (v0.2.1 + (1 : Int))))], [(16, .arr (Ty.int .i64) (v0.2.2.take (maxI (wrap64 ((v0.2.2.length : Int) - (2 : Int))) (0 : Int)).toNat ++ [(3 : Int)]))]⟩ : St) K)) ((0 ≤ (0 : Int)) ∧ ((0 : Int) ≤ (maxI (wrap64 ((v0.2.2.length : Int) - (2 : Int))) (0 : Int))) ∧ ((maxI (wrap64 ((v0.2.2.length : Int) - (2 : Int))) (0 : Int)) ≤ (v0.2.2.length : Int)) ∧ ((maxI (wrap64 ((v0.2.2.length : Int) - (2 : Int))) (0 : Int)) = (maxI (wrap64 ((v0.2.2.length : Int) - (2 : Int))) (0 : Int))) ∧ ((0 : Int) = 0) ∧ (((maxI (wrap64 ((v0.2.2.length : Int) - (2 : Int))) (0 : Int)).toNat + [(3 : Int)].length) * 8 ≤ lim) ∧ (∃ m_, m_ < m ∧ (L93 columns e) 0 m_ (⟨[(0, .data (Ty.sl TColumn) columns), (1, .data (Ty.sl TPart) e), (5, .own 16 none), (6, .data Ty.bool false), (7, .data (Ty.int .i64) (wrap64 (v0.2.1 + (1 : Int))))], [(16, .arr (Ty.int .i64) (v0.2.2.take (maxI (wrap64 ((v0.2.2.length : Int) - (2 : Int))) (0 : Int)).toNat ++ [(3 : Int)]))]⟩ : St) K))) ((0 ≤ (0 : Int)) ∧ ((0 : Int) ≤ (maxI (wrap64 ((v0.2.2.length : Int) - (2 : Int))) (0 : Int))) ∧ ((maxI (wrap64 ((v0.2.2.length : Int) - (2 : Int))) (0 : Int)) ≤ (v0.2.2.length : Int)) ∧ ((maxI (wrap64 ((v0.2.2.length : Int) - (2 : Int))) (0 : Int)) = (maxI (wrap64 ((v0.2.2.length : Int) - (2 : Int))) (0 : Int))) ∧ ((0 : Int) = 0) ∧ (((maxI (wrap64 ((v0.2.2.length : Int) - (2 : Int))) (0 : Int)).toNat + [(3 : Int)].length) * 8 ≤ lim) ∧ (∃ m_, m_ < m ∧ (L93 columns e) 0 m_ (⟨[(0, .data (Ty.sl TColumn) columns), (1, .data (Ty.sl TPart) e), (5, .own 16 none), (6, .data Ty.bool false), (7, .data (Ty.int .i64) (wrap64 (v0.2.1 + (1 : Int))))], [(16, .arr (Ty.int .i64) (v0.2.2.take (maxI (wrap64 ((v0.2.2.length : Int) - (2 : Int))) (0 : Int)).toNat ++ [(3 : Int)]))]⟩ : St) K))) (cond (decide ((nth (t := TPart) e v0.2.1).1 = (5 : Int))) (cond (decide ((nth (t := TPart) e v0.2.1).1 = (5 : Int))) (cond ((decide ((1 : Int) < (v0.2.2.length : Int))) == true) ((0 ≤ wrap64 ((v0.2.2.length : Int) - (1 : Int))) ∧ (wrap64 ((v0.2.2.length : Int) - (1 : Int)) < (v0.2.2.length : Int)) ∧ cond ((decide ((nth (t := (Ty.int .i64)) v0.2.2 (wrap64 ((v0.2.2.length : Int) - (1 : Int)))) = (3 : Int))) == true) ((0 ≤ wrap64 ((v0.2.2.length : Int) - (2 : Int))) ∧ (wrap64 ((v0.2.2.length : Int) - (2 : Int)) < (v0.2.2.length : Int)) ∧ (0 ≤ (0 : Int)) ∧ ((0 : Int) ≤ (maxI (wrap64 ((v0.2.2.length : Int) - (2 : Int))) (0 : Int))) ∧ ((maxI (wrap64 ((v0.2.2.length : Int) - (2 : Int))) (0 : Int)) ≤ (v0.2.2.length : Int)) ∧ ((maxI (wrap64 ((v0.2.2.length : Int) - (2 : Int))) (0 : Int)) = (maxI (wrap64 ((v0.2.2.length : Int) - (2 : Int))) (0 : Int))) ∧ ((0 : Int) = 0) ∧ (((maxI (wrap64 ((v0.2.2.length : Int) - (2 : Int))) (0 : Int)).toNat + [(3 : Int)].length) * 8 ≤ lim) ∧ (∃ m_, m_ < m ∧ (L93 columns e) 0 m_ (⟨[(0, .data (Ty.sl TColumn) columns), (1, .data (Ty.sl TPart) e), (5, .own 16 none), (6, .data Ty.bool (decide ((nth (t := (Ty.int .i64)) v0.2.2 (wrap64 ((v0.2.2.length : Int) - (2 : Int)))) = (3 : Int)))), (7, .data (Ty.int .i64) (wrap64 (v0.2.1 + (1 : Int))))], [(16, .arr (Ty.int .i64) (v0.2.2.take (maxI (wrap64 ((v0.2.2.length : Int) - (2 : Int))) (0 : Int)).toNat ++ [(3 : Int)]))]⟩ : St) K)) ((0 ≤ (0 : Int)) ∧ ((0 : Int) ≤ (maxI (wrap64 ((v0.2.2.length : Int) - (2 : Int))) (0 : Int))) ∧ ((maxI (wrap64 ((v0.2.2.length : Int) - (2 : Int))) (0 : Int)) ≤ (v0.2.2.length : Int)) ∧ ((maxI (wrap64 ((v0.2.2.length : Int) - (2 : Int))) (0 : Int)) = (maxI (wrap64 ((v0.2.2.length : Int) - (2 : Int))) (0 : Int))) ∧ ((0 : Int) = 0) ∧ (((maxI (wrap64 ((v0.2.2.length : Int) - (2 : Int))) (0 : Int)).toNat + [(3 : Int)].length) * 8 ≤ lim) ∧ (∃ m_, m_ < m ∧ (L93 columns e) 0 m_ (⟨[(0, .data (Ty.sl TColumn) columns), (1, .data (Ty.sl TPart) e), (5, .own 16 none), (6, .data Ty.bool false), (7, .data (Ty.int .i64) (wrap64 (v0.2.1 + (1 : Int))))], [(16, .arr (Ty.int .i64) (v0.2.2.take (maxI (wrap64 ((v0.2.2.length : Int) - (2 : Int))) (0 : Int)).toNat ++ [(3 : Int)]))]⟩ : St) K))) ((0 ≤ (0 : Int)) ∧ ((0 : Int) ≤ (maxI (wrap64 ((v0.2.2.length : Int) - (2 : Int))) (0 : Int))) ∧ ((maxI (wrap64 ((v0.2.2.length : Int) - (2 : Int))) (0 : Int)) ≤ (v0.2.2.length : Int)) ∧ ((maxI (wrap64 ((v0.2.2.length : Int) - (2 : Int))) (0 : Int)) = (maxI (wrap64 ((v0.2.2.length : Int) - (2 : Int))) (0 : Int))) ∧ ((0 : Int) = 0) ∧ (((maxI (wrap64 ((v0.2.2.length : Int) - (2 : Int))) (0 : Int)).toNat + [(3 : Int)].length) * 8 ≤ lim) ∧ (∃ m_, m_ < m ∧ (L93 columns e) 0 m_ (⟨[(0, .data (Ty.sl TColumn) columns), (1, .data (Ty.sl TPart) e), (5, .own 16 none), (6, .data Ty.bool false), (7, .data (Ty.int .i64) (wrap64 (v0.2.1 + (1 : Int))))], [(16, .arr (Ty.int .i64) (v0.2.2.take (maxI (wrap64 ((v0.2.2.length : Int) - (2 : Int))) (0 : Int)).toNat ++ [(3 : Int)]))]⟩ : St) K))) (cond (decide ((nth (t := TPart) e v0.2.1).1 = (7 : Int))) (cond ((decide ((0 : Int) < (v0.2.2.length : Int))) == true) ((0 ≤ wrap64 ((v0.2.2.length : Int) - (1 : Int))) ∧ (wrap64 ((v0.2.2.length : Int) - (1 : Int)) < (v0.2.2.length : Int)) ∧ (∃ m_, m_ < m ∧ (L93 columns e) 0 m_ (⟨[(0, .data (Ty.sl TColumn) columns), (1, .data (Ty.sl TPart) e), (5, .own 16 none), (6, .data Ty.bool (decide ((nth (t := (Ty.int .i64)) v0.2.2 (wrap64 ((v0.2.2.length : Int) - (1 : Int)))) = (3 : Int)))), (7, .data (Ty.int .i64) (wrap64 (v0.2.1 + (1 : Int))))], [(16, .arr (Ty.int .i64) v0.2.2)]⟩ : St) K)) ((∃ m_, m_ < m ∧ (L93 columns e) 0 m_ (⟨[(0, .data (Ty.sl TColumn) columns), (1, .data (Ty.sl TPart) e), (5, .own 16 none), (6, .data Ty.bool false), (7, .data (Ty.int .i64) (wrap64 (v0.2.1 + (1 : Int))))], [(16, .arr (Ty.int .i64) v0.2.2)]⟩ : St) K))) (cond (decide ((nth (t := TPart) e v0.2.1).1 = (8 : Int))) ((0 ≤ (0 : Int)) ∧ ((0 : Int) ≤ (maxI (wrap64 ((v0.2.2.length : Int) - (1 : Int))) (0 : Int))) ∧ ((maxI (wrap64 ((v0.2.2.length : Int) - (1 : Int))) (0 : Int)) ≤ (v0.2.2.length : Int)) ∧ ((maxI (wrap64 ((v0.2.2.length : Int) - (1 : Int))) (0 : Int)) = (maxI (wrap64 ((v0.2.2.length : Int) - (1 : Int))) (0 : Int))) ∧ ((0 : Int) = 0) ∧ (((maxI (wrap64 ((v0.2.2.length : Int) - (1 : Int))) (0 : Int)).toNat + [(3 : Int)].length) * 8 ≤ lim) ∧ (∃ m_, m_ < m ∧ (L93 columns e) 0 m_ (⟨[(0, .data (Ty.sl TColumn) columns), (1, .data (Ty.sl TPart) e), (5, .own 16 none), (6, .data Ty.bool (decide ((0 : Int) < (v0.2.2.length : Int)))), (7, .data (Ty.int .i64) (wrap64 (v0.2.1 + (1 : Int))))], [(16, .arr (Ty.int .i64) (v0.2.2.take (maxI (wrap64 ((v0.2.2.length : Int) - (1 : Int))) (0 : Int)).toNat ++ [(3 : Int)]))]⟩ : St) K)) ((∃ m_, m_ < m ∧ (L93 columns e) 0 m_ (⟨[(0, .data (Ty.sl TColumn) columns), (1, .data (Ty.sl TPart) e), (5, .own 16 none), (6, .data Ty.bool false), (7, .data (Ty.int .i64) (wrap64 (v0.2.1 + (1 : Int))))], [(16, .arr (Ty.int .i64) v0.2.2)]⟩ : St) K))))) (cond (decide ((nth (t := TPart) e v0.2.1).1 = (6 : Int))) (cond ((decide ((1 : Int) < (v0.2.2.length : Int))) == true) ((0 ≤ wrap64 ((v0.2.2.length : Int) - (1 : Int))) ∧ (wrap64 ((v0.2.2.length : Int) - (1 : Int)) < (v0.2.2.length : Int)) ∧ cond ((decide ((nth (t := (Ty.int .i64)) v0.2.2 (wrap64 ((v0.2.2.length : Int) - (1 : Int)))) = (3 : Int))) == true) ((0 ≤ wrap64 ((v0.2.2.length : Int) - (2 : Int))) ∧ (wrap64 ((v0.2.2.length : Int) - (2 : Int)) < (v0.2.2.length : Int)) ∧ (0 ≤ (0 : Int)) ∧ ((0 : Int) ≤ (maxI (wrap64 ((v0.2.2.length : Int) - (2 : Int))) (0 : Int))) ∧ ((maxI (wrap64 ((v0.2.2.length : Int) - (2 : Int))) (0 : Int)) ≤ (v0.2.2.length : Int)) ∧ ((maxI (wrap64 ((v0.2.2.length : Int) - (2 : Int))) (0 : Int)) = (maxI (wrap64 ((v0.2.2.length : Int) - (2 : Int))) (0 : Int))) ∧ ((0 : Int) = 0) ∧ (((maxI (wrap64 ((v0.2.2.length : Int) - (2 : Int))) (0 : Int)).toNat + [(3 : Int)].length) * 8 ≤ lim) ∧ (∃ m_, m_ < m ∧ (L93 columns e) 0 m_ (⟨[(0, .data (Ty.sl TColumn) columns), (1, .data (Ty.sl TPart) e), (5, .own 16 none), (6, .data Ty.bool (decide ((nth (t := (Ty.int .i64)) v0.2.2 (wrap64 ((v0.2.2.length : Int) - (2 : Int)))) = (3 : Int)))), (7, .data (Ty.int .i64) (wrap64 (v0.2.1 + (1 : Int))))], [(16, .arr (Ty.int .i64) (v0.2.2.take (maxI (wrap64 ((v0.2.2.length : Int) - (2 : Int))) (0 : Int)).toNat ++ [(3 : Int)]))]⟩ : St) K)) ((0 ≤ (0 : Int)) ∧ ((0 : Int) ≤ (maxI (wrap64 ((v0.2.2.length : Int) - (2 : Int))) (0 : Int))) ∧ ((maxI (wrap64 ((v0.2.2.length : Int) - (2 : Int))) (0 : Int)) ≤ (v0.2.2.length : Int)) ∧ ((maxI (wrap64 ((v0.2.2.length : Int) - (2 : Int))) (0 : Int)) = (maxI (wrap64 ((v0.2.2.length : Int) - (2 : Int))) (0 : Int))) ∧ ((0 : Int) = 0) ∧ (((maxI (wrap64 ((v0.2.2.length : Int) - (2 : Int))) (0 : Int)).toNat + [(3 : Int)].length) * 8 ≤ lim) ∧ (∃ m_, m_ < m ∧ (L93 columns e) 0 m_ (⟨[(0, .data (Ty.sl TColumn) columns), (1, .data (Ty.sl TPart) e), (5, .own 16 none), (6, .data Ty.bool false), (7, .data (Ty.int .i64) (wrap64 (v0.2.1 + (1 : Int))))], [(16, .arr (Ty.int .i64) (v0.2.2.take (maxI (wrap64 ((v0.2.2.length : Int) - (2 : Int))) (0 : Int)).toNat ++ [(3 : Int)]))]⟩ : St) K))) ((0 ≤ (0 : Int)) ∧ ((0 : Int) ≤ (maxI (wrap64 ((v0.2.2.length : Int) - (2 : Int))) (0 : Int))) ∧ ((maxI (wrap64 ((v0.2.2.length : Int) - (2 : Int))) (0 : Int)) ≤ (v0.2.2.length : Int)) ∧ ((maxI (wrap64 ((v0.2.2.length : Int) - (2 : Int))) (0 : Int)) = (maxI (wrap64 ((v0.2.2.length : Int) - (2 : Int))) (0 : Int))) ∧ ((0 : Int) = 0) ∧ (((maxI (wrap64 ((v0.2.2.length : Int) - (2 : Int))) (0 : Int)).toNat + [(3 : Int)].length) * 8 ≤ lim) ∧ (∃ m_, m_ < m ∧ (L93 columns e) 0 m_ (⟨[(0, .data (Ty.sl TColumn) columns), (1, .data (Ty.sl TPart) e), (5, .own 16 none), (6, .data Ty.bool false), (7, .data (Ty.int .i64) (wrap64 (v0.2.1 + (1 : Int))))], [(16, .arr (Ty.int .i64) (v0.2.2.take (maxI (wrap64 ((v0.2.2.length : Int) - (2 : Int))) (0 : Int)).toNat ++ [(3 : Int)]))]⟩ : St) K))) (cond (decide ((nth (t := TPart) e v0.2.1).1 = (7 : Int))) (cond ((decide ((0 : Int) < (v0.2.2.length : Int))) == true) ((0 ≤ wrap64 ((v0.2.2.length : Int) - (1 : Int))) ∧ (wrap64 ((v0.2.2.length : Int) - (1 : Int)) < (v0.2.2.length : Int)) ∧ (∃ m_, m_ < m ∧ (L93 columns e) 0 m_ (⟨[(0, .data (Ty.sl TColumn) columns), (1, .data (Ty.sl TPart) e), (5, .own 16 none), (6, .data Ty.bool (decide ((nth (t := (Ty.int .i64)) v0.2.2 (wrap64 ((v0.2.2.length : Int) - (1 : Int)))) = (3 : Int)))), (7, .data (Ty.int .i64) (wrap64 (v0.2.1 + (1 : Int))))], [(16, .arr (Ty.int .i64) v0.2.2)]⟩ : St) K)) ((∃ m_, m_ < m ∧ (L93 columns e) 0 m_ (⟨[(0, .data (Ty.sl TColumn) columns), (1, .data (Ty.sl TPart) e), (5, .own 16 none), (6, .data Ty.bool false), (7, .data (Ty.int .i64) (wrap64 (v0.2.1 + (1 : Int))))], [(16, .arr (Ty.int .i64) v0.2.2)]⟩ : St) K))) (cond (decide ((nth (t := TPart) e v0.2.1).1 = (8 : Int))) ((0 ≤ (0 : Int)) ∧ ((0 : Int) ≤ (maxI (wrap64 ((v0.2.2.length : Int) - (1 : Int))) (0 : Int))) ∧ ((maxI (wrap64 ((v0.2.2.length : Int) - (1 : Int))) (0 : Int)) ≤ (v0.2.2.length : Int)) ∧ ((maxI (wrap64 ((v0.2.2.length : Int) - (1 : Int))) (0 : Int)) = (maxI (wrap64 ((v0.2.2.length : Int) - (1 : Int))) (0 : Int))) ∧ ((0 : Int) = 0) ∧ (((maxI (wrap64 ((v0.2.2.length : Int) - (1 : Int))) (0 : Int)).toNat + [(3 : Int)].length) * 8 ≤ lim) ∧ (∃ m_, m_ < m ∧ (L93 columns e) 0 m_ (⟨[(0, .data (Ty.sl TColumn) columns), (1, .data (Ty.sl TPart) e), (5, .own 16 none), (6, .data Ty.bool (decide ((0 : Int) < (v0.2.2.length : Int)))), (7, .data (Ty.int .i64) (wrap64 (v0.2.1 + (1 : Int))))], [(16, .arr (Ty.int .i64) (v0.2.2.take (maxI (wrap64 ((v0.2.2.length : Int) - (1 : Int))) (0 : Int)).toNat ++ [(3 : Int)]))]⟩ : St) K)) ((∃ m_, m_ < m ∧ (L93 columns e) 0 m_ (⟨[(0, .data (Ty.sl TColumn) columns), (1, .data (Ty.sl TPart) e), (5, .own 16 none), (6, .data Ty.bool false), (7, .data (Ty.int .i64) (wrap64 (v0.2.1 + (1 : Int))))], [(16, .arr (Ty.int .i64) v0.2.2)]⟩ : St) K))))))))))) ((∃ m_, m_ < m ∧ (L93 columns e) 0 m_ (⟨[(0, .data (Ty.sl TColumn) columns), (1, .data (Ty.sl TPart) e), (5, .own 16 none), (6, .data Ty.bool false), (7, .data (Ty.int .i64) (wrap64 (v0.2.1 + (1 : Int))))], [(16, .arr (Ty.int .i64) v0.2.2)]⟩ : St) K))) (cond ((!decide ((nth (t := TPart) e v0.2.1).1 = (2 : Int))) == true) (cond ((!decide ((nth (t := TPart) e v0.2.1).1 = (4 : Int))) == true) (cond (!decide (((nth (t := TPart) e v0.2.1).2).1 = (0 : Int))) ((∃ m_, m_ < m ∧ (L93 columns e) 0 m_ (⟨[(0, .data (Ty.sl TColumn) columns), (1, .data (Ty.sl TPart) e), (5, .own 16 none), (6, .data Ty.bool false), (7, .data (Ty.int .i64) (wrap64 (v0.2.1 + (1 : Int))))], [(16, .arr (Ty.int .i64) v0.2.2)]⟩ : St) K)) (cond (decide ((nth (t := TPart) e v0.2.1).1 = (1 : Int))) ((Sm TValue ((((nth (t := TPart) e v0.2.1).2).2).1)) ∧ cond ((!(M.valueOk ((((nth (t := TPart) e v0.2.1).2).2).1))) == false) (cond (decide (((((nth (t := TPart) e v0.2.1).2).2).1).1 = (0 : Int))) ((∃ m_, m_ < m ∧ (L93 columns e) 0 m_ (⟨[(0, .data (Ty.sl TColumn) columns), (1, .data (Ty.sl TPart) e), (5, .own 16 none), (6, .data Ty.bool false), (7, .data (Ty.int .i64) (wrap64 (v0.2.1 + (1 : Int))))], [(16, .arr (Ty.int .i64) v0.2.2)]⟩ : St) K)) (((v0.2.2.length + [((((nth (t := TPart) e v0.2.1).2).2).1).1].length) * 8 ≤ lim) ∧ (∃ m_, m_ < m ∧ (L93 columns e) 0 m_ (⟨[(0, .data (Ty.sl TColumn) columns), (1, .data (Ty.sl TPart) e), (5, .own 16 none), (6, .data Ty.bool true), (7, .data (Ty.int .i64) (wrap64 (v0.2.1 + (1 : Int))))], [(16, .arr (Ty.int .i64) (v0.2.2 ++ [((((nth (t := TPart) e v0.2.1).2).2).1).1]))]⟩ : St) K))) ((∃ m_, m_ < m ∧ (L93 columns e) 0 m_ (⟨[(0, .data (Ty.sl TColumn) columns), (1, .data (Ty.sl TPart) e), (5, .own 16 none), (6, .data Ty.bool false), (7, .data (Ty.int .i64) (wrap64 (v0.2.1 + (1 : Int))))], [(16, .arr (Ty.int .i64) v0.2.2)]⟩ : St) K))) (cond (decide ((nth (t := TPart) e v0.2.1).1 = (2 : Int))) (cond (!(M.inR (((nth (t := TPart) e v0.2.1).2).1) (0 : Int) (wrap64 ((columns.length : Int) - (1 : Int))))) ((∃ m_, m_ < m ∧ (L93 columns e) 0 m_ (⟨[(0, .data (Ty.sl TColumn) columns), (1, .data (Ty.sl TPart) e), (5, .own 16 none), (6, .data Ty.bool false), (7, .data (Ty.int .i64) (wrap64 (v0.2.1 + (1 : Int))))], [(16, .arr (Ty.int .i64) v0.2.2)]⟩ : St) K)) ((0 ≤ ((nth (t := TPart) e v0.2.1).2).1) ∧ (((nth (t := TPart) e v0.2.1).2).1 < (columns.length : Int)) ∧ ((v0.2.2.length + [(nth (t := TColumn) columns (((nth (t := TPart) e v0.2.1).2).1)).1].length) * 8 ≤ lim) ∧ (∃ m_, m_ < m ∧ (L93 columns e) 0 m_ (⟨[(0, .data (Ty.sl TColumn) columns), (1, .data (Ty.sl TPart) e), (5, .own 16 none), (6, .data Ty.bool true), (7, .data (Ty.int .i64) (wrap64 (v0.2.1 + (1 : Int))))], [(16, .arr (Ty.int .i64) (v0.2.2 ++ [(nth (t := TColumn) columns (((nth (t := TPart) e v0.2.1).2).1)).1]))]⟩ : St) K))) (cond (decide ((nth (t := TPart) e v0.2.1).1 = (3 : Int))) (cond ((decide ((1 : Int) < (v0.2.2.length : Int))) == true) ((0 ≤ wrap64 ((v0.2.2.length : Int) - (1 : Int))) ∧ (wrap64 ((v0.2.2.length : Int) - (1 : Int)) < (v0.2.2.length : Int)) ∧ cond ((decide ((nth (t := (Ty.int .i64)) v0.2.2 (wrap64 ((v0.2.2.length : Int) - (1 : Int)))) = (1 : Int))) == true) ((0 ≤ wrap64 ((v0.2.2.length : Int) - (2 : Int))) ∧ (wrap64 ((v0.2.2.length : Int) - (2 : Int)) < (v0.2.2.length : Int)) ∧ (0 ≤ (0 : Int)) ∧ ((0 : Int) ≤ (maxI (wrap64 ((v0.2.2.length : Int) - (2 : Int))) (0 : Int))) ∧ ((maxI (wrap64 ((v0.2.2.length : Int) - (2 : Int))) (0 : Int)) ≤ (v0.2.2.length : Int)) ∧ ((maxI (wrap64 ((v0.2.2.length : Int) - (2 : Int))) (0 : Int)) = (maxI (wrap64 ((v0.2.2.length : Int) - (2 : Int))) (0 : Int))) ∧ ((0 : Int) = 0) ∧ (((maxI (wrap64 ((v0.2.2.length : Int) - (2 : Int))) (0 : Int)).toNat + [(1 : Int)].length) * 8 ≤ lim) ∧ (∃ m_, m_ < m ∧ (L93 columns e) 0 m_ (⟨[(0, .data (Ty.sl TColumn) columns), (1, .data (Ty.sl TPart) e), (5, .own 16 none), (6, .data Ty.bool (decide ((nth (t := (Ty.int .i64)) v0.2.2 (wrap64 ((v0.2.2.length : Int) - (2 : Int)))) = (1 : Int)))), (7, .data (Ty.int .i64) (wrap64 (v0.2.1 + (1 : Int))))], [(16, .arr (Ty.int .i64) (v0.2.2.take (maxI (wrap64 ((v0.2.2.length : Int) - (2 : Int))) (0 : Int)).toNat ++ [(1 : Int)]))]⟩ : St) K)) ((0 ≤ (0 : Int)) ∧ ((0 : Int) ≤ (maxI (wrap64 ((v0.2.2.length : Int) - (2 : Int))) (0 : Int))) ∧ ((maxI (wrap64 ((v0.2.2.length : Int) - (2 : Int))) (0 : Int)) ≤ (v0.2.2.length : Int)) ∧ ((maxI (wrap64 ((v0.2.2.length : Int) - (2 : Int))) (0 : Int)) = (maxI (wrap64 ((v0.2.2.length : Int) - (2 : Int))) (0 : Int))) ∧ ((0 : Int) = 0) ∧ (((maxI (wrap64 ((v0.2.2.length : Int) - (2 : Int))) (0 : Int)).toNat + [(1 : Int)].length) * 8 ≤ lim) ∧ (∃ m_, m_ < m ∧ (L93 columns e) 0 m_ (⟨[(0, .data (Ty.sl TColumn) columns), (1, .data (Ty.sl TPart) e), (5, .own 16 none), (6, .data Ty.bool false), (7, .data (Ty.int .i64) (wrap64 (v0.2.1 + (1 : Int))))], [(16, .arr (Ty.int .i64) (v0.2.2.take (maxI (wrap64 ((v0.2.2.length : Int) - (2 : Int))) (0 : Int)).toNat ++ [(1 : Int)]))]⟩ : St) K))) ((0 ≤ (0 : Int)) ∧ ((0 : Int) ≤ (maxI (wrap64 ((v0.2.2.length : Int) - (2 : Int))) (0 : Int))) ∧ ((maxI (wrap64 ((v0.2.2.length : Int) - (2 : Int))) (0 : Int)) ≤ (v0.2.2.length : Int)) ∧ ((maxI (wrap64 ((v0.2.2.length : Int) - (2 : Int))) (0 : Int)) = (maxI (wrap64 ((v0.2.2.length : Int) - (2 : Int))) (0 : Int))) ∧ ((0 : Int) = 0) ∧ (((maxI (wrap64 ((v0.2.2.length : Int) - (2 : Int))) (0 : Int)).toNat + [(1 : Int)].length) * 8 ≤ lim) ∧ (∃ m_, m_ < m ∧ (L93 columns e) 0 m_ (⟨[(0, .data (Ty.sl TColumn) columns), (1, .data (Ty.sl TPart) e), (5, .own 16 none), (6, .data Ty.bool false), (7, .data (Ty.int .i64) (wrap64 (v0.2.1 + (1 : Int))))], [(16, .arr (Ty.int .i64) (v0.2.2.take (maxI (wrap64 ((v0.2.2.length : Int) - (2 : Int))) (0 : Int)).toNat ++ [(1 : Int)]))]⟩ : St) K))) (cond (decide ((nth (t := TPart) e v0.2.1).1 = (4 : Int))) (cond ((decide ((1 : Int) < (v0.2.2.length : Int))) == true) ((0 ≤ wrap64 ((v0.2.2.length : Int) - (1 : Int))) ∧ (wrap64 ((v0.2.2.length : Int) - (1 : Int)) < (v0.2.2.length : Int)) ∧ (0 ≤ wrap64 ((v0.2.2.length : Int) - (2 : Int))) ∧ (wrap64 ((v0.2.2.length : Int) - (2 : Int)) < (v0.2.2.length : Int)) ∧ cond ((decide ((nth (t := (Ty.int .i64)) v0.2.2 (wrap64 ((v0.2.2.length : Int) - (1 : Int)))) = (nth (t := (Ty.int .i64)) v0.2.2 (wrap64 ((v0.2.2.length : Int) - (2 : Int)))))) == true) ((0 ≤ (0 : Int)) ∧ ((0 : Int) ≤ (maxI (wrap64 ((v0.2.2.length : Int) - (2 : Int))) (0 : Int))) ∧ ((maxI (wrap64 ((v0.2.2.length : Int) - (2 : Int))) (0 : Int)) ≤ (v0.2.2.length : Int)) ∧ ((maxI (wrap64 ((v0.2.2.length : Int) - (2 : Int))) (0 : Int)) = (maxI (wrap64 ((v0.2.2.length : Int) - (2 : Int))) (0 : Int))) ∧ ((0 : Int) = 0) ∧ (((maxI (wrap64 ((v0.2.2.length : Int) - (2 : Int))) (0 : Int)).toNat + [(3 : Int)].length) * 8 ≤ lim) ∧ (∃ m_, m_ < m ∧ (L93 columns e) 0 m_ (⟨[(0, .data (Ty.sl TColumn) columns), (1, .data (Ty.sl TPart) e), (5, .own 16 none), (6, .data Ty.bool (M.inR (((nth (t := TPart) e v0.2.1).2).1) (1 : Int) (4 : Int))), (7, .data (Ty.int .i64) (wrap64 (v0.2.1 + (1 : Int))))], [(16, .arr (Ty.int .i64) (v0.2.2.take (maxI (wrap64 ((v0.2.2.length : Int) - (2 : Int))) (0 : Int)).toNat ++ [(3 : Int)]))]⟩ : St) K)) ((0 ≤ (0 : Int)) ∧ ((0 : Int) ≤ (maxI (wrap64 ((v0.2.2.length : Int) - (2 : Int))) (0 : Int))) ∧ ((maxI (wrap64 ((v0.2.2.length : Int) - (2 : Int))) (0 : Int)) ≤ (v0.2.2.length : Int)) ∧ ((maxI (wrap64 ((v0.2.2.length : Int) - (2 : Int))) (0 : Int)) = (maxI (wrap64 ((v0.2.2.length : Int) - (2 : Int))) (0 : Int))) ∧ ((0 : Int) = 0) ∧ (((maxI (wrap64 ((v0.2.2.length : Int) - (2 : Int))) (0 : Int)).toNat + [(3 : Int)].length) * 8 ≤ lim) ∧ (∃ m_, m_ < m ∧ (L93 columns e) 0 m_ (⟨[(0, .data (Ty.sl TColumn) columns), (1, .data (Ty.sl TPart) e), (5, .own 16 none), (6, .data Ty.bool false), (7, .data (Ty.int .i64) (wrap64 (v0.2.1 + (1 : Int))))], [(16, .arr (Ty.int .i64) (v0.2.2.take (maxI (wrap64 ((v0.2.2.length : Int) - (2 : Int))) (0 : Int)).toNat ++ [(3 : Int)]))]⟩ : St) K))) ((0 ≤ (0 : Int)) ∧ ((0 : Int) ≤ (maxI (wrap64 ((v0.2.2.length : Int) - (2 : Int))) (0 : Int))) ∧ ((maxI (wrap64 ((v0.2.2.length : Int) - (2 : Int))) (0 : Int)) ≤ (v0.2.2.length : Int)) ∧ ((maxI (wrap64 ((v0.2.2.length : Int) - (2 : Int))) (0 : Int)) = (maxI (wrap64 ((v0.2.2.length : Int) - (2 : Int))) (0 : Int))) ∧ ((0 : Int) = 0) ∧ (((maxI (wrap64 ((v0.2.2.length : Int) - (2 : Int))) (0 : Int)).toNat + [(3 : Int)].length) * 8 ≤ lim) ∧ (∃ m_, m_ < m ∧ (L93 columns e) 0 m_ (⟨[(0, .data (Ty.sl TColumn) columns), (1, .data (Ty.sl TPart) e), (5, .own 16 none), (6, .data Ty.bool false), (7, .data (Ty.int .i64) (wrap64 (v0.2.1 + (1 : Int))))], [(16, .arr (Ty.int .i64) (v0.2.2.take (maxI (wrap64 ((v0.2.2.length : Int) - (2 : Int))) (0 : Int)).toNat ++ [(3 : Int)]))]⟩ : St) K))) (cond (decide ((nth (t := TPart) e v0.2.1).1 = (5 : Int))) (cond (decide ((nth (t := TPart) e v0.2.1).1 = (5 : Int))) (cond ((decide ((1 : Int) < (v0.2.2.length : Int))) == true) ((0 ≤ wrap64 ((v0.2.2.length : Int) - (1 : Int))) ∧ (wrap64 ((v0.2.2.length : Int) - (1 : Int)) < (v0.2.2.length : Int)) ∧ cond ((decide ((nth (t := (Ty.int .i64)) v0.2.2 (wrap64 ((v0.2.2.length : Int) - (1 : Int)))) = (3 : Int))) == true) ((0 ≤ wrap64 ((v0.2.2.length : Int) - (2 : Int))) ∧ (wrap64 ((v0.2.2.length : Int) - (2 : Int)) < (v0.2.2.length : Int)) ∧ (0 ≤ (0 : Int)) ∧ ((0 : Int) ≤ (maxI (wrap64 ((v0.2.2.length : Int) - (2 : Int))) (0 : Int))) ∧ ((maxI (wrap64 ((v0.2.2.length : Int) - (2 : Int))) (0 : Int)) ≤ (v0.2.2.length : Int)) ∧ ((maxI (wrap64 ((v0.2.2.length : Int) - (2 : Int))) (0 : Int)) = (maxI (wrap64 ((v0.2.2.length : Int) - (2 : Int))) (0 : Int))) ∧ ((0 : Int) = 0) ∧ (((maxI (wrap64 ((v0.2.2.length : Int) - (2 : Int))) (0 : Int)).toNat + [(3 : Int)].length) * 8 ≤ lim) ∧ (∃ m_, m_ < m ∧ (L93 columns e) 0 m_ (⟨[(0, .data (Ty.sl TColumn) columns), (1, .data (Ty.sl TPart) e), (5, .own 16 none), (6, .data Ty.bool (decide ((nth (t := (Ty.int .i64)) v0.2.2 (wrap64 ((v0.2.2.length : Int) - (2 : Int)))) = (3 : Int)))), (7, .data (Ty.int .i64) (wrap64 (v0.2.1 + (1 : Int))))], [(16, .arr (Ty.int .i64) (v0.2.2.take (maxI (wrap64 ((v0.2.2.length : Int) - (2 : Int))) (0 : Int)).toNat ++ [(3 : Int)]))]⟩ : St) K)) ((0 ≤ (0 : Int)) ∧ ((0 : Int) ≤ (maxI (wrap64 ((v0.2.2.length : Int) - (2 : Int))) (0 : Int))) ∧ ((maxI (wrap64 ((v0.2.2.length : Int) - (2 : Int))) (0 : Int)) ≤ (v0.2.2.length : Int)) ∧ ((maxI (wrap64 ((v0.2.2.length : Int) - (2 : Int))) (0 : Int)) = (maxI (wrap64 ((v0.2.2.length : Int) - (2 : Int))) (0 : Int))) ∧ ((0 : Int) = 0) ∧ (((maxI (wrap64 ((v0.2.2.length : Int) - (2 : Int))) (0 : Int)).toNat + [(3 : Int)].length) * 8 ≤ lim) ∧ (∃ m_, m_ < m ∧ (L93 columns e) 0 m_ (⟨[(0, .data (Ty.sl TColumn) columns), (1, .data (Ty.sl TPart) e), (5, .own 16 none), (6, .data Ty.bool false), (7, .data (Ty.int .i64) (wrap64 (v0.2.1 + (1 : Int))))], [(16, .arr (Ty.int .i64) (v0.2.2.take (maxI (wrap64 ((v0.2.2.length : Int) - (2 : Int))) (0 : Int)).toNat ++ [(3 : Int)]))]⟩ : St) K))) ((0 ≤ (0 : Int)) ∧ ((0 : Int) ≤ (maxI (wrap64 ((v0.2.2.length : Int) - (2 : Int))) (0 : Int))) ∧ ((maxI (wrap64 ((v0.2.2.length : Int) - (2 : Int))) (0 : Int)) ≤ (v0.2.2.length : Int)) ∧ ((maxI (wrap64 ((v0.2.2.length : Int) - (2 : Int))) (0 : Int)) = (maxI (wrap64 ((v0.2.2.length : Int) - (2 : Int))) (0 : Int))) ∧ ((0 : Int) = 0) ∧ (((maxI (wrap64 ((v0.2.2.length : Int) - (2 : Int))) (0 : Int)).toNat + [(3 : Int)].length) * 8 ≤ lim) ∧ (∃ m_, m_ < m ∧ (L93 columns e) 0 m_ (⟨[(0, .data (Ty.sl TColumn) columns), (1, .data (Ty.sl TPart) e), (5, .own 16 none), (6, .data Ty.bool false), (7, .data (Ty.int .i64) (wrap64 (v0.2.1 + (1 : Int))))], [(16, .arr (Ty.int .i64) (v0.2.2.take (maxI (wrap64 ((v0.2.2.length : Int) - (2 : Int))) (0 : Int)).toNat ++ [(3 : Int)]))]⟩ : St) K))) (cond (decide ((nth (t := TPart) e v0.2.1).1 = (7 : Int))) (cond ((decide ((0 : Int) < (v0.2.2.length : Int))) == true) ((0 ≤ wrap64 ((v0.2.2.length : Int) - (1 : Int))) ∧ (wrap64 ((v0.2.2.length : Int) - (1 : Int)) < (v0.2.2.length : Int)) ∧ (∃ m_, m_ < m ∧ (L93 columns e) 0 m_ (⟨[(0, .data (Ty.sl TColumn) columns), (1, .data (Ty.sl TPart) e), (5, .own 16 none), (6, .data Ty.bool (decide ((nth (t := (Ty.int .i64)) v0.2.2 (wrap64 ((v0.2.2.length : Int) - (1 : Int)))) = (3 : Int)))), (7, .data (Ty.int .i64) (wrap64 (v0.2.1 + (1 : Int))))], [(16, .arr (Ty.int .i64) v0.2.2)]⟩ : St) K)) ((∃ m_, m_ < m ∧ (L93 columns e) 0 m_ (⟨[(0, .data (Ty.sl TColumn) columns), (1, .data (Ty.sl TPart) e), (5, .own 16 none), (6, .data Ty.bool false), (7, .data (Ty.int .i64) (wrap64 (v0.2.1 + (1 : Int))))], [(16, .arr (Ty.int .i64) v0.2.2)]⟩ : St) K))) (cond (decide ((nth (t := TPart) e v0.2.1).1 = (8 : Int))) ((0 ≤ (0 : Int)) ∧ ((0 : Int) ≤ (maxI (wrap64 ((v0.2.2.length : Int) - (1 : Int))) (0 : Int))) ∧ ((maxI (wrap64 ((v0.2.2.length : Int) - (1 : Int))) (0 : Int)) ≤ (v0.2.2.length : Int)) ∧ ((maxI (wrap64 ((v0.2.2.length : Int) - (1 : Int))) (0 : Int)) = (maxI (wrap64 ((v0.2.2.length : Int) - (1 : Int))) (0 : Int))) ∧ ((0 : Int) = 0) ∧ (((maxI (wrap64 ((v0.2.2.length : Int) - (1 : Int))) (0 : Int)).toNat + [(3 : Int)].length) * 8 ≤ lim) ∧ (∃ m_, m_ < m ∧ (L93 columns e) 0 m_ (⟨[(0, .data (Ty.sl TColumn) columns), (1, .data (Ty.sl TPart) e), (5, .own 16 none), (6, .data Ty.bool (decide ((0 : Int) < (v0.2.2.length : Int)))), (7, .data (Ty.int .i64) (wrap64 (v0.2.1 + (1 : Int))))], [(16, .arr (Ty.int .i64) (v0.2.2.take (maxI (wrap64 ((v0.2.2.length : Int) - (1 : Int))) (0 : Int)).toNat ++ [(3 : Int)]))]⟩ : St) K)) ((∃ m_, m_ < m ∧ (L93 columns e) 0 m_ (⟨[(0, .data (Ty.sl TColumn) columns), (1, .data (Ty.sl TPart) e), (5, .own 16 none), (6, .data Ty.bool false), (7, .data (Ty.int .i64) (wrap64 (v0.2.1 + (1 : Int))))], [(16, .arr (Ty.int .i64) v0.2.2)]⟩ : St) K))))) (cond (decide ((nth (t := TPart) e v0.2.1).1 = (6 : Int))) (cond ((decide ((1 : Int) < (v0.2.2.length : Int))) == true) ((0 ≤ wrap64 ((v0.2.2.length : Int) - (1 : Int))) ∧ (wrap64 ((v0.2.2.length : Int) - (1 : Int)) < (v0.2.2.length : Int)) ∧ cond ((decide ((nth (t := (Ty.int .i64)) v0.2.2 (wrap64 ((v0.2.2.length : Int) - (1 : Int)))) = (3 : Int))) == true) ((0 ≤ wrap64 ((v0.2.2.length : Int) - (2 : Int))) ∧ (wrap64 ((v0.2.2.length : Int) - (2 : Int)) < (v0.2.2.length : Int)) ∧ (0 ≤ (0 : Int)) ∧ ((0 : Int) ≤ (maxI (wrap64 ((v0.2.2.length : Int) - (2 : Int))) (0 : Int))) ∧ ((maxI (wrap64 ((v0.2.2.length : Int) - (2 : Int))) (0 : Int)) ≤ (v0.2.2.length : Int)) ∧ ((maxI (wrap64 ((v0.2.2.length : Int) - (2 : Int))) (0 : Int)) = (maxI (wrap64 ((v0.2.2.length : Int) - (2 : Int))) (0 : Int))) ∧ ((0 : Int) = 0) ∧ (((maxI (wrap64 ((v0.2.2.length : Int) - (2 : Int))) (0 : Int)).toNat + [(3 : Int)].length) * 8 ≤ lim) ∧ (∃ m_, m_ < m ∧ (L93 columns e) 0 m_ (⟨[(0, .data (Ty.sl TColumn) columns), (1, .data (Ty.sl TPart) e), (5, .own 16 none), (6, .data Ty.bool (decide ((nth (t := (Ty.int .i64)) v0.2.2 (wrap64 ((v0.2.2.length : Int) - (2 : Int)))) = (3 : Int)))), (7, .data (Ty.int .i64) (wrap64 (v0.2.1 + (1 : Int))))], [(16, .arr (Ty.int .i64) (v0.2.2.take (maxI (wrap64 ((v0.2.2.length : Int) - (2 : Int))) (0 : Int)).toNat ++ [(3 : Int)]))]⟩ : St) K)) ((0 ≤ (0 : Int)) ∧ ((0 : Int) ≤ (maxI (wrap64 ((v0.2.2.length : Int) - (2 : Int))) (0 : Int))) ∧ ((maxI (wrap64 ((v0.2.2.length : Int) - (2 : Int))) (0 : Int)) ≤ (v0.2.2.length : Int)) ∧ ((maxI (wrap64 ((v0.2.2.length : Int) - (2 : Int))) (0 : Int)) = (maxI (wrap64 ((v0.2.2.length : Int) - (2 : Int))) (0 : Int))) ∧ ((0 : Int) = 0) ∧ (((maxI (wrap64 ((v0.2.2.length : Int) - (2 : Int))) (0 : Int)).toNat + [(3 : Int)].length) * 8 ≤ lim) ∧ (∃ m_, m_ < m ∧ (L93 columns e) 0 m_ (⟨[(0, .data (Ty.sl TColumn) columns), (1, .data (Ty.sl TPart) e), (5, .own 16 none), (6, .data Ty.bool false), (7, .data (Ty.int .i64) (wrap64 (v0.2.1 + (1 : Int))))], [(16, .arr (Ty.int .i64) (v0.2.2.take (maxI (wrap64 ((v0.2.2.length : Int) - (2 : Int))) (0 : Int)).toNat ++ [(3 : Int)]))]⟩ : St) K))) ((0 ≤ (0 : Int)) ∧ ((0 : Int) ≤ (maxI (wrap64 ((v0.2.2.length : Int) - (2 : Int))) (0 : Int))) ∧ ((maxI (wrap64 ((v0.2.2.length : Int) - (2 : Int))) (0 : Int)) ≤ (v0.2.2.length : Int)) ∧ ((maxI (wrap64 ((v0.2.2.length : Int) - (2 : Int))) (0 : Int)) = (maxI (wrap64 ((v0.2.2.length : Int) - (2 : Int))) (0 : Int))) ∧ ((0 : Int) = 0) ∧ (((maxI (wrap64 ((v0.2.2.length : Int) - (2 : Int))) (0 : Int)).toNat + [(3 : Int)].length) * 8 ≤ lim) ∧ (∃ m_, m_ < m ∧ (L93 columns e) 0 m_ (⟨[(0, .data (Ty.sl TColumn) columns), (1, .data (Ty.sl TPart) e), (5, .own 16 none), (6, .data Ty.bool false), (7, .data (Ty.int .i64) (wrap64 (v0.2.1 + (1 : Int))))], [(16, .arr (Ty.int .i64) (v0.2.2.take (maxI (wrap64 ((v0.2.2.length : Int) - (2 : Int))) (0 : Int)).toNat ++ [(3 : Int)]))]⟩ : St) K))) (cond (decide ((nth (t := TPart) e v0.2.1).1 = (7 : Int))) (cond ((decide ((0 : Int) < (v0.2.2.length : Int))) == true) ((0 ≤ wrap64 ((v0.2.2.length : Int) - (1 : Int))) ∧ (wrap64 ((v0.2.2.length : Int) - (1 : Int)) < (v0.2.2.length : Int)) ∧ (∃ m_, m_ < m ∧ (L93 columns e) 0 m_ (⟨[(0, .data (Ty.sl TColumn) columns), (1, .data (Ty.sl TPart) e), (5, .own 16 none), (6, .data Ty.bool (decide ((nth (t := (Ty.int .i64)) v0.2.2 (wrap64 ((v0.2.2.length : Int) - (1 : Int)))) = (3 : Int)))), (7, .data (Ty.int .i64) (wrap64 (v0.2.1 + (1 : Int))))], [(16, .arr (Ty.int .i64) v0.2.2)]⟩ : St) K)) ((∃ m_, m_ < m ∧ (L93 columns e) 0 m_ (⟨[(0, .data (Ty.sl TColumn) columns), (1, .data (Ty.sl TPart) e), (5, .own 16 none), (6, .data Ty.bool false), (7, .data (Ty.int .i64) (wrap64 (v0.2.1 + (1 : Int))))], [(16, .arr (Ty.int .i64) v0.2.2)]⟩ : St) K))) (cond (decide ((nth (t := TPart) e v0.2.1).1 = (8 : Int))) ((0 ≤ (0 : Int)) ∧ ((0 : Int) ≤ (maxI (wrap64 ((v0.2.2.length : Int) - (1 : Int))) (0 : Int))) ∧ ((maxI (wrap64 ((v0.2.2.length : Int) - (1 : Int))) (0 : Int)) ≤ (v0.2.2.length : Int)) ∧ ((maxI (wrap64 ((v0.2.2.length : Int) - (1 : Int))) (0 : Int)) = (maxI (wrap64 ((v0.2.2.length : Int) - (1 : Int))) (0 : Int))) ∧ ((0 : Int) = 0) ∧ (((maxI (wrap64 ((v0.2.2.length : Int) - (1 : Int))) (0 : Int)).toNat + [(3 : Int)].length) * 8 ≤ lim) ∧ (∃ m_, m_ < m ∧ (L93 columns e) 0 m_ (⟨[(0, .data (Ty.sl TColumn) columns), (1, .data (Ty.sl TPart) e), (5, .own 16 none), (6, .data Ty.bool (decide ((0 : Int) < (v0.2.2.length : Int)))), (7, .data (Ty.int .i64) (wrap64 (v0.2.1 + (1 : Int))))], [(16, .arr (Ty.int .i64) (v0.2.2.take (maxI (wrap64 ((v0.2.2.length : Int) - (1 : Int))) (0 : Int)).toNat ++ [(3 : Int)]))]⟩ : St) K)) ((∃ m_, m_ < m ∧ (L93 columns e) 0 m_ (⟨[(0, .data (Ty.sl TColumn) columns), (1, .data (Ty.sl TPart) e), (5, .own 16 none), (6, .data Ty.bool false), (7, .data (Ty.int .i64) (wrap64 (v0.2.1 + (1 : Int))))], [(16, .arr (Ty.int .i64) v0.2.2)]⟩ : St) K))))))))))) (cond (decide ((nth (t := TPart) e v0.2.1).1 = (1 : Int))) ((Sm TValue ((((nth (t := TPart) e v0.2.1).2).2).1)) ∧ cond ((!(M.valueOk ((((nth (t := TPart) e v0.2.1).2).2).1))) == false) (cond (decide (((((nth (t := TPart) e v0.2.1).2).2).1).1 = (0 : Int))) ((∃ m_, m_ < m ∧ (L93 columns e) 0 m_ (⟨[(0, .data (Ty.sl TColumn) columns), (1, .data (Ty.sl TPart) e), (5, .own 16 none), (6, .data Ty.bool false), (7, .data (Ty.int .i64) (wrap64 (v0.2.1 + (1 : Int))))], [(16, .arr (Ty.int .i64) v0.2.2)]⟩ : St) K)) (((v0.2.2.length + [((((nth (t := TPart) e v0.2.1).2).2).1).1].length) * 8 ≤ lim) ∧ (∃ m_, m_ < m ∧ (L93 columns e) 0 m_ (⟨[(0, .data (Ty.sl TColumn) columns), (1, .data (Ty.sl TPart) e), (5, .own 16 none), (6, .data Ty.bool true), (7, .data (Ty.int .i64) (wrap64 (v0.2.1 + (1 : Int))))], [(16, .arr (Ty.int .i64) (v0.2.2 ++ [((((nth (t := TPart) e v0.2.1).2).2).1).1]))]⟩ : St) K))) ((∃ m_, m_ < m ∧ (L93 columns e) 0 m_ (⟨[(0, .data (Ty.sl TColumn) columns), (1, .data (Ty.sl TPart) e), (5, .own 16 none), (6, .data Ty.bool false), (7, .data (Ty.int .i64) (wrap64 (v0.2.1 + (1 : Int))))], [(16, .arr (Ty.int .i64) v0.2.2)]⟩ : St) K))) (cond (decide ((nth (t := TPart) e v0.2.1).1 = (2 : Int))) (cond (!(M.inR (((nth (t := TPart) e v0.2.1).2).1) (0 : Int) (wrap64 ((columns.length : Int) - (1 : Int))))) ((∃ m_, m_ < m ∧ (L93 columns e) 0 m_ (⟨[(0, .data (Ty.sl TColumn) columns), (1, .data (Ty.sl TPart) e), (5, .own 16 none), (6, .data Ty.bool false), (7, .data (Ty.int .i64) (wrap64 (v0.2.1 + (1 : Int))))], [(16, .arr (Ty.int .i64) v0.2.2)]⟩ : St) K)) ((0 ≤ ((nth (t := TPart) e v0.2.1).2).1) ∧ (((nth (t := TPart) e v0.2.1).2).1 < (columns.length : Int)) ∧ ((v0.2.2.length + [(nth (t := TColumn) columns (((nth (t := TPart) e v0.2.1).2).1)).1].length) * 8 ≤ lim) ∧ (∃ m_, m_ < m ∧ (L93 columns e) 0 m_ (⟨[(0, .data (Ty.sl TColumn) columns), (1, .data (Ty.sl TPart) e), (5, .own 16 none), (6, .data Ty.bool true), (7, .data (Ty.int .i64) (wrap64 (v0.2.1 + (1 : Int))))], [(16, .arr (Ty.int .i64) (v0.2.2 ++ [(nth (t := TColumn) columns (((nth (t := TPart) e v0.2.1).2).1)).1]))]⟩ : St) K))) (cond (decide ((nth (t := TPart) e v0.2.1).1 = (3 : Int))) (cond ((decide ((1 : Int) < (v0.2.2.length : Int))) == true) ((0 ≤ wrap64 ((v0.2.2.length : Int) - (1 : Int))) ∧ (wrap64 ((v0.2.2.length : Int) - (1 : Int)) < (v0.2.2.length : Int)) ∧ cond ((decide ((nth (t := (Ty.int .i64)) v0.2.2 (wrap64 ((v0.2.2.length : Int) - (1 : Int)))) = (1 : Int))) == true) ((0 ≤ wrap64 ((v0.2.2.length : Int) - (2 : Int))) ∧ (wrap64 ((v0.2.2.length : Int) - (2 : Int)) < (v0.2.2.length : Int)) ∧ (0 ≤ (0 : Int)) ∧ ((0 : Int) ≤ (maxI (wrap64 ((v0.2.2.length : Int) - (2 : Int))) (0 : Int))) ∧ ((maxI (wrap64 ((v0.2.2.length : Int) - (2 : Int))) (0 : Int)) ≤ (v0.2.2.length : Int)) ∧ ((maxI (wrap64 ((v0.2.2.length : Int) - (2 : Int))) (0 : Int)) = (maxI (wrap64 ((v0.2.2.length : Int) - (2 : Int))) (0 : Int))) ∧ ((0 : Int) = 0) ∧ (((maxI (wrap64 ((v0.2.2.length : Int) - (2 : Int))) (0 : Int)).toNat + [(1 : Int)].length) * 8 ≤ lim) ∧ (∃ m_, m_ < m ∧ (L93 columns e) 0 m_ (⟨[(0, .data (Ty.sl TColumn) columns), (1, .data (Ty.sl TPart) e), (5, .own 16 none), (6, .data Ty.bool (decide ((nth (t := (Ty.int .i64)) v0.2.2 (wrap64 ((v0.2.2.length : Int) - (2 : Int)))) = (1 : Int)))), (7, .data (Ty.int .i64) (wrap64 (v0.2.1 + (1 : Int))))], [(16, .arr (Ty.int .i64) (v0.2.2.take (maxI (wrap64 ((v0.2.2.length : Int) - (2 : Int))) (0 : Int)).toNat ++ [(1 : Int)]))]⟩ : St) K)) ((0 ≤ (0 : Int)) ∧ ((0 : Int) ≤ (maxI (wrap64 ((v0.2.2.length : Int) - (2 : Int))) (0 : Int))) ∧ ((maxI (wrap64 ((v0.2.2.length : Int) - (2 : Int))) (0 : Int)) ≤ (v0.2.2.length : Int)) ∧ ((maxI (wrap64 ((v0.2.2.length : Int) - (2 : Int))) (0 : Int)) = (maxI (wrap64 ((v0.2.2.length : Int) - (2 : Int))) (0 : Int))) ∧ ((0 : Int) = 0) ∧ (((maxI (wrap64 ((v0.2.2.length : Int) - (2 : Int))) (0 : Int)).toNat + [(1 : Int)].length) * 8 ≤ lim) ∧ (∃ m_, m_ < m ∧ (L93 columns e) 0 m_ (⟨[(0, .data (Ty.sl TColumn) columns), (1, .data (Ty.sl TPart) e), (5, .own 16 none), (6, .data Ty.bool false), (7, .data (Ty.int .i64) (wrap64 (v0.2.1 + (1 : Int))))], [(16, .arr (Ty.int .i64) (v0.2.2.take (maxI (wrap64 ((v0.2.2.length : Int) - (2 : Int))) (0 : Int)).toNat ++ [(1 : Int)]))]⟩ : St) K))) ((0 ≤ (0 : Int)) ∧ ((0 : Int) ≤ (maxI (wrap64 ((v0.2.2.length : Int) - (2 : Int))) (0 : Int))) ∧ ((maxI (wrap64 ((v0.2.2.length : Int) - (2 : Int))) (0 : Int)) ≤ (v0.2.2.length : Int)) ∧ ((maxI (wrap64 ((v0.2.2.length : Int) - (2 : Int))) (0 : Int)) = (maxI (wrap64 ((v0.2.2.length : Int) - (2 : Int))) (0 : Int))) ∧ ((0 : Int) = 0) ∧ (((maxI (wrap64 ((v0.2.2.length : Int) - (2 : Int))) (0 : Int)).toNat + [(1 : Int)].length) * 8 ≤ lim) ∧ (∃ m_, m_ < m ∧ (L93 columns e) 0 m_ (⟨[(0, .data (Ty.sl TColumn) columns), (1, .data (Ty.sl TPart) e), (5, .own 16 none), (6, .data Ty.bool false), (7, .data (Ty.int .i64) (wrap64 (v0.2.1 + (1 : Int))))], [(16, .arr (Ty.int .i64) (v0.2.2.take (maxI (wrap64 ((v0.2.2.length : Int) - (2 : Int))) (0 : Int)).toNat ++ [(1 : Int)]))]⟩ : St) K))) (cond (decide ((nth (t := TPart) e v0.2.1).1 = (4 : Int))) (cond ((decide ((1 : Int) < (v0.2.2.length : Int))) == true) ((0 ≤ wrap64 ((v0.2.2.length : Int) - (1 : Int))) ∧ (wrap64 ((v0.2.2.length : Int) - (1 : Int)) < (v0.2.2.length : Int)) ∧ (0 ≤ wrap64 ((v0.2.2.length : Int) - (2 : Int))) ∧ (wrap64 ((v0.2.2.length : Int) - (2 : Int)) < (v0.2.2.length : Int)) ∧ cond ((decide ((nth (t := (Ty.int .i64)) v0.2.2 (wrap64 ((v0.2.2.length : Int) - (1 : Int)))) = (nth (t := (Ty.int .i64)) v0.2.2 (wrap64 ((v0.2.2.length : Int) - (2 : Int)))))) == true) ((0 ≤ (0 : Int)) ∧ ((0 : Int) ≤ (maxI (wrap64 ((v0.2.2.length : Int) - (2 : Int))) (0 : Int))) ∧ ((maxI (wrap64 ((v0.2.2.length : Int) - (2 : Int))) (0 : Int)) ≤ (v0.2.2.length : Int)) ∧ ((maxI (wrap64 ((v0.2.2.length : Int) - (2 : Int))) (0 : Int)) = (maxI (wrap64 ((v0.2.2.length : Int) - (2 : Int))) (0 : Int))) ∧ ((0 : Int) = 0) ∧ (((maxI (wrap64 ((v0.2.2.length : Int) - (2 : Int))) (0 : Int)).toNat + [(3 : Int)].length) * 8 ≤ lim) ∧ (∃ m_, m_ < m ∧ (L93 columns e) 0 m_ (⟨[(0, .data (Ty.sl TColumn) columns), (1, .data (Ty.sl TPart) e), (5, .own 16 none), (6, .data Ty.bool (M.inR (((nth (t := TPart) e v0.2.1).2).1) (1 : Int) (4 : Int))), (7, .data (Ty.int .i64) (wrap64 (v0.2.1 + (1 : Int))))], [(16, .arr (Ty.int .i64) (v0.2.2.take (maxI (wrap64 ((v0.2.2.length : Int) - (2 : Int))) (0 : Int)).toNat ++ [(3 : Int)]))]⟩ : St) K)) ((0 ≤ (0 : Int)) ∧ ((0 : Int) ≤ (maxI (wrap64 ((v0.2.2.length : Int) - (2 : Int))) (0 : Int))) ∧ ((maxI (wrap64 ((v0.2.2.length : Int) - (2 : Int))) (0 : Int)) ≤ (v0.2.2.length : Int)) ∧ ((maxI (wrap64 ((v0.2.2.length : Int) - (2 : Int))) (0 : Int)) = (maxI (wrap64 ((v0.2.2.length : Int) - (2 : Int))) (0 : Int))) ∧ ((0 : Int) = 0) ∧ (((maxI (wrap64 ((v0.2.2.length : Int) - (2 : Int))) (0 : Int)).toNat + [(3 : Int)].length) * 8 ≤ lim) ∧ (∃ m_, m_ < m ∧ (L93 columns e) 0 m_ (⟨[(0, .data (Ty.sl TColumn) columns), (1, .data (Ty.sl TPart) e), (5, .own 16 none), (6, .data Ty.bool false), (7, .data (Ty.int .i64) (wrap64 (v0.2.1 + (1 : Int))))], [(16, .arr (Ty.int .i64) (v0.2.2.take (maxI (wrap64 ((v0.2.2.length : Int) - (2 : Int))) (0 : Int)).toNat ++ [(3 : Int)]))]⟩ : St) K))) ((0 ≤ (0 : Int)) ∧ ((0 : Int) ≤ (maxI (wrap64 ((v0.2.2.length : Int) - (2 : Int))) (0 : Int))) ∧ ((maxI (wrap64 ((v0.2.2.length : Int) - (2 : Int))) (0 : Int)) ≤ (v0.2.2.length : Int)) ∧ ((maxI (wrap64 ((v0.2.2.length : Int) - (2 : Int))) (0 : Int)) = (maxI (wrap64 ((v0.2.2.length : Int) - (2 : Int))) (0 : Int))) ∧ ((0 : Int) = 0) ∧ (((maxI (wrap64 ((v0.2.2.length : Int) - (2 : Int))) (0 : Int)).toNat + [(3 : Int)].length) * 8 ≤ lim) ∧ (∃ m_, m_ < m ∧ (L93 columns e) 0 m_ (⟨[(0, .data (Ty.sl TColumn) columns), (1, .data (Ty.sl TPart) e), (5, .own 16 none), (6, .data Ty.bool false), (7, .data (Ty.int .i64) (wrap64 (v0.2.1 + (1 : Int))))], [(16, .arr (Ty.int .i64) (v0.2.2.take (maxI (wrap64 ((v0.2.2.length : Int) - (2 : Int))) (0 : Int)).toNat ++ [(3 : Int)]))]⟩ : St) K))) (cond (decide ((nth (t := TPart) e v0.2.1).1 = (5 : Int))) (cond (decide ((nth (t := TPart) e v0.2.1).1 = (5 : Int))) (cond ((decide ((1 : Int) < (v0.2.2.length : Int))) == true) ((0 ≤ wrap64 ((v0.2.2.length : Int) - (1 : Int))) ∧ (wrap64 ((v0.2.2.length : Int) - (1 : Int)) < (v0.2.2.length : Int)) ∧ cond ((decide ((nth (t := (Ty.int .i64)) v0.2.2 (wrap64 ((v0.2.2.length : Int) - (1 : Int)))) = (3 : Int))) == true) ((0 ≤ wrap64 ((v0.2.2.length : Int) - (2 : Int))) ∧ (wrap64 ((v0.2.2.length : Int) - (2 : Int)) < (v0.2.2.length : Int)) ∧ (0 ≤ (0 : Int)) ∧ ((0 : Int) ≤ (maxI (wrap64 ((v0.2.2.length : Int) - (2 : Int))) (0 : Int))) ∧ ((maxI (wrap64 ((v0.2.2.length : Int) - (2 : Int))) (0 : Int)) ≤ (v0.2.2.length : Int)) ∧ ((maxI (wrap64 ((v0.2.2.length : Int) - (2 : Int))) (0 : Int)) = (maxI (wrap64 ((v0.2.2.length : Int) - (2 : Int))) (0 : Int))) ∧ ((0 : Int) = 0) ∧ (((maxI (wrap64 ((v0.2.2.length : Int) - (2 : Int))) (0 : Int)).toNat + [(3 : Int)].length) * 8 ≤ lim) ∧ (∃ m_, m_ < m ∧ (L93 columns e) 0 m_ (⟨[(0, .data (Ty.sl TColumn) columns), (1, .data (Ty.sl TPart) e), (5, .own 16 none), (6, .data Ty.bool (decide ((nth (t := (Ty.int .i64)) v0.2.2 (wrap64 ((v0.2.2.length : Int) - (2 : Int)))) = (3 : Int)))), (7, .data (Ty.int .i64) (wrap64 (v0.2.1 + (1 : Int))))], [(16, .arr (Ty.int .i64) (v0.2.2.take (maxI (wrap64 ((v0.2.2.length : Int) - (2 : Int))) (0 : Int)).toNat ++ [(3 : Int)]))]⟩ : St) K)) ((0 ≤ (0 : Int)) ∧ ((0 : Int) ≤ (maxI (wrap64 ((v0.2.2.length : Int) - (2 : Int))) (0 : Int))) ∧ ((maxI (wrap64 ((v0.2.2.length : Int) - (2 : Int))) (0 : Int)) ≤ (v0.2.2.length : Int)) ∧ ((maxI (wrap64 ((v0.2.2.length : Int) - (2 : Int))) (0 : Int)) = (maxI (wrap64 ((v0.2.2.length : Int) - (2 : Int))) (0 : Int))) ∧ ((0 : Int) = 0) ∧ (((maxI (wrap64 ((v0.2.2.length : Int) - (2 : Int))) (0 : Int)).toNat + [(3 : Int)].length) * 8 ≤ lim) ∧ (∃ m_, m_ < m ∧ (L93 columns e) 0 m_ (⟨[(0, .data (Ty.sl TColumn) columns), (1, .data (Ty.sl TPart) e), (5, .own 16 none), (6, .data Ty.bool false), (7, .data (Ty.int .i64) (wrap64 (v0.2.1 + (1 : Int))))], [(16, .arr (Ty.int .i64) (v0.2.2.take (maxI (wrap64 ((v0.2.2.length : Int) - (2 : Int))) (0 : Int)).toNat ++ [(3 : Int)]))]⟩ : St) K))) ((0 ≤ (0 : Int)) ∧ ((0 : Int) ≤ (maxI (wrap64 ((v0.2.2.length : Int) - (2 : Int))) (0 : Int))) ∧ ((maxI (wrap64 ((v0.2.2.length : Int) - (2 : Int))) (0 : Int)) ≤ (v0.2.2.length : Int)) ∧ ((maxI (wrap64 ((v0.2.2.length : Int) - (2 : Int))) (0 : Int)) = (maxI (wrap64 ((v0.2.2.length : Int) - (2 : Int))) (0 : Int))) ∧ ((0 : Int) = 0) ∧ (((maxI (wrap64 ((v0.2.2.length : Int) - (2 : Int))) (0 : Int)).toNat + [(3 : Int)].length) * 8 ≤ lim) ∧ (∃ m_, m_ < m ∧ (L93 columns e) 0 m_ (⟨[(0, .data (Ty.sl TColumn) columns), (1, .data (Ty.sl TPart) e), (5, .own 16 none), (6, .data Ty.bool false), (7, .data (Ty.int .i64) (wrap64 (v0.2.1 + (1 : Int))))], [(16, .arr (Ty.int .i64) (v0.2.2.take (maxI (wrap64 ((v0.2.2.length : Int) - (2 : Int))) (0 : Int)).toNat ++ [(3 : Int)]))]⟩ : St) K))) (cond (decide ((nth (t := TPart) e v0.2.1).1 = (7 : Int))) (cond ((decide ((0 : Int) < (v0.2.2.length : Int))) == true) ((0 ≤ wrap64 ((v0.2.2.length : Int) - (1 : Int))) ∧ (wrap64 ((v0.2.2.length : Int) - (1 : Int)) < (v0.2.2.length : Int)) ∧ (∃ m_, m_ < m ∧ (L93 columns e) 0 m_ (⟨[(0, .data (Ty.sl TColumn) columns), (1, .data (Ty.sl TPart) e), (5, .own 16 none), (6, .data Ty.bool (decide ((nth (t := (Ty.int .i64)) v0.2.2 (wrap64 ((v0.2.2.length : Int) - (1 : Int)))) = (3 : Int)))), (7, .data (Ty.int .i64) (wrap64 (v0.2.1 + (1 : Int))))], [(16, .arr (Ty.int .i64) v0.2.2)]⟩ : St) K)) ((∃ m_, m_ < m ∧ (L93 columns e) 0 m_ (⟨[(0, .data (Ty.sl TColumn) columns), (1, .data (Ty.sl TPart) e), (5, .own 16 none), (6, .data Ty.bool false), (7, .data (Ty.int .i64) (wrap64 (v0.2.1 + (1 : Int))))], [(16, .arr (Ty.int .i64) v0.2.2)]⟩ : St) K))) (cond (decide ((nth (t := TPart) e v0.2.1).1 = (8 : Int))) ((0 ≤ (0 : Int)) ∧ ((0 : Int) ≤ (maxI (wrap64 ((v0.2.2.length : Int) - (1 : Int))) (0 : Int))) ∧ ((maxI (wrap64 ((v0.2.2.length : Int) - (1 : Int))) (0 : Int)) ≤ (v0.2.2.length : Int)) ∧ ((maxI (wrap64 ((v0.2.2.length : Int) - (1 : Int))) (0 : Int)) = (maxI (wrap64 ((v0.2.2.length : Int) - (1 : Int))) (0 : Int))) ∧ ((0 : Int) = 0) ∧ (((maxI (wrap64 ((v0.2.2.length : Int) - (1 : Int))) (0 : Int)).toNat + [(3 : Int)].length) * 8 ≤ lim) ∧ (∃ m_, m_ < m ∧ (L93 columns e) 0 m_ (⟨[(0, .data (Ty.sl TColumn) columns), (1, .data (Ty.sl TPart) e), (5, .own 16 none), (6, .data Ty.bool (decide ((0 : Int) < (v0.2.2.length : Int)))), (7, .data (Ty.int .i64) (wrap64 (v0.2.1 + (1 : Int))))], [(16, .arr (Ty.int .i64) (v0.2.2.take (maxI (wrap64 ((v0.2.2.length : Int) - (1 : Int))) (0 : Int)).toNat ++ [(3 : Int)]))]⟩ : St) K)) ((∃ m_, m_ < m ∧ (L93 columns e) 0 m_ (⟨[(0, .data (Ty.sl TColumn) columns), (1, .data (Ty.sl TPart) e), (5, .own 16 none), (6, .data Ty.bool false), (7, .data (Ty.int .i64) (wrap64 (v0.2.1 + (1 : Int))))], [(16, .arr (Ty.int .i64) v0.2.2)]⟩ : St) K))))) (cond (decide ((nth (t := TPart) e v0.2.1).1 = (6 : Int))) (cond ((decide ((1 : Int) < (v0.2.2.length : Int))) == true) ((0 ≤ wrap64 ((v0.2.2.length : Int) - (1 : Int))) ∧ (wrap64 ((v0.2.2.length : Int) - (1 : Int)) < (v0.2.2.length : Int)) ∧ cond ((decide ((nth (t := (Ty.int .i64)) v0.2.2 (wrap64 ((v0.2.2.length : Int) - (1 : Int)))) = (3 : Int))) == true) ((0 ≤ wrap64 ((v0.2.2.length : Int) - (2 : Int))) ∧ (wrap64 ((v0.2.2.length : Int) - (2 : Int)) < (v0.2.2.length : Int)) ∧ (0 ≤ (0 : Int)) ∧ ((0 : Int) ≤ (maxI (wrap64 ((v0.2.2.length : Int) - (2 : Int))) (0 : Int))) ∧ ((maxI (wrap64 ((v0.2.2.length : Int) - (2 : Int))) (0 : Int)) ≤ (v0.2.2.length : Int)) ∧ ((maxI (wrap64 ((v0.2.2.length : Int) - (2 : Int))) (0 : Int)) = (maxI (wrap64 ((v0.2.2.length : Int) - (2 : Int))) (0 : Int))) ∧ ((0 : Int) = 0) ∧ (((maxI (wrap64 ((v0.2.2.length : Int) - (2 : Int))) (0 : Int)).toNat + [(3 : Int)].length) * 8 ≤ lim) ∧ (∃ m_, m_ < m ∧ (L93 columns e) 0 m_ (⟨[(0, .data (Ty.sl TColumn) columns), (1, .data (Ty.sl TPart) e), (5, .own 16 none), (6, .data Ty.bool (decide ((nth (t := (Ty.int .i64)) v0.2.2 (wrap64 ((v0.2.2.length : Int) - (2 : Int)))) = (3 : Int)))), (7, .data (Ty.int .i64) (wrap64 (v0.2.1 + (1 : Int))))], [(16, .arr (Ty.int .i64) (v0.2.2.take (maxI (wrap64 ((v0.2.2.length : Int) - (2 : Int))) (0 : Int)).toNat ++ [(3 : Int)]))]⟩ : St) K)) ((0 ≤ (0 : Int)) ∧ ((0 : Int) ≤ (maxI (wrap64 ((v0.2.2.length : Int) - (2 : Int))) (0 : Int))) ∧ ((maxI (wrap64 ((v0.2.2.length : Int) - (2 : Int))) (0 : Int)) ≤ (v0.2.2.length : Int)) ∧ ((maxI (wrap64 ((v0.2.2.length : Int) - (2 : Int))) (0 : Int)) = (maxI (wrap64 ((v0.2.2.length : Int) - (2 : Int))) (0 : Int))) ∧ ((0 : Int) = 0) ∧ (((maxI (wrap64 ((v0.2.2.length : Int) - (2 : Int))) (0 : Int)).toNat + [(3 : Int)].length) * 8 ≤ lim) ∧ (∃ m_, m_ < m ∧ (L93 columns e) 0 m_ (⟨[(0, .data (Ty.sl TColumn) columns), (1, .data (Ty.sl TPart) e), (5, .own 16 none), (6, .data Ty.bool false), (7, .data (Ty.int .i64) (wrap64 (v0.2.1 + (1 : Int))))], [(16, .arr (Ty.int .i64) (v0.2.2.take (maxI (wrap64 ((v0.2.2.length : Int) - (2 : Int))) (0 : Int)).toNat ++ [(3 : Int)]))]⟩ : St) K))) ((0 ≤ (0 : Int)) ∧ ((0 : Int) ≤ (maxI (wrap64 ((v0.2.2.length : Int) - (2 : Int))) (0 : Int))) ∧ ((maxI (wrap64 ((v0.2.2.length : Int) - (2 : Int))) (0 : Int)) ≤ (v0.2.2.length : Int)) ∧ ((maxI (wrap64 ((v0.2.2.length : Int) - (2 : Int))) (0 : Int)) = (maxI (wrap64 ((v0.2.2.length : Int) - (2 : Int))) (0 : Int))) ∧ ((0 : Int) = 0) ∧ (((maxI (wrap64 ((v0.2.2.length : Int) - (2 : Int))) (0 : Int)).toNat + [(3 : Int)].length) * 8 ≤ lim) ∧ (∃ m_, m_ < m ∧ (L93 columns e) 0 m_ (⟨[(0, .data (Ty.sl TColumn) columns), (1, .data (Ty.sl TPart) e), (5, .own 16 none), (6, .data Ty.bool false), (7, .data (Ty.int .i64) (wrap64 (v0.2.1 + (1 : Int))))], [(16, .arr (Ty.int .i64) (v0.2.2.take (maxI (wrap64 ((v0.2.2.length : Int) - (2 : Int))) (0 : Int)).toNat ++ [(3 : Int)]))]⟩ : St) K))) (cond (decide ((nth (t := TPart) e v0.2.1).1 = (7 : Int))) (cond ((decide ((0 : Int) < (v0.2.2.length : Int))) == true) ((0 ≤ wrap64 ((v0.2.2.length : Int) - (1 : Int))) ∧ (wrap64 ((v0.2.2.length : Int) - (1 : Int)) < (v0.2.2.length : Int)) ∧ (∃ m_, m_ < m ∧ (L93 columns e) 0 m_ (⟨[(0, .data (Ty.sl TColumn) columns), (1, .data (Ty.sl TPart) e), (5, .own 16 none), (6, .data Ty.bool (decide ((nth (t := (Ty.int .i64)) v0.2.2 (wrap64 ((v0.2.2.length : Int) - (1 : Int)))) = (3 : Int)))), (7, .data (Ty.int .i64) (wrap64 (v0.2.1 + (1 : Int))))], [(16, .arr (Ty.int .i64) v0.2.2)]⟩ : St) K)) ((∃ m_, m_ < m ∧ (L93 columns e) 0 m_ (⟨[(0, .data (Ty.sl TColumn) columns), (1, .data (Ty.sl TPart) e), (5, .own 16 none), (6, .data Ty.bool false), (7, .data (Ty.int .i64) (wrap64 (v0.2.1 + (1 : Int))))], [(16, .arr (Ty.int .i64) v0.2.2)]⟩ : St) K))) (cond (decide ((nth (t := TPart) e v0.2.1).1 = (8 : Int))) ((0 ≤ (0 : Int)) ∧ ((0 : Int) ≤ (maxI (wrap64 ((v0.2.2.length : Int) - (1 : Int))) (0 : Int))) ∧ ((maxI (wrap64 ((v0.2.2.length : Int) - (1 : Int))) (0 : Int)) ≤ (v0.2.2.length : Int)) ∧ ((maxI (wrap64 ((v0.2.2.length : Int) - (1 : Int))) (0 : Int)) = (maxI (wrap64 ((v0.2.2.length : Int) - (1 : Int))) (0 : Int))) ∧ ((0 : Int) = 0) ∧ (((maxI (wrap64 ((v0.2.2.length : Int) - (1 : Int))) (0 : Int)).toNat + [(3 : Int)].length) * 8 ≤ lim) ∧ (∃ m_, m_ < m ∧ (L93 columns e) 0 m_ (⟨[(0, .data (Ty.sl TColumn) columns), (1, .data (Ty.sl TPart) e), (5, .own 16 none), (6, .data Ty.bool (decide ((0 : Int) < (v0.2.2.length : Int)))), (7, .data (Ty.int .i64) (wrap64 (v0.2.1 + (1 : Int))))], [(16, .arr (Ty.int .i64) (v0.2.2.take (maxI (wrap64 ((v0.2.2.length : Int) - (1 : Int))) (0 : Int)).toNat ++ [(3 : Int)]))]⟩ : St) K)) ((∃ m_, m_ < m ∧ (L93 columns e) 0 m_ (⟨[(0, .data (Ty.sl TColumn) columns), (1, .data (Ty.sl TPart) e), (5, .own 16 none), (6, .data Ty.bool false), (7, .data (Ty.int .i64) (wrap64 (v0.2.1 + (1 : Int))))], [(16, .arr (Ty.int .i64) v0.2.2)]⟩ : St) K))))))))))) (cond (decide ((nth (t := TPart) e v0.2.1).1 = (1 : Int))) ((Sm TValue ((((nth (t := TPart) e v0.2.1).2).2).1)) ∧ cond ((!(M.valueOk ((((nth (t := TPart) e v0.2.1).2).2).1))) == false) (cond (decide (((((nth (t := TPart) e v0.2.1).2).2).1).1 = (0 : Int))) ((∃ m_, m_ < m ∧ (L93 columns e) 0 m_ (⟨[(0, .data (Ty.sl TColumn) columns), (1, .data (Ty.sl TPart) e), (5, .own 16 none), (6, .data Ty.bool false), (7, .data (Ty.int .i64) (wrap64 (v0.2.1 + (1 : Int))))], [(16, .arr (Ty.int .i64) v0.2.2)]⟩ : St) K)) (((v0.2.2.length + [((((nth (t := TPart) e v0.2.1).2).2).1).1].length) * 8 ≤ lim) ∧ (∃ m_, m_ < m ∧ (L93 columns e) 0 m_ (⟨[(0, .data (Ty.sl TColumn) columns), (1, .data (Ty.sl TPart) e), (5, .own 16 none), (6, .data Ty.bool true), (7, .data (Ty.int .i64) (wrap64 (v0.2.1 + (1 : Int))))], [(16, .arr (Ty.int .i64) (v0.2.2 ++ [((((nth (t := TPart) e v0.2.1).2).2).1).1]))]⟩ : St) K))) ((∃ m_, m_ < m ∧ (L93 columns e) 0 m_ (⟨[(0, .data (Ty.sl TColumn) columns), (1, .data (Ty.sl TPart) e), (5, .own 16 none), (6, .data Ty.bool false), (7, .data (Ty.int .i64) (wrap64 (v0.2.1 + (1 : Int))))], [(16, .arr (Ty.int .i64) v0.2.2)]⟩ : St) K))) (cond (decide ((nth (t := TPart) e v0.2.1).1 = (2 : Int))) (cond (!(M.inR (((nth (t := TPart) e v0.2.1).2).1) (0 : Int) (wrap64 ((columns.length : Int) - (1 : Int))))) ((∃ m_, m_ < m ∧ (L93 columns e) 0 m_ (⟨[(0, .data (Ty.sl TColumn) columns), (1, .data (Ty.sl TPart) e), (5, .own 16 none), (6, .data Ty.bool false), (7, .data (Ty.int .i64) (wrap64 (v0.2.1 + (1 : Int))))], [(16, .arr (Ty.int .i64) v0.2.2)]⟩ : St) K)) ((0 ≤ ((nth (t := TPart) e v0.2.1).2).1) ∧ (((nth (t := TPart) e v0.2.1).2).1 < (columns.length : Int)) ∧ ((v0.2.2.length + [(nth (t := TColumn) columns (((nth (t := TPart) e v0.2.1).2).1)).1].length) * 8 ≤ lim) ∧ (∃ m_, m_ < m ∧ (L93 columns e) 0 m_ (⟨[(0, .data (Ty.sl TColumn) columns), (1, .data (Ty.sl TPart) e), (5, .own 16 none), (6, .data Ty.bool true), (7, .data (Ty.int .i64) (wrap64 (v0.2.1 + (1 : Int))))], [(16, .arr (Ty.int .i64) (v0.2.2 ++ [(nth (t := TColumn) columns (((nth (t := TPart) e v0.2.1).2).1)).1]))]⟩ : St) K))) (cond (decide ((nth (t := TPart) e v0.2.1).1 = (3 : Int))) (cond ((decide ((1 : Int) < (v0.2.2.length : Int))) == true) ((0 ≤ wrap64 ((v0.2.2.length : Int) - (1 : Int))) ∧ (wrap64 ((v0.2.2.length : Int) - (1 : Int)) < (v0.2.2.length : Int)) ∧ cond ((decide ((nth (t := (Ty.int .i64)) v0.2.2 (wrap64 ((v0.2.2.length : Int) - (1 : Int)))) = (1 : Int))) == true) ((0 ≤ wrap64 ((v0.2.2.length : Int) - (2 : Int))) ∧ (wrap64 ((v0.2.2.length : Int) - (2 : Int)) < (v0.2.2.length : Int)) ∧ (0 ≤ (0 : Int)) ∧ ((0 : Int) ≤ (maxI (wrap64 ((v0.2.2.length : Int) - (2 : Int))) (0 : Int))) ∧ ((maxI (wrap64 ((v0.2.2.length : Int) - (2 : Int))) (0 : Int)) ≤ (v0.2.2.length : Int)) ∧ ((maxI (wrap64 ((v0.2.2.length : Int) - (2 : Int))) (0 : Int)) = (maxI (wrap64 ((v0.2.2.length : Int) - (2 : Int))) (0 : Int))) ∧ ((0 : Int) = 0) ∧ (((maxI (wrap64 ((v0.2.2.length : Int) - (2 : Int))) (0 : Int)).toNat + [(1 : Int)].length) * 8 ≤ lim) ∧ (∃ m_, m_ < m ∧ (L93 columns e) 0 m_ (⟨[(0, .data (Ty.sl TColumn) columns), (1, .data (Ty.sl TPart) e), (5, .own 16 none), (6, .data Ty.bool (decide ((nth (t := (Ty.int .i64)) v0.2.2 (wrap64 ((v0.2.2.length : Int) - (2 : Int)))) = (1 : Int)))), (7, .data (Ty.int .i64) (wrap64 (v0.2.1 + (1 : Int))))], [(16, .arr (Ty.int .i64) (v0.2.2.take (maxI (wrap64 ((v0.2.2.length : Int) - (2 : Int))) (0 : Int)).toNat ++ [(1 : Int)]))]⟩ : St) K)) ((0 ≤ (0 : Int)) ∧ ((0 : Int) ≤ (maxI (wrap64 ((v0.2.2.length : Int) - (2 : Int))) (0 : Int))) ∧ ((maxI (wrap64 ((v0.2.2.length : Int) - (2 : Int))) (0 : Int)) ≤ (v0.2.2.length : Int)) ∧ ((maxI (wrap64 ((v0.2.2.length : Int) - (2 : Int))) (0 : Int)) = (maxI (wrap64 ((v0.2.2.length : Int) - (2 : Int))) (0 : Int))) ∧ ((0 : Int) = 0) ∧ (((maxI (wrap64 ((v0.2.2.length : Int) - (2 : Int))) (0 : Int)).toNat + [(1 : Int)].length) * 8 ≤ lim) ∧ (∃ m_, m_ < m ∧ (L93 columns e) 0 m_ (⟨[(0, .data (Ty.sl TColumn) columns), (1, .data (Ty.sl TPart) e), (5, .own 16 none), (6, .data Ty.bool false), (7, .data (Ty.int .i64) (wrap64 (v0.2.1 + (1 : Int))))], [(16, .arr (Ty.int .i64) (v0.2.2.take (maxI (wrap64 ((v0.2.2.length : Int) - (2 : Int))) (0 : Int)).toNat ++ [(1 : Int)]))]⟩ : St) K))) ((0 ≤ (0 : Int)) ∧ ((0 : Int) ≤ (maxI (wrap64 ((v0.2.2.length : Int) - (2 : Int))) (0 : Int))) ∧ ((maxI (wrap64 ((v0.2.2.length : Int) - (2 : Int))) (0 : Int)) ≤ (v0.2.2.length : Int)) ∧ ((maxI (wrap64 ((v0.2.2.length : Int) - (2 : Int))) (0 : Int)) = (maxI (wrap64 ((v0.2.2.length : Int) - (2 : Int))) (0 : Int))) ∧ ((0 : Int) = 0) ∧ (((maxI (wrap64 ((v0.2.2.length : Int) - (2 : Int))) (0 : Int)).toNat + [(1 : Int)].length) * 8 ≤ lim) ∧ (∃ m_, m_ < m ∧ (L93 columns e) 0 m_ (⟨[(0, .data (Ty.sl TColumn) columns), (1, .data (Ty.sl TPart) e), (5, .own 16 none), (6, .data Ty.bool false), (7, .data (Ty.int .i64) (wrap64 (v0.2.1 + (1 : Int))))], [(16, .arr (Ty.int .i64) (v0.2.2.take (maxI (wrap64 ((v0.2.2.length : Int) - (2 : Int))) (0 : Int)).toNat ++ [(1 : Int)]))]⟩ : St) K))) (cond (decide ((nth (t := TPart) e v0.2.1).1 = (4 : Int))) (cond ((decide ((1 : Int) < (v0.2.2.length : Int))) == true) ((0 ≤ wrap64 ((v0.2.2.length : Int) - (1 : Int))) ∧ (wrap64 ((v0.2.2.length : Int) - (1 : Int)) < (v0.2.2.length : Int)) ∧ (0 ≤ wrap64 ((v0.2.2.length : Int) - (2 : Int))) ∧ (wrap64 ((v0.2.2.length : Int) - (2 : Int)) < (v0.2.2.length : Int)) ∧ cond ((decide ((nth (t := (Ty.int .i64)) v0.2.2 (wrap64 ((v0.2.2.length : Int) - (1 : Int)))) = (nth (t := (Ty.int .i64)) v0.2.2 (wrap64 ((v0.2.2.length : Int) - (2 : Int)))))) == true) ((0 ≤ (0 : Int)) ∧ ((0 : Int) ≤ (maxI (wrap64 ((v0.2.2.length : Int) - (2 : Int))) (0 : Int))) ∧ ((maxI (wrap64 ((v0.2.2.length : Int) - (2 : Int))) (0 : Int)) ≤ (v0.2.2.length : Int)) ∧ ((maxI (wrap64 ((v0.2.2.length : Int) - (2 : Int))) (0 : Int)) = (maxI (wrap64 ((v0.2.2.length : Int) - (2 : Int))) (0 : Int))) ∧ ((0 : Int) = 0) ∧ (((maxI (wrap64 ((v0.2.2.length : Int) - (2 : Int))) (0 : Int)).toNat + [(3 : Int)].length) * 8 ≤ lim) ∧ (∃ m_, m_ < m ∧ (L93 columns e) 0 m_ (⟨[(0, .data (Ty.sl TColumn) columns), (1, .data (Ty.sl TPart) e), (5, .own 16 none), (6, .data Ty.bool (M.inR (((nth (t := TPart) e v0.2.1).2).1) (1 : Int) (4 : Int))), (7, .data (Ty.int .i64) (wrap64 (v0.2.1 + (1 : Int))))], [(16, .arr (Ty.int .i64) (v0.2.2.take (maxI (wrap64 ((v0.2.2.length : Int) - (2 : Int))) (0 : Int)).toNat ++ [(3 : Int)]))]⟩ : St) K)) ((0 ≤ (0 : Int)) ∧ ((0 : Int) ≤ (maxI (wrap64 ((v0.2.2.length : Int) - (2 : Int))) (0 : Int))) ∧ ((maxI (wrap64 ((v0.2.2.length : Int) - (2 : Int))) (0 : Int)) ≤ (v0.2.2.length : Int)) ∧ ((maxI (wrap64 ((v0.2.2.length : Int) - (2 : Int))) (0 : Int)) = (maxI (wrap64 ((v0.2.2.length : Int) - (2 : Int))) (0 : Int))) ∧ ((0 : Int) = 0) ∧ (((maxI (wrap64 ((v0.2.2.length : Int) - (2 : Int))) (0 : Int)).toNat + [(3 : Int)].length) * 8 ≤ lim) ∧ (∃ m_, m_ < m ∧ (L93 columns e) 0 m_ (⟨[(0, .data (Ty.sl TColumn) columns), (1, .data (Ty.sl TPart) e), (5, .own 16 none), (6, .data Ty.bool false), (7, .data (Ty.int .i64) (wrap64 (v0.2.1 + (1 : Int))))], [(16, .arr (Ty.int .i64) (v0.2.2.take (maxI (wrap64 ((v0.2.2.length : Int) - (2 : Int))) (0 : Int)).toNat ++ [(3 : Int)]))]⟩ : St) K))) ((0 ≤ (0 : Int)) ∧ ((0 : Int) ≤ (maxI (wrap64 ((v0.2.2.length : Int) - (2 : Int))) (0 : Int))) ∧ ((maxI (wrap64 ((v0.2.2.length : Int) - (2 : Int))) (0 : Int)) ≤ (v0.2.2.length : Int)) ∧ ((maxI (wrap64 ((v0.2.2.length : Int) - (2 : Int))) (0 : Int)) = (maxI (wrap64 ((v0.2.2.length : Int) - (2 : Int))) (0 : Int))) ∧ ((0 : Int) = 0) ∧ (((maxI (wrap64 ((v0.2.2.length : Int) - (2 : Int))) (0 : Int)).toNat + [(3 : Int)].length) * 8 ≤ lim) ∧ (∃ m_, m_ < m ∧ (L93 columns e) 0 m_ (⟨[(0, .data (Ty.sl TColumn) columns), (1, .data (Ty.sl TPart) e), (5, .own 16 none), (6, .data Ty.bool false), (7, .data (Ty.int .i64) (wrap64 (v0.2.1 + (1 : Int))))], [(16, .arr (Ty.int .i64) (v0.2.2.take (maxI (wrap64 ((v0.2.2.length : Int) - (2 : Int))) (0 : Int)).toNat ++ [(3 : Int)]))]⟩ : St) K))) (cond (decide ((nth (t := TPart) e v0.2.1).1 = (5 : Int))) (cond (decide ((nth (t := TPart) e v0.2.1).1 = (5 : Int))) (cond ((decide ((1 : Int) < (v0.2.2.length : Int))) == true) ((0 ≤ wrap64 ((v0.2.2.length : Int) - (1 : Int))) ∧ (wrap64 ((v0.2.2.length : Int) - (1 : Int)) < (v0.2.2.length : Int)) ∧ cond ((decide ((nth (t := (Ty.int .i64)) v0.2.2 (wrap64 ((v0.2.2.length : Int) - (1 : Int)))) = (3 : Int))) == true) ((0 ≤ wrap64 ((v0.2.2.length : Int) - (2 : Int))) ∧ (wrap64 ((v0.2.2.length : Int) - (2 : Int)) < (v0.2.2.length : Int)) ∧ (0 ≤ (0 : Int)) ∧ ((0 : Int) ≤ (maxI (wrap64 ((v0.2.2.length : Int) - (2 : Int))) (0 : Int))) ∧ ((maxI (wrap64 ((v0.2.2.length : Int) - (2 : Int))) (0 : Int)) ≤ (v0.2.2.length : Int)) ∧ ((maxI (wrap64 ((v0.2.2.length : Int) - (2 : Int))) (0 : Int)) = (maxI (wrap64 ((v0.2.2.length : Int) - (2 : Int))) (0 : Int))) ∧ ((0 : Int) = 0) ∧ (((maxI (wrap64 ((v0.2.2.length : Int) - (2 : Int))) (0 : Int)).toNat + [(3 : Int)].length) * 8 ≤ lim) ∧ (∃ m_, m_ < m ∧ (L93 columns e) 0 m_ (⟨[(0, .data (Ty.sl TColumn) columns), (1, .data (Ty.sl TPart) e), (5, .own 16 none), (6, .data Ty.bool (decide ((nth (t := (Ty.int .i64)) v0.2.2 (wrap64 ((v0.2.2.length : Int) - (2 : Int)))) = (3 : Int)))), (7, .data (Ty.int .i64) (wrap64 (v0.2.1 + (1 : Int))))], [(16, .arr (Ty.int .i64) (v0.2.2.take (maxI (wrap64 ((v0.2.2.length : Int) - (2 : Int))) (0 : Int)).toNat ++ [(3 : Int)]))]⟩ : St) K)) ((0 ≤ (0 : Int)) ∧ ((0 : Int) ≤ (maxI (wrap64 ((v0.2.2.length : Int) - (2 : Int))) (0 : Int))) ∧ ((maxI (wrap64 ((v0.2.2.length : Int) - (2 : Int))) (0 : Int)) ≤ (v0.2.2.length : Int)) ∧ ((maxI (wrap64 ((v0.2.2.length : Int) - (2 : Int))) (0 : Int)) = (maxI (wrap64 ((v0.2.2.length : Int) - (2 : Int))) (0 : Int))) ∧ ((0 : Int) = 0) ∧ (((maxI (wrap64 ((v0.2.2.length : Int) - (2 : Int))) (0 : Int)).toNat + [(3 : Int)].length) * 8 ≤ lim) ∧ (∃ m_, m_ < m ∧ (L93 columns e) 0 m_ (⟨[(0, .data (Ty.sl TColumn) columns), (1, .data (Ty.sl TPart) e), (5, .own 16 none), (6, .data Ty.bool false), (7, .data (Ty.int .i64) (wrap64 (v0.2.1 + (1 : Int))))], [(16, .arr (Ty.int .i64) (v0.2.2.take (maxI (wrap64 ((v0.2.2.length : Int) - (2 : Int))) (0 : Int)).toNat ++ [(3 : Int)]))]⟩ : St) K))) ((0 ≤ (0 : Int)) ∧ ((0 : Int) ≤ (maxI (wrap64 ((v0.2.2.length : Int) - (2 : Int))) (0 : Int))) ∧ ((maxI (wrap64 ((v0.2.2.length : Int) - (2 : Int))) (0 : Int)) ≤ (v0.2.2.length : Int)) ∧ ((maxI (wrap64 ((v0.2.2.length : Int) - (2 : Int))) (0 : Int)) = (maxI (wrap64 ((v0.2.2.length : Int) - (2 : Int))) (0 : Int))) ∧ ((0 : Int) = 0) ∧ (((maxI (wrap64 ((v0.2.2.length : Int) - (2 : Int))) (0 : Int)).toNat + [(3 : Int)].length) * 8 ≤ lim) ∧ (∃ m_, m_ < m ∧ (L93 columns e) 0 m_ (⟨[(0, .data (Ty.sl TColumn) columns), (1, .data (Ty.sl TPart) e), (5, .own 16 none), (6, .data Ty.bool false), (7, .data (Ty.int .i64) (wrap64 (v0.2.1 + (1 : Int))))], [(16, .arr (Ty.int .i64) (v0.2.2.take (maxI (wrap64 ((v0.2.2.length : Int) - (2 : Int))) (0 : Int)).toNat ++ [(3 : Int)]))]⟩ : St) K))) (cond (decide ((nth (t := TPart) e v0.2.1).1 = (7 : Int))) (cond ((decide ((0 : Int) < (v0.2.2.length : Int))) == true) ((0 ≤ wrap64 ((v0.2.2.length : Int) - (1 : Int))) ∧ (wrap64 ((v0.2.2.length : Int) - (1 : Int)) < (v0.2.2.length : Int)) ∧ (∃ m_, m_ < m ∧ (L93 columns e) 0 m_ (⟨[(0, .data (Ty.sl TColumn) columns), (1, .data (Ty.sl TPart) e), (5, .own 16 none), (6, .data Ty.bool (decide ((nth (t := (Ty.int .i64)) v0.2.2 (wrap64 ((v0.2.2.length : Int) - (1 : Int)))) = (3 : Int)))), (7, .data (Ty.int .i64) (wrap64 (v0.2.1 + (1 : Int))))], [(16, .arr (Ty.int .i64) v0.2.2)]⟩ : St) K)) ((∃ m_, m_ < m ∧ (L93 columns e) 0 m_ (⟨[(0, .data (Ty.sl TColumn) columns), (1, .data (Ty.sl TPart) e), (5, .own 16 none), (6, .data Ty.bool false), (7, .data (Ty.int .i64) (wrap64 (v0.2.1 + (1 : Int))))], [(16, .arr (Ty.int .i64) v0.2.2)]⟩ : St) K))) (cond (decide ((nth (t := TPart) e v0.2.1).1 = (8 : Int))) ((0 ≤ (0 : Int)) ∧ ((0 : Int) ≤ (maxI (wrap64 ((v0.2.2.length : Int) - (1 : Int))) (0 : Int))) ∧ ((maxI (wrap64 ((v0.2.2.length : Int) - (1 : Int))) (0 : Int)) ≤ (v0.2.2.length : Int)) ∧ ((maxI (wrap64 ((v0.2.2.length : Int) - (1 : Int))) (0 : Int)) = (maxI (wrap64 ((v0.2.2.length : Int) - (1 : Int))) (0 : Int))) ∧ ((0 : Int) = 0) ∧ (((maxI (wrap64 ((v0.2.2.length : Int) - (1 : Int))) (0 : Int)).toNat + [(3 : Int)].length) * 8 ≤ lim) ∧ (∃ m_, m_ < m ∧ (L93 columns e) 0 m_ (⟨[(0, .data (Ty.sl TColumn) columns), (1, .data (Ty.sl TPart) e), (5, .own 16 none), (6, .data Ty.bool (decide ((0 : Int) < (v0.2.2.length : Int)))), (7, .data (Ty.int .i64) (wrap64 (v0.2.1 + (1 : Int))))], [(16, .arr (Ty.int .i64) (v0.2.2.take (maxI (wrap64 ((v0.2.2.length : Int) - (1 : Int))) (0 : Int)).toNat ++ [(3 : Int)]))]⟩ : St) K)) ((∃ m_, m_ < m ∧ (L93 columns e) 0 m_ (⟨[(0, .data (Ty.sl TColumn) columns), (1, .data (Ty.sl TPart) e), (5, .own 16 none), (6, .data Ty.bool false), (7, .data (Ty.int .i64) (wrap64 (v0.2.1 + (1 : Int))))], [(16, .arr (Ty.int .i64) v0.2.2)]⟩ : St) K))))) (cond (decide ((nth (t := TPart) e v0.2.1).1 = (6 : Int))) (cond ((decide ((1 : Int) < (v0.2.2.length : Int))) == true) ((0 ≤ wrap64 ((v0.2.2.length : Int) - (1 : Int))) ∧ (wrap64 ((v0.2.2.length : Int) - (1 : Int)) < (v0.2.2.length : Int)) ∧ cond ((decide ((nth (t := (Ty.int .i64)) v0.2.2 (wrap64 ((v0.2.2.length : Int) - (1 : Int)))) = (3 : Int))) == true) ((0 ≤ wrap64 ((v0.2.2.length : Int) - (2 : Int))) ∧ (wrap64 ((v0.2.2.length : Int) - (2 : Int)) < (v0.2.2.length : Int)) ∧ (0 ≤ (0 : Int)) ∧ ((0 : Int) ≤ (maxI (wrap64 ((v0.2.2.length : Int) - (2 : Int))) (0 : Int))) ∧ ((maxI (wrap64 ((v0.2.2.length : Int) - (2 : Int))) (0 : Int)) ≤ (v0.2.2.length : Int)) ∧ ((maxI (wrap64 ((v0.2.2.length : Int) - (2 : Int))) (0 : Int)) = (maxI (wrap64 ((v0.2.2.length : Int) - (2 : Int))) (0 : Int))) ∧ ((0 : Int) = 0) ∧ (((maxI (wrap64 ((v0.2.2.length : Int) - (2 : Int))) (0 : Int)).toNat + [(3 : Int)].length) * 8 ≤ lim) ∧ (∃ m_, m_ < m ∧ (L93 columns e) 0 m_ (⟨[(0, .data (Ty.sl TColumn) columns), (1, .data (Ty.sl TPart) e), (5, .own 16 none), (6, .data Ty.bool (decide ((nth (t := (Ty.int .i64)) v0.2.2 (wrap64 ((v0.2.2.length : Int) - (2 : Int)))) = (3 : Int)))), (7, .data (Ty.int .i64) (wrap64 (v0.2.1 + (1 : Int))))], [(16, .arr (Ty.int .i64) (v0.2.2.take (maxI (wrap64 ((v0.2.2.length : Int) - (2 : Int))) (0 : Int)).toNat ++ [(3 : Int)]))]⟩ : St) K)) ((0 ≤ (0 : Int)) ∧ ((0 : Int) ≤ (maxI (wrap64 ((v0.2.2.length : Int) - (2 : Int))) (0 : Int))) ∧ ((maxI (wrap64 ((v0.2.2.length : Int) - (2 : Int))) (0 : Int)) ≤ (v0.2.2.length : Int)) ∧ ((maxI (wrap64 ((v0.2.2.length : Int) - (2 : Int))) (0 : Int)) = (maxI (wrap64 ((v0.2.2.length : Int) - (2 : Int))) (0 : Int))) ∧ ((0 : Int) = 0) ∧ (((maxI (wrap64 ((v0.2.2.length : Int) - (2 : Int))) (0 : Int)).toNat + [(3 : Int)].length) * 8 ≤ lim) ∧ (∃ m_, m_ < m ∧ (L93 columns e) 0 m_ (⟨[(0, .data (Ty.sl TColumn) columns), (1, .data (Ty.sl TPart) e), (5, .own 16 none), (6, .data Ty.bool false), (7, .data (Ty.int .i64) (wrap64 (v0.2.1 + (1 : Int))))], [(16, .arr (Ty.int .i64) (v0.2.2.take (maxI (wrap64 ((v0.2.2.length : Int) - (2 : Int))) (0 : Int)).toNat ++ [(3 : Int)]))]⟩ : St) K))) ((0 ≤ (0 : Int)) ∧ ((0 : Int) ≤ (maxI (wrap64 ((v0.2.2.length : Int) - (2 : Int))) (0 : Int))) ∧ ((maxI (wrap64 ((v0.2.2.length : Int) - (2 : Int))) (0 : Int)) ≤ (v0.2.2.length : Int)) ∧ ((maxI (wrap64 ((v0.2.2.length : Int) - (2 : Int))) (0 : Int)) = (maxI (wrap64 ((v0.2.2.length : Int) - (2 : Int))) (0 : Int))) ∧ ((0 : Int) = 0) ∧ (((maxI (wrap64 ((v0.2.2.length : Int) - (2 : Int))) (0 : Int)).toNat + [(3 : Int)].length) * 8 ≤ lim) ∧ (∃ m_, m_ < m ∧ (L93 columns e) 0 m_ (⟨[(0, .data (Ty.sl TColumn) columns), (1, .data (Ty.sl TPart) e), (5, .own 16 none), (6, .data Ty.bool false), (7, .data (Ty.int .i64) (wrap64 (v0.2.1 + (1 : Int))))], [(16, .arr (Ty.int .i64) (v0.2.2.take (maxI (wrap64 ((v0.2.2.length : Int) - (2 : Int))) (0 : Int)).toNat ++ [(3 : Int)]))]⟩ : St) K))) (cond (decide ((nth (t := TPart) e v0.2.1).1 = (7 : Int))) (cond ((decide ((0 : Int) < (v0.2.2.length : Int))) == true) ((0 ≤ wrap64 ((v0.2.2.length : Int) - (1 : Int))) ∧ (wrap64 ((v0.2.2.length : Int) - (1 : Int)) < (v0.2.2.length : Int)) ∧ (∃ m_, m_ < m ∧ (L93 columns e) 0 m_ (⟨[(0, .data (Ty.sl TColumn) columns), (1, .data (Ty.sl TPart) e), (5, .own 16 none), (6, .data Ty.bool (decide ((nth (t := (Ty.int .i64)) v0.2.2 (wrap64 ((v0.2.2.length : Int) - (1 : Int)))) = (3 : Int)))), (7, .data (Ty.int .i64) (wrap64 (v0.2.1 + (1 : Int))))], [(16, .arr (Ty.int .i64) v0.2.2)]⟩ : St) K)) ((∃ m_, m_ < m ∧ (L93 columns e) 0 m_ (⟨[(0, .data (Ty.sl TColumn) columns), (1, .data (Ty.sl TPart) e), (5, .own 16 none), (6, .data Ty.bool false), (7, .data (Ty.int .i64) (wrap64 (v0.2.1 + (1 : Int))))], [(16, .arr (Ty.int .i64) v0.2.2)]⟩ : St) K))) (cond (decide ((nth (t := TPart) e v0.2.1).1 = (8 : Int))) ((0 ≤ (0 : Int)) ∧ ((0 : Int) ≤ (maxI (wrap64 ((v0.2.2.length : Int) - (1 : Int))) (0 : Int))) ∧ ((maxI (wrap64 ((v0.2.2.length : Int) - (1 : Int))) (0 : Int)) ≤ (v0.2.2.length : Int)) ∧ ((maxI (wrap64 ((v0.2.2.length : Int) - (1 : Int))) (0 : Int)) = (maxI (wrap64 ((v0.2.2.length : Int) - (1 : Int))) (0 : Int))) ∧ ((0 : Int) = 0) ∧ (((maxI (wrap64 ((v0.2.2.length : Int) - (1 : Int))) (0 : Int)).toNat + [(3 : Int)].length) * 8 ≤ lim) ∧ (∃ m_, m_ < m ∧ (L93 columns e) 0 m_ (⟨[(0, .data (Ty.sl TColumn) columns), (1, .data (Ty.sl TPart) e), (5, .own 16 none), (6, .data Ty.bool (decide ((0 : Int) < (v0.2.2.length : Int)))), (7, .data (Ty.int .i64) (wrap64 (v0.2.1 + (1 : Int))))], [(16, .arr (Ty.int .i64) (v0.2.2.take (maxI (wrap64 ((v0.2.2.length : Int) - (1 : Int))) (0 : Int)).toNat ++ [(3 : Int)]))]⟩ : St) K)) ((∃ m_, m_ < m ∧ (L93 columns e) 0 m_ (⟨[(0, .data (Ty.sl TColumn) columns), (1, .data (Ty.sl TPart) e), (5, .own 16 none), (6, .data Ty.bool false), (7, .data (Ty.int .i64) (wrap64 (v0.2.1 + (1 : Int))))], [(16, .arr (Ty.int .i64) v0.2.2)]⟩ : St) K)))))))))))) (K (.exit 0) (⟨[(5, .own 16 none), (6, .data Ty.bool v0.1)], [(16, .arr (Ty.int .i64) v0.2.2)]⟩ : St))) (K (.exit 0) (⟨[(5, .own 16 none), (6, .data Ty.bool v0.1)], [(16, .arr (Ty.int .i64) v0.2.2)]⟩ : St))) := by kernel_rfl
theorem con93_ok : ConOk P 93 c93 := by
  refine con_okR (fn := Go.Proofs.Tryz.f93) (code := bodyOf Go.Proofs.Tryz.f93) (tab_ok tab_check cmp_check) consOk93 mixed Go.Proofs.Tryz.func93 rfl rfl fun args hp K h0 => ?_
  obtain ⟨a0, a1, rfl, rfl, h1⟩ := args2_elim h0
  obtain ⟨columns, rfl, h2⟩ := withD_elim h1
  obtain ⟨e, rfl, h3⟩ := withD_elim h2
  obtain ⟨h_columns, h_e, hK⟩ := h3
  have h : ok (F.spec_ExprKind columns e) (fun r => K (.data (Ty.int .i64) r) []) := ok_of_eq (F.spec_ExprKind_eq columns e h_columns h_e) hK
  refine ⟨⟨show (2 : Nat) ≤ 46 by decide, show (2 : Nat) ≤ 1000000 by decide⟩, ann93, (L93 columns e), (.dat (Ty.int .i64)), (loopsN1 (i0 := 0) (by kernel_rfl) ?_), ?_⟩
  · clear h
    intro m_ s_ K_ h
    obtain ⟨hc0, v0, rfl, hv0, h⟩ := (show LP93_0 columns e m_ s_ K_ from h)
    rw [lvc93_0 columns e v0 _ K_]
    exact (loopW_step h (fun m1 hm0 h => (ok_cond h (fun b_10529 h => (ok_cond h (fun b_10530 h => ⟨(ok_guard h).1, have g_10531 := (ok_guard h).1; have h := (ok_guard h).2; ⟨(ok_guard h).1, have g_10532 := (ok_guard h).1; have h := (ok_guard h).2; (ok_cond h (fun b_20533 h => (ok_cond h (fun b_20534 h => (ok_cond h (fun b_20535 h => (ok_cond h (fun b_20536 h => (ok_cond h (fun b_20537 h => (loopW_next (fun m hm => (show LP93_0 columns e m _ _ from ⟨hc0, hm⟩)) hm0 (false, wrap64 (v0.2.1 + (1 : Int)), v0.2.2) rfl trivial (have h := ok_ret h; h))) (fun b_20537 h => (cond_f (bnt (bet b_20533)) (cond_f (bnt (bet b_20535)) (ok_cond h (fun b_20545 h => (ok_cond h (fun b_20546 h => ⟨(ok_guard h).1, have g_20547 := (ok_guard h).1; have h := (ok_guard h).2; ⟨(ok_guard h).1, have g_20548 := (ok_guard h).1; have h := (ok_guard h).2; (ok_cond h (fun b_20549 h => ⟨(ok_guard h).1, have g_20550 := (ok_guard h).1; have h := (ok_guard h).2; ⟨(ok_guard h).1, have g_20551 := (ok_guard h).1; have h := (ok_guard h).2; ⟨(Int.natCast_nonneg 0), ⟨(ok_guard h).1, have g_20552 := (ok_guard h).1; have h := (ok_guard h).2; ⟨(ok_guard h).1, have g_20553 := (ok_guard h).1; have h := (ok_guard h).2; ⟨rfl, ⟨rfl, ⟨(ok_guard h).1, have g_20554 := (ok_guard h).1; have h := (ok_guard h).2; (loopW_next (fun m hm => (show LP93_0 columns e m _ _ from ⟨hc0, hm⟩)) hm0 ((decide ((nth (t := (Ty.int .i64)) v0.2.2 (wrap64 ((v0.2.2.length : Int) - (2 : Int)))) = (1 : Int))), wrap64 (v0.2.1 + (1 : Int)), (v0.2.2.take (maxI (wrap64 ((v0.2.2.length : Int) - (2 : Int))) (0 : Int)).toNat ++ [(1 : Int)])) rfl trivial (have h := ok_ret h; h))⟩⟩⟩⟩⟩⟩⟩⟩) (fun b_20549 h => ⟨(Int.natCast_nonneg 0), ⟨(ok_guard h).1, have g_20555 := (ok_guard h).1; have h := (ok_guard h).2; ⟨(ok_guard h).1, have g_20556 := (ok_guard h).1; have h := (ok_guard h).2; ⟨rfl, ⟨rfl, ⟨(ok_guard h).1, have g_20557 := (ok_guard h).1; have h := (ok_guard h).2; (loopW_next (fun m hm => (show LP93_0 columns e m _ _ from ⟨hc0, hm⟩)) hm0 (false, wrap64 (v0.2.1 + (1 : Int)), (v0.2.2.take (maxI (wrap64 ((v0.2.2.length : Int) - (2 : Int))) (0 : Int)).toNat ++ [(1 : Int)])) rfl trivial (have h := ok_ret h; h))⟩⟩⟩⟩⟩⟩))⟩⟩) (fun b_20546 h => ⟨(Int.natCast_nonneg 0), ⟨(ok_guard h).1, have g_20558 := (ok_guard h).1; have h := (ok_guard h).2; ⟨(ok_guard h).1, have g_20559 := (ok_guard h).1; have h := (ok_guard h).2; ⟨rfl, ⟨rfl, ⟨(ok_guard h).1, have g_20560 := (ok_guard h).1; have h := (ok_guard h).2; (loopW_next (fun m hm => (show LP93_0 columns e m _ _ from ⟨hc0, hm⟩)) hm0 (false, wrap64 (v0.2.1 + (1 : Int)), (v0.2.2.take (maxI (wrap64 ((v0.2.2.length : Int) - (2 : Int))) (0 : Int)).toNat ++ [(1 : Int)])) rfl trivial (have h := ok_ret h; h))⟩⟩⟩⟩⟩⟩))) (fun b_20545 h => (cond_f (bnt (bet b_20536)) (ok_cond h (fun b_20577 h => (cond_t b_20577 (ok_cond h (fun b_20579 h => ⟨(ok_guard h).1, have g_20580 := (ok_guard h).1; have h := (ok_guard h).2; ⟨(ok_guard h).1, have g_20581 := (ok_guard h).1; have h := (ok_guard h).2; (ok_cond h (fun b_20582 h => ⟨(ok_guard h).1, have g_20583 := (ok_guard h).1; have h := (ok_guard h).2; ⟨(ok_guard h).1, have g_20584 := (ok_guard h).1; have h := (ok_guard h).2; ⟨(Int.natCast_nonneg 0), ⟨(ok_guard h).1, have g_20585 := (ok_guard h).1; have h := (ok_guard h).2; ⟨(ok_guard h).1, have g_20586 := (ok_guard h).1; have h := (ok_guard h).2; ⟨rfl, ⟨rfl, ⟨(ok_guard h).1, have g_20587 := (ok_guard h).1; have h := (ok_guard h).2; (loopW_next (fun m hm => (show LP93_0 columns e m _ _ from ⟨hc0, hm⟩)) hm0 ((decide ((nth (t := (Ty.int .i64)) v0.2.2 (wrap64 ((v0.2.2.length : Int) - (2 : Int)))) = (3 : Int))), wrap64 (v0.2.1 + (1 : Int)), (v0.2.2.take (maxI (wrap64 ((v0.2.2.length : Int) - (2 : Int))) (0 : Int)).toNat ++ [(3 : Int)])) rfl trivial (have h := ok_ret h; h))⟩⟩⟩⟩⟩⟩⟩⟩) (fun b_20582 h => ⟨(Int.natCast_nonneg 0), ⟨(ok_guard h).1, have g_20588 := (ok_guard h).1; have h := (ok_guard h).2; ⟨(ok_guard h).1, have g_20589 := (ok_guard h).1; have h := (ok_guard h).2; ⟨rfl, ⟨rfl, ⟨(ok_guard h).1, have g_20590 := (ok_guard h).1; have h := (ok_guard h).2; (loopW_next (fun m hm => (show LP93_0 columns e m _ _ from ⟨hc0, hm⟩)) hm0 (false, wrap64 (v0.2.1 + (1 : Int)), (v0.2.2.take (maxI (wrap64 ((v0.2.2.length : Int) - (2 : Int))) (0 : Int)).toNat ++ [(3 : Int)])) rfl trivial (have h := ok_ret h; h))⟩⟩⟩⟩⟩⟩))⟩⟩) (fun b_20579 h => ⟨(Int.natCast_nonneg 0), ⟨(ok_guard h).1, have g_20591 := (ok_guard h).1; have h := (ok_guard h).2; ⟨(ok_guard h).1, have g_20592 := (ok_guard h).1; have h := (ok_guard h).2; ⟨rfl, ⟨rfl, ⟨(ok_guard h).1, have g_20593 := (ok_guard h).1; have h := (ok_guard h).2; (loopW_next (fun m hm => (show LP93_0 columns e m _ _ from ⟨hc0, hm⟩)) hm0 (false, wrap64 (v0.2.1 + (1 : Int)), (v0.2.2.take (maxI (wrap64 ((v0.2.2.length : Int) - (2 : Int))) (0 : Int)).toNat ++ [(3 : Int)])) rfl trivial (have h := ok_ret h; h))⟩⟩⟩⟩⟩⟩)))) (fun b_20577 h => (ok_cond h (fun b_20602 h => (ok_cond h (fun b_20603 h => ⟨(ok_guard h).1, have g_20604 := (ok_guard h).1; have h := (ok_guard h).2; ⟨(ok_guard h).1, have g_20605 := (ok_guard h).1; have h := (ok_guard h).2; (ok_cond h (fun b_20606 h => ⟨(ok_guard h).1, have g_20607 := (ok_guard h).1; have h := (ok_guard h).2; ⟨(ok_guard h).1, have g_20608 := (ok_guard h).1; have h := (ok_guard h).2; ⟨(Int.natCast_nonneg 0), ⟨(ok_guard h).1, have g_20609 := (ok_guard h).1; have h := (ok_guard h).2; ⟨(ok_guard h).1, have g_20610 := (ok_guard h).1; have h := (ok_guard h).2; ⟨rfl, ⟨rfl, ⟨(ok_guard h).1, have g_20611 := (ok_guard h).1; have h := (ok_guard h).2; (loopW_next (fun m hm => (show LP93_0 columns e m _ _ from ⟨hc0, hm⟩)) hm0 ((decide ((nth (t := (Ty.int .i64)) v0.2.2 (wrap64 ((v0.2.2.length : Int) - (2 : Int)))) = (3 : Int))), wrap64 (v0.2.1 + (1 : Int)), (v0.2.2.take (maxI (wrap64 ((v0.2.2.length : Int) - (2 : Int))) (0 : Int)).toNat ++ [(3 : Int)])) rfl trivial (have h := ok_ret h; h))⟩⟩⟩⟩⟩⟩⟩⟩) (fun b_20606 h => ⟨(Int.natCast_nonneg 0), ⟨(ok_guard h).1, have g_20612 := (ok_guard h).1; have h := (ok_guard h).2; ⟨(ok_guard h).1, have g_20613 := (ok_guard h).1; have h := (ok_guard h).2; ⟨rfl, ⟨rfl, ⟨(ok_guard h).1, have g_20614 := (ok_guard h).1; have h := (ok_guard h).2; (loopW_next (fun m hm => (show LP93_0 columns e m _ _ from ⟨hc0, hm⟩)) hm0 (false, wrap64 (v0.2.1 + (1 : Int)), (v0.2.2.take (maxI (wrap64 ((v0.2.2.length : Int) - (2 : Int))) (0 : Int)).toNat ++ [(3 : Int)])) rfl trivial (have h := ok_ret h; h))⟩⟩⟩⟩⟩⟩))⟩⟩) (fun b_20603 h => ⟨(Int.natCast_nonneg 0), ⟨(ok_guard h).1, have g_20615 := (ok_guard h).1; have h := (ok_guard h).2; ⟨(ok_guard h).1, have g_20616 := (ok_guard h).1; have h := (ok_guard h).2; ⟨rfl, ⟨rfl, ⟨(ok_guard h).1, have g_20617 := (ok_guard h).1; have h := (ok_guard h).2; (loopW_next (fun m hm => (show LP93_0 columns e m _ _ from ⟨hc0, hm⟩)) hm0 (false, wrap64 (v0.2.1 + (1 : Int)), (v0.2.2.take (maxI (wrap64 ((v0.2.2.length : Int) - (2 : Int))) (0 : Int)).toNat ++ [(3 : Int)])) rfl trivial (have h := ok_ret h; h))⟩⟩⟩⟩⟩⟩))) (fun b_20602 h => (ok_cond h (fun b_20618 h => (ok_cond h (fun b_20619 h => ⟨(ok_guard h).1, have g_20620 := (ok_guard h).1; have h := (ok_guard h).2; ⟨(ok_guard h).1, have g_20621 := (ok_guard h).1; have h := (ok_guard h).2; (loopW_next (fun m hm => (show LP93_0 columns e m _ _ from ⟨hc0, hm⟩)) hm0 ((decide ((nth (t := (Ty.int .i64)) v0.2.2 (wrap64 ((v0.2.2.length : Int) - (1 : Int)))) = (3 : Int))), wrap64 (v0.2.1 + (1 : Int)), v0.2.2) rfl trivial (have h := ok_ret h; h))⟩⟩) (fun b_20619 h => (loopW_next (fun m hm => (show LP93_0 columns e m _ _ from ⟨hc0, hm⟩)) hm0 (false, wrap64 (v0.2.1 + (1 : Int)), v0.2.2) rfl trivial (have h := ok_ret h; h))))) (fun b_20618 h => (ok_cond h (fun b_20622 h => ⟨(Int.natCast_nonneg 0), ⟨(ok_guard h).1, have g_20623 := (ok_guard h).1; have h := (ok_guard h).2; ⟨(ok_guard h).1, have g_20624 := (ok_guard h).1; have h := (ok_guard h).2; ⟨rfl, ⟨rfl, ⟨(ok_guard h).1, have g_20625 := (ok_guard h).1; have h := (ok_guard h).2; (loopW_next (fun m hm => (show LP93_0 columns e m _ _ from ⟨hc0, hm⟩)) hm0 ((decide ((0 : Int) < (v0.2.2.length : Int))), wrap64 (v0.2.1 + (1 : Int)), (v0.2.2.take (maxI (wrap64 ((v0.2.2.length : Int) - (1 : Int))) (0 : Int)).toNat ++ [(3 : Int)])) rfl trivial (have h := ok_ret h; h))⟩⟩⟩⟩⟩⟩) (fun b_20622 h => (loopW_next (fun m hm => (show LP93_0 columns e m _ _ from ⟨hc0, hm⟩)) hm0 (false, wrap64 (v0.2.1 + (1 : Int)), v0.2.2) rfl trivial (have h := ok_ret h; h)))))))))))))))))) (fun b_20536 h => (cond_f (bnt (bet b_20533)) (cond_f (bnt (bet b_20535)) (cond_f (dec_ne (bnf (bef b_20536)) (by decide)) (cond_t (bnf (bef b_20536)) (ok_cond h (fun b_20650 h => ⟨(ok_guard h).1, have g_20651 := (ok_guard h).1; have h := (ok_guard h).2; ⟨(ok_guard h).1, have g_20652 := (ok_guard h).1; have h := (ok_guard h).2; ⟨(ok_guard h).1, have g_20653 := (ok_guard h).1; have h := (ok_guard h).2; ⟨(ok_guard h).1, have g_20654 := (ok_guard h).1; have h := (ok_guard h).2; (ok_cond h (fun b_20655 h => ⟨(Int.natCast_nonneg 0), ⟨(ok_guard h).1, have g_20656 := (ok_guard h).1; have h := (ok_guard h).2; ⟨(ok_guard h).1, have g_20657 := (ok_guard h).1; have h := (ok_guard h).2; ⟨rfl, ⟨rfl, ⟨(ok_guard h).1, have g_20658 := (ok_guard h).1; have h := (ok_guard h).2; (loopW_next (fun m hm => (show LP93_0 columns e m _ _ from ⟨hc0, hm⟩)) hm0 ((M.inR (((nth (t := TPart) e v0.2.1).2).1) (1 : Int) (4 : Int)), wrap64 (v0.2.1 + (1 : Int)), (v0.2.2.take (maxI (wrap64 ((v0.2.2.length : Int) - (2 : Int))) (0 : Int)).toNat ++ [(3 : Int)])) rfl trivial (have h := ok_ret h; h))⟩⟩⟩⟩⟩⟩) (fun b_20655 h => ⟨(Int.natCast_nonneg 0), ⟨(ok_guard h).1, have g_20659 := (ok_guard h).1; have h := (ok_guard h).2; ⟨(ok_guard h).1, have g_20660 := (ok_guard h).1; have h := (ok_guard h).2; ⟨rfl, ⟨rfl, ⟨(ok_guard h).1, have g_20661 := (ok_guard h).1; have h := (ok_guard h).2; (loopW_next (fun m hm => (show LP93_0 columns e m _ _ from ⟨hc0, hm⟩)) hm0 (false, wrap64 (v0.2.1 + (1 : Int)), (v0.2.2.take (maxI (wrap64 ((v0.2.2.length : Int) - (2 : Int))) (0 : Int)).toNat ++ [(3 : Int)])) rfl trivial (have h := ok_ret h; h))⟩⟩⟩⟩⟩⟩))⟩⟩⟩⟩) (fun b_20650 h => ⟨(Int.natCast_nonneg 0), ⟨(ok_guard h).1, have g_20662 := (ok_guard h).1; have h := (ok_guard h).2; ⟨(ok_guard h).1, have g_20663 := (ok_guard h).1; have h := (ok_guard h).2; ⟨rfl, ⟨rfl, ⟨(ok_guard h).1, have g_20664 := (ok_guard h).1; have h := (ok_guard h).2; (loopW_next (fun m hm => (show LP93_0 columns e m _ _ from ⟨hc0, hm⟩)) hm0 (false, wrap64 (v0.2.1 + (1 : Int)), (v0.2.2.take (maxI (wrap64 ((v0.2.2.length : Int) - (2 : Int))) (0 : Int)).toNat ++ [(3 : Int)])) rfl trivial (have h := ok_ret h; h))⟩⟩⟩⟩⟩⟩))))))))) (fun b_20535 h => (cond_f (bnt (bet b_20533)) (cond_t (bnf (bef b_20535)) (ok_cond h (fun b_20719 h => (loopW_next (fun m hm => (show LP93_0 columns e m _ _ from ⟨hc0, hm⟩)) hm0 (false, wrap64 (v0.2.1 + (1 : Int)), v0.2.2) rfl trivial (have h := ok_ret h; h))) (fun b_20719 h => ⟨(inR_lo (bnf b_20719)), ⟨(inR_hi (bnf b_20719)), ⟨(ok_guard h).1, have g_20720 := (ok_guard h).1; have h := (ok_guard h).2; (loopW_next (fun m hm => (show LP93_0 columns e m _ _ from ⟨hc0, hm⟩)) hm0 (true, wrap64 (v0.2.1 + (1 : Int)), (v0.2.2 ++ [(nth (t := TColumn) columns (((nth (t := TPart) e v0.2.1).2).1)).1])) rfl trivial (have h := ok_ret h; h))⟩⟩⟩))))))) (fun b_20534 h => (loopW_next (fun m hm => (show LP93_0 columns e m _ _ from ⟨hc0, hm⟩)) hm0 (false, wrap64 (v0.2.1 + (1 : Int)), v0.2.2) rfl trivial (have h := ok_ret h; h))))) (fun b_20533 h => (cond_t (uet (unt (dec_ne (bnf (bef b_20533)) (by decide)))) (cond_t (uet (unt (dec_ne (bnf (bef b_20533)) (by decide)))) (ok_cond h (fun b_20804 h => (loopW_next (fun m hm => (show LP93_0 columns e m _ _ from ⟨hc0, hm⟩)) hm0 (false, wrap64 (v0.2.1 + (1 : Int)), v0.2.2) rfl trivial (have h := ok_ret h; h))) (fun b_20804 h => (cond_t (bnf (bef b_20533)) ⟨(sm_nth h_e v0.2.1).2.2.1, (ok_cond h (fun b_20806 h => (ok_cond h (fun b_20807 h => (loopW_next (fun m hm => (show LP93_0 columns e m _ _ from ⟨hc0, hm⟩)) hm0 (false, wrap64 (v0.2.1 + (1 : Int)), v0.2.2) rfl trivial (have h := ok_ret h; h))) (fun b_20807 h => ⟨(ok_guard h).1, have g_20808 := (ok_guard h).1; have h := (ok_guard h).2; (loopW_next (fun m hm => (show LP93_0 columns e m _ _ from ⟨hc0, hm⟩)) hm0 (true, wrap64 (v0.2.1 + (1 : Int)), (v0.2.2 ++ [((((nth (t := TPart) e v0.2.1).2).2).1).1])) rfl trivial (have h := ok_ret h; h))⟩))) (fun b_20806 h => (loopW_next (fun m hm => (show LP93_0 columns e m _ _ from ⟨hc0, hm⟩)) hm0 (false, wrap64 (v0.2.1 + (1 : Int)), v0.2.2) rfl trivial (have h := ok_ret h; h))))⟩)))))))⟩⟩) (fun b_10530 h => ((have h := ok_ret h; h) trivial)))) (fun b_10529 h => ((have h := ok_ret h; h) trivial)))))
  · rw [vc93 columns e K]
    exact ⟨h_columns, (ok_cond h (fun b_1 h => (ok_cond h (fun b_2 h => (have h := ok_ret h; h)) (fun b_2 h => (loopW_start (fun m hm => ⟨trivial, hm⟩) (true, (0 : Int), []) rfl trivial (ok_bind h (fun e0 h hv0 => (ok_cond h (fun b_21069 h => (ok_cond h (fun b_21070 h => (have h := ok_ret h; h)) (fun b_21070 h => ⟨(Int.natCast_nonneg 0), ⟨(ok_guard h).1, have g_21071 := (ok_guard h).1; have h := (ok_guard h).2; (have h := ok_ret h; h)⟩⟩))) (fun b_21069 h => (have h := ok_ret h; h))))))))) (fun b_1 h => (have h := ok_ret h; h)))⟩

/-! 142: loop.example/tablehouse/spec.l12Columns -/
def c142 : Con := ⟨[.dat (Ty.sl TColumn), .dat (Ty.sl (Ty.int .i64))], fun args hp K => args2 (fun a0 a1 => withD (Ty.sl TColumn) a0 fun columns => withD (Ty.sl (Ty.int .i64)) a1 fun list => (Sm (Ty.sl TColumn) columns) ∧ (Sm (Ty.sl (Ty.int .i64)) list) ∧ K (.data Ty.bool (M.listOk columns list)) []) args hp⟩
def cons142 : Cons := [(79, c79)]
def inl142 : List (Nat × Inl) := []
@[reducible] def C142 : Ctx := ⟨tab, fun t => memN t cmps, cons142, 24, inl142, 0⟩
theorem consOk142 : ConsOk P C142 := by
  refine consOk_cons (enter_ok (fn := Go.Proofs.Tryz.f79) Go.Proofs.Tryz.func79 (by kernel_rfl) rfl) con79_ok ?_
  exact consOk_nil
def ann142 : Nat → List Dir
  | 0 => [.keep [0, 1]]
  | 1 => [.keep [0, 1, 5]]
  | 2 => [.keep [0, 1, 5, 9]]
  | 3 => [.keep [0, 1, 5]]
  | 4 => [.keep [0, 1, 5, 20]]
  | 5 => [.keep [4]]
  | 6 => [.keep [4]]
  | 100000 => [.keep [1]]
  | _ => []
@[reducible] def LP142_0 (columns : (List (TColumn).D)) (list : (List Int)) (m : Nat) (st_ : St) (K : X → St → Prop) : Prop := (True) ∧ LoopE (t := (Ty.int .i64)) (fun (i0 : Int) (v0 : Unit) => (⟨[(0, .data (Ty.sl TColumn) columns), (1, .data (Ty.sl (Ty.int .i64)) list), (5, .data (Ty.int .i64) i0)], []⟩ : St)) list (F.spec_l12Columns_l0 columns list) (fun v0 : Unit => True) (outD (fun v0 : Unit => True → K (.exit 0) (⟨[(1, .data (Ty.sl (Ty.int .i64)) list)], []⟩ : St)) (fun q0 : Unit => K .ret (⟨[(4, .data Ty.bool false)], []⟩ : St))) m st_
def L142 (columns : (List (TColumn).D)) (list : (List Int)) : Loops := fun id m st_ K => match id with
  | 0 => LP142_0 columns list m st_ K
  | _ => False
theorem vc142 (columns : (List (TColumn).D)) (list : (List Int)) (K : AV → Hp → Prop) : awp C142 (L142 columns list) ann142 (bodyOf Go.Proofs.Tryz.f142) ⟨argEnv 0 [.data (Ty.sl TColumn) columns, .data (Ty.sl (Ty.int .i64)) list], []⟩ (outK tab Go.Proofs.Tryz.f142.results.toList (hasBox []) (resK (.dat Ty.bool) K)) =
  ((∃ m_, (True) ∧ LoopE (t := (Ty.int .i64)) (fun (i0 : Int) (v0 : Unit) => (⟨[(0, .data (Ty.sl TColumn) columns), (1, .data (Ty.sl (Ty.int .i64)) list), (5, .data (Ty.int .i64) i0)], []⟩ : St)) list (F.spec_l12Columns_l0 columns list) (fun v0 : Unit => True) (outD (fun v0 : Unit => True → K (.data Ty.bool (M.inR (list.length : Int) (1 : Int) (4 : Int))) []) (fun q0 : Unit => K (.data Ty.bool false) [])) m_ (⟨[(0, .data (Ty.sl TColumn) columns), (1, .data (Ty.sl (Ty.int .i64)) list), (5, .data (Ty.int .i64) (0 : Int))], []⟩ : St))) := by kernel_rfl
theorem lvc142_0 (columns : (List (TColumn).D)) (list : (List Int))  (i0 : Int) (v0 : Unit) (m : Nat) (K : X → St → Prop) : awp C142 (L142 columns list) ann142 (loopAt (bodyOf Go.Proofs.Tryz.f142) 0) (⟨[(0, .data (Ty.sl TColumn) columns), (1, .data (Ty.sl (Ty.int .i64)) list), (5, .data (Ty.int .i64) i0)], []⟩ : St) (thenW (fun s' => ∃ m', m' < m ∧ (L142 columns list) 0 m' s' K) (exitN 0 (ann142 (behind 0)) K)) =
  (cond (decide (i0 < (list.length : Int))) ((0 ≤ i0) ∧ (i0 < (list.length : Int)) ∧ cond (!(M.inR (nth (t := (Ty.int .i64)) list i0) (0 : Int) (wrap64 ((columns.length : Int) - (1 : Int))))) (K .ret (⟨[(4, .data Ty.bool false)], []⟩ : St)) ((∃ m_, m_ < m ∧ (L142 columns list) 0 m_ (⟨[(0, .data (Ty.sl TColumn) columns), (1, .data (Ty.sl (Ty.int .i64)) list), (5, .data (Ty.int .i64) (wrap64 (i0 + (1 : Int))))], []⟩ : St) K))) (K (.exit 0) (⟨[(1, .data (Ty.sl (Ty.int .i64)) list)], []⟩ : St))) := by kernel_rfl
theorem con142_ok : ConOk P 142 c142 := by
  refine con_okR (fn := Go.Proofs.Tryz.f142) (code := bodyOf Go.Proofs.Tryz.f142) (tab_ok tab_check cmp_check) consOk142 mixed Go.Proofs.Tryz.func142 rfl rfl fun args hp K h0 => ?_
  obtain ⟨a0, a1, rfl, rfl, h1⟩ := args2_elim h0
  obtain ⟨columns, rfl, h2⟩ := withD_elim h1
  obtain ⟨list, rfl, h3⟩ := withD_elim h2
  obtain ⟨h_columns, h_list, hK⟩ := h3
  have h : ok (F.spec_l12Columns columns list) (fun r => K (.data Ty.bool r) []) := ok_of_eq (F.spec_l12Columns_eq columns list h_columns h_list) hK
  refine ⟨⟨show (2 : Nat) ≤ 24 by decide, show (2 : Nat) ≤ 1000000 by decide⟩, ann142, (L142 columns list), (.dat Ty.bool), (loopsN1 (i0 := 0) (by kernel_rfl) ?_), ?_⟩
  · clear h
    intro m_ s_ K_ h
    obtain ⟨hc0, i0, v0, rfl, hl0, rfl, hv0, h⟩ := (show LP142_0 columns list m_ s_ K_ from h)
    rw [lvc142_0 columns list i0 v0 _ K_]
    exact (loopE_step (t := (Ty.int .i64)) hl0 h (fun ht0 h => ⟨hl0, ⟨ht0, (ok_cond h (fun b_9 h => (have h := ok_ret h; h)) (fun b_9 h => (loopE_next (t := (Ty.int .i64)) (fun m hm => (show LP142_0 columns list m _ _ from ⟨hc0, hm⟩)) () rfl hl0 ht0 (sm_len h_list) trivial (have h := ok_ret h; h))))⟩⟩) (fun h => (h trivial)))
  · rw [vc142 columns list K]
    exact (loopE_start (t := (Ty.int .i64)) (fun m hm => ⟨trivial, hm⟩) () rfl trivial (ok_then h (fun v0 h hv0 => (have h := ok_ret h; h)) (fun q0 h => (have h := ok_ret h; h))))

end Go.AE
