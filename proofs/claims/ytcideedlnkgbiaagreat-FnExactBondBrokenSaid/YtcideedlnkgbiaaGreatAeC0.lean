/- Contracts. -/
import Derived.Test.YtcideedlnkgbiaaGreatAeSeat
import Derived.Test.YtcideedlnkgbiaaGreatAeEq
import Derived.Test.YtcideedlnkgbiaaGreatAeInl
namespace Go.AE
open Go Go.RowKit
set_option maxRecDepth 100000
set_option linter.unusedVariables false

/-! 47: loop.example/tablehouse/laws.szColumnS -/
def c47 : Con := ⟨[.dat (Ty.sl TColumn), .dat (Ty.int .i64)], fun args hp K => args2 (fun a0 a1 => withD (Ty.sl TColumn) a0 fun x => withD (Ty.int .i64) a1 fun left => (Ln (Ty.sl TColumn) x) ∧ (0 ≤ left) ∧ (left ≤ 1048576) ∧ K (.data (Ty.int .i64) (M.szLen x.length left)) []) args hp⟩
def cons47 : Cons := []
def inl47 : List (Nat × Inl) := []
@[reducible] def C47 : Ctx := ⟨tab, fun t => memN t cmps, cons47, 12, inl47, 0⟩
theorem consOk47 : ConsOk P C47 := by
  exact consOk_nil
def ann47 : Nat → List Dir
  | 0 => [.keep [0, 1]]
  | 1 => [.keep [1]]
  | 2 => [.keep [1, 10]]
  | 3 => [.keep [4]]
  | 4 => [.keep [4]]
  | _ => []
def L47 (x : (List (TColumn).D)) (left : Int) : Loops := fun id m st_ K => match id with
  | _ => False
theorem vc47 (x : (List (TColumn).D)) (left : Int) (K : AV → Hp → Prop) : awp C47 (L47 x left) ann47 (bodyOf Go.Proofs.Tryz.f47) ⟨argEnv 0 [.data (Ty.sl TColumn) x, .data (Ty.int .i64) left], []⟩ (outK tab Go.Proofs.Tryz.f47.results.toList (hasBox []) (resK (.dat (Ty.int .i64)) K)) =
  (cond (decide (wrap64 (left - (x.length : Int)) < (0 : Int))) (K (.data (Ty.int .i64) (-1 : Int)) []) (K (.data (Ty.int .i64) (wrap64 (left - (x.length : Int)))) [])) := by kernel_rfl
theorem con47_ok : ConOk P 47 c47 := by
  refine con_okR (fn := Go.Proofs.Tryz.f47) (code := bodyOf Go.Proofs.Tryz.f47) (tab_ok tab_check cmp_check) consOk47 mixed Go.Proofs.Tryz.func47 rfl rfl fun args hp K h0 => ?_
  obtain ⟨a0, a1, rfl, rfl, h1⟩ := args2_elim h0
  obtain ⟨x, rfl, h2⟩ := withD_elim h1
  obtain ⟨left, rfl, h3⟩ := withD_elim h2
  obtain ⟨h_x, p0, p1, hK⟩ := h3
  have h : ok (F.laws_szColumnS x left) (fun r => K (.data (Ty.int .i64) r) []) := ok_of_eq (F.laws_szColumnS_eq x left h_x p0 p1) hK
  refine ⟨⟨show (2 : Nat) ≤ 12 by decide, show (2 : Nat) ≤ 1000000 by decide⟩, ann47, (L47 x left), (.dat (Ty.int .i64)), (no_loops (by kernel_rfl)), ?_⟩
  · rw [vc47 x left K]
    exact (ok_cond h (fun b_1 h => (have h := ok_ret h; h)) (fun b_1 h => (have h := ok_ret h; h)))

/-! 77: loop.example/tablehouse/laws.szValue -/
def c77 : Con := ⟨[.dat TValue, .dat (Ty.int .i64)], fun args hp K => args2 (fun a0 a1 => withD TValue a0 fun x => withD (Ty.int .i64) a1 fun left => (Ln TValue x) ∧ (0 ≤ left) ∧ (left ≤ 1048576) ∧ K (.data (Ty.int .i64) (M.szValue x left)) []) args hp⟩
def cons77 : Cons := []
def inl77 : List (Nat × Inl) := []
@[reducible] def C77 : Ctx := ⟨tab, fun t => memN t cmps, cons77, 13, inl77, 0⟩
theorem consOk77 : ConsOk P C77 := by
  exact consOk_nil
def ann77 : Nat → List Dir
  | 0 => [.fixRow 2 TValue, .keep [1, 2]]
  | 1 => [.keep [1]]
  | 2 => [.keep [1, 11]]
  | 3 => [.keep [4]]
  | 4 => [.keep [4]]
  | _ => []
def L77 (x : (TValue).D) (left : Int) : Loops := fun id m st_ K => match id with
  | _ => False
theorem vc77 (x : (TValue).D) (left : Int) (K : AV → Hp → Prop) : awp C77 (L77 x left) ann77 (bodyOf Go.Proofs.Tryz.f77) ⟨argEnv 0 [.data TValue x, .data (Ty.int .i64) left], []⟩ (outK tab Go.Proofs.Tryz.f77.results.toList (hasBox []) (resK (.dat (Ty.int .i64)) K)) =
  (cond (decide (wrap64 (left - (x.2.2.1.size : Int)) < (0 : Int))) (K (.data (Ty.int .i64) (-1 : Int)) []) (K (.data (Ty.int .i64) (wrap64 (left - (x.2.2.1.size : Int)))) [])) := by kernel_rfl
theorem con77_ok : ConOk P 77 c77 := by
  refine con_okR (fn := Go.Proofs.Tryz.f77) (code := bodyOf Go.Proofs.Tryz.f77) (tab_ok tab_check cmp_check) consOk77 mixed Go.Proofs.Tryz.func77 rfl rfl fun args hp K h0 => ?_
  obtain ⟨a0, a1, rfl, rfl, h1⟩ := args2_elim h0
  obtain ⟨x, rfl, h2⟩ := withD_elim h1
  obtain ⟨left, rfl, h3⟩ := withD_elim h2
  obtain ⟨h_x, p0, p1, hK⟩ := h3
  have h : ok (F.laws_szValue x left) (fun r => K (.data (Ty.int .i64) r) []) := ok_of_eq (F.laws_szValue_eq x left h_x p0 p1) hK
  refine ⟨⟨show (2 : Nat) ≤ 13 by decide, show (2 : Nat) ≤ 1000000 by decide⟩, ann77, (L77 x left), (.dat (Ty.int .i64)), (no_loops (by kernel_rfl)), ?_⟩
  · rw [vc77 x left K]
    exact (ok_cond h (fun b_1 h => (have h := ok_ret h; h)) (fun b_1 h => (have h := ok_ret h; h)))

/-! 76: loop.example/tablehouse/laws.szValueS -/
def c76 : Con := ⟨[.dat (Ty.sl TValue), .dat (Ty.int .i64)], fun args hp K => args2 (fun a0 a1 => withD (Ty.sl TValue) a0 fun x => withD (Ty.int .i64) a1 fun left => (Ln (Ty.sl TValue) x) ∧ (0 ≤ left) ∧ (left ≤ 1048576) ∧ K (.data (Ty.int .i64) (M.szS M.szValue x left)) []) args hp⟩
def cons76 : Cons := [(77, c77)]
def inl76 : List (Nat × Inl) := []
@[reducible] def C76 : Ctx := ⟨tab, fun t => memN t cmps, cons76, 27, inl76, 0⟩
theorem consOk76 : ConsOk P C76 := by
  refine consOk_cons (enter_ok (fn := Go.Proofs.Tryz.f77) Go.Proofs.Tryz.func77 (by kernel_rfl) rfl) con77_ok ?_
  exact consOk_nil
def ann76 : Nat → List Dir
  | 0 => [.keep [0, 1]]
  | 1 => [.keep [0, 1]]
  | 2 => [.keep [0, 1, 11]]
  | 3 => [.keep [4]]
  | 4 => [.keep [0, 1, 5]]
  | 5 => [.keep [0, 1, 5, 15]]
  | 6 => [.keep [0, 1, 5]]
  | 7 => [.keep [0, 1, 5]]
  | 8 => [.keep [0, 1, 5, 25]]
  | 9 => [.keep [4]]
  | 10 => [.keep [4]]
  | 100000 => [.keep [1]]
  | _ => []
@[reducible] def LP76_0 (x : (List (TValue).D)) (left : Int) (m : Nat) (st_ : St) (K : X → St → Prop) : Prop := (True) ∧ LoopE (t := TValue) (fun (i0 : Int) (v0 : Int) => (⟨[(0, .data (Ty.sl TValue) x), (1, .data (Ty.int .i64) v0), (5, .data (Ty.int .i64) i0)], []⟩ : St)) x (F.laws_szValueS_l0 x left) (fun v0 : Int => True) (outD (fun v0 : Int => True → K (.exit 0) (⟨[(1, .data (Ty.int .i64) v0)], []⟩ : St)) (fun q0 : Unit => K .ret (⟨[(4, .data (Ty.int .i64) (-1 : Int))], []⟩ : St))) m st_
def L76 (x : (List (TValue).D)) (left : Int) : Loops := fun id m st_ K => match id with
  | 0 => LP76_0 x left m st_ K
  | _ => False
theorem vc76 (x : (List (TValue).D)) (left : Int) (K : AV → Hp → Prop) : awp C76 (L76 x left) ann76 (bodyOf Go.Proofs.Tryz.f76) ⟨argEnv 0 [.data (Ty.sl TValue) x, .data (Ty.int .i64) left], []⟩ (outK tab Go.Proofs.Tryz.f76.results.toList (hasBox []) (resK (.dat (Ty.int .i64)) K)) =
  (cond (decide (wrap64 (left - (x.length : Int)) < (0 : Int))) (K (.data (Ty.int .i64) (-1 : Int)) []) ((∃ m_, (True) ∧ LoopE (t := TValue) (fun (i0 : Int) (v0 : Int) => (⟨[(0, .data (Ty.sl TValue) x), (1, .data (Ty.int .i64) v0), (5, .data (Ty.int .i64) i0)], []⟩ : St)) x (F.laws_szValueS_l0 x left) (fun v0 : Int => True) (outD (fun v0 : Int => True → K (.data (Ty.int .i64) v0) []) (fun q0 : Unit => K (.data (Ty.int .i64) (-1 : Int)) [])) m_ (⟨[(0, .data (Ty.sl TValue) x), (1, .data (Ty.int .i64) (wrap64 (left - (x.length : Int)))), (5, .data (Ty.int .i64) (0 : Int))], []⟩ : St)))) := by kernel_rfl
theorem lvc76_0 (x : (List (TValue).D)) (left : Int)  (i0 : Int) (v0 : Int) (m : Nat) (K : X → St → Prop) : awp C76 (L76 x left) ann76 (loopAt (bodyOf Go.Proofs.Tryz.f76) 0) (⟨[(0, .data (Ty.sl TValue) x), (1, .data (Ty.int .i64) v0), (5, .data (Ty.int .i64) i0)], []⟩ : St) (thenW (fun s' => ∃ m', m' < m ∧ (L76 x left) 0 m' s' K) (exitN 0 (ann76 (behind 0)) K)) =
  (cond (decide (i0 < (x.length : Int))) ((0 ≤ i0) ∧ (i0 < (x.length : Int)) ∧ (Ln TValue (nth (t := TValue) x i0)) ∧ (0 ≤ v0) ∧ (v0 ≤ 1048576) ∧ cond (decide ((M.szValue (nth (t := TValue) x i0) v0) < (0 : Int))) (K .ret (⟨[(4, .data (Ty.int .i64) (-1 : Int))], []⟩ : St)) ((∃ m_, m_ < m ∧ (L76 x left) 0 m_ (⟨[(0, .data (Ty.sl TValue) x), (1, .data (Ty.int .i64) (M.szValue (nth (t := TValue) x i0) v0)), (5, .data (Ty.int .i64) (wrap64 (i0 + (1 : Int))))], []⟩ : St) K))) (K (.exit 0) (⟨[(1, .data (Ty.int .i64) v0)], []⟩ : St))) := by kernel_rfl
theorem con76_ok : ConOk P 76 c76 := by
  refine con_okR (fn := Go.Proofs.Tryz.f76) (code := bodyOf Go.Proofs.Tryz.f76) (tab_ok tab_check cmp_check) consOk76 mixed Go.Proofs.Tryz.func76 rfl rfl fun args hp K h0 => ?_
  obtain ⟨a0, a1, rfl, rfl, h1⟩ := args2_elim h0
  obtain ⟨x, rfl, h2⟩ := withD_elim h1
  obtain ⟨left, rfl, h3⟩ := withD_elim h2
  obtain ⟨h_x, p0, p1, hK⟩ := h3
  have h : ok (F.laws_szValueS x left) (fun r => K (.data (Ty.int .i64) r) []) := ok_of_eq (F.laws_szValueS_eq x left h_x p0 p1) hK
  refine ⟨⟨show (2 : Nat) ≤ 27 by decide, show (2 : Nat) ≤ 1000000 by decide⟩, ann76, (L76 x left), (.dat (Ty.int .i64)), (loopsN1 (i0 := 0) (by kernel_rfl) ?_), ?_⟩
  · clear h
    intro m_ s_ K_ h
    obtain ⟨hc0, i0, v0, rfl, hl0, rfl, hv0, h⟩ := (show LP76_0 x left m_ s_ K_ from h)
    rw [lvc76_0 x left i0 v0 _ K_]
    exact (loopE_step (t := TValue) hl0 h (fun ht0 h => ⟨hl0, ⟨ht0, ⟨(sm_nth h_x i0), ⟨(ok_guard h).1, have g_14 := (ok_guard h).1; have h := (ok_guard h).2; ⟨(ok_guard h).1, have g_15 := (ok_guard h).1; have h := (ok_guard h).2; (ok_cond h (fun b_16 h => (have h := ok_ret h; h)) (fun b_16 h => (loopE_next (t := TValue) (fun m hm => (show LP76_0 x left m _ _ from ⟨hc0, hm⟩)) (M.szValue (nth (t := TValue) x i0) v0) rfl hl0 ht0 (sm_len h_x) trivial (have h := ok_ret h; h))))⟩⟩⟩⟩⟩) (fun h => (h trivial)))
  · rw [vc76 x left K]
    exact (ok_cond h (fun b_1 h => (have h := ok_ret h; h)) (fun b_1 h => (loopE_start (t := TValue) (fun m hm => ⟨trivial, hm⟩) (wrap64 (left - (x.length : Int))) rfl trivial (ok_then h (fun v0 h hv0 => (have h := ok_ret h; h)) (fun q0 h => (have h := ok_ret h; h))))))

/-! 48: loop.example/tablehouse/laws.szValueSS -/
def c48 : Con := ⟨[.dat (Ty.sl (Ty.sl TValue)), .dat (Ty.int .i64)], fun args hp K => args2 (fun a0 a1 => withD (Ty.sl (Ty.sl TValue)) a0 fun x => withD (Ty.int .i64) a1 fun left => (Ln (Ty.sl (Ty.sl TValue)) x) ∧ (0 ≤ left) ∧ (left ≤ 1048576) ∧ K (.data (Ty.int .i64) (M.szS (M.szS M.szValue) x left)) []) args hp⟩
def cons48 : Cons := [(76, c76)]
def inl48 : List (Nat × Inl) := []
@[reducible] def C48 : Ctx := ⟨tab, fun t => memN t cmps, cons48, 27, inl48, 0⟩
theorem consOk48 : ConsOk P C48 := by
  refine consOk_cons (enter_ok (fn := Go.Proofs.Tryz.f76) Go.Proofs.Tryz.func76 (by kernel_rfl) rfl) con76_ok ?_
  exact consOk_nil
def ann48 : Nat → List Dir
  | 0 => [.keep [0, 1]]
  | 1 => [.keep [0, 1]]
  | 2 => [.keep [0, 1, 11]]
  | 3 => [.keep [4]]
  | 4 => [.keep [0, 1, 5]]
  | 5 => [.keep [0, 1, 5, 15]]
  | 6 => [.keep [0, 1, 5]]
  | 7 => [.keep [0, 1, 5]]
  | 8 => [.keep [0, 1, 5, 25]]
  | 9 => [.keep [4]]
  | 10 => [.keep [4]]
  | 100000 => [.keep [1]]
  | _ => []
@[reducible] def LP48_0 (x : (List (List (TValue).D))) (left : Int) (m : Nat) (st_ : St) (K : X → St → Prop) : Prop := (True) ∧ LoopE (t := (Ty.sl TValue)) (fun (i0 : Int) (v0 : Int) => (⟨[(0, .data (Ty.sl (Ty.sl TValue)) x), (1, .data (Ty.int .i64) v0), (5, .data (Ty.int .i64) i0)], []⟩ : St)) x (F.laws_szValueSS_l0 x left) (fun v0 : Int => True) (outD (fun v0 : Int => True → K (.exit 0) (⟨[(1, .data (Ty.int .i64) v0)], []⟩ : St)) (fun q0 : Unit => K .ret (⟨[(4, .data (Ty.int .i64) (-1 : Int))], []⟩ : St))) m st_
def L48 (x : (List (List (TValue).D))) (left : Int) : Loops := fun id m st_ K => match id with
  | 0 => LP48_0 x left m st_ K
  | _ => False
theorem vc48 (x : (List (List (TValue).D))) (left : Int) (K : AV → Hp → Prop) : awp C48 (L48 x left) ann48 (bodyOf Go.Proofs.Tryz.f48) ⟨argEnv 0 [.data (Ty.sl (Ty.sl TValue)) x, .data (Ty.int .i64) left], []⟩ (outK tab Go.Proofs.Tryz.f48.results.toList (hasBox []) (resK (.dat (Ty.int .i64)) K)) =
  (cond (decide (wrap64 (left - (x.length : Int)) < (0 : Int))) (K (.data (Ty.int .i64) (-1 : Int)) []) ((∃ m_, (True) ∧ LoopE (t := (Ty.sl TValue)) (fun (i0 : Int) (v0 : Int) => (⟨[(0, .data (Ty.sl (Ty.sl TValue)) x), (1, .data (Ty.int .i64) v0), (5, .data (Ty.int .i64) i0)], []⟩ : St)) x (F.laws_szValueSS_l0 x left) (fun v0 : Int => True) (outD (fun v0 : Int => True → K (.data (Ty.int .i64) v0) []) (fun q0 : Unit => K (.data (Ty.int .i64) (-1 : Int)) [])) m_ (⟨[(0, .data (Ty.sl (Ty.sl TValue)) x), (1, .data (Ty.int .i64) (wrap64 (left - (x.length : Int)))), (5, .data (Ty.int .i64) (0 : Int))], []⟩ : St)))) := by kernel_rfl
theorem lvc48_0 (x : (List (List (TValue).D))) (left : Int)  (i0 : Int) (v0 : Int) (m : Nat) (K : X → St → Prop) : awp C48 (L48 x left) ann48 (loopAt (bodyOf Go.Proofs.Tryz.f48) 0) (⟨[(0, .data (Ty.sl (Ty.sl TValue)) x), (1, .data (Ty.int .i64) v0), (5, .data (Ty.int .i64) i0)], []⟩ : St) (thenW (fun s' => ∃ m', m' < m ∧ (L48 x left) 0 m' s' K) (exitN 0 (ann48 (behind 0)) K)) =
  (cond (decide (i0 < (x.length : Int))) ((0 ≤ i0) ∧ (i0 < (x.length : Int)) ∧ (Ln (Ty.sl TValue) (nth (t := (Ty.sl TValue)) x i0)) ∧ (0 ≤ v0) ∧ (v0 ≤ 1048576) ∧ cond (decide ((M.szS M.szValue (nth (t := (Ty.sl TValue)) x i0) v0) < (0 : Int))) (K .ret (⟨[(4, .data (Ty.int .i64) (-1 : Int))], []⟩ : St)) ((∃ m_, m_ < m ∧ (L48 x left) 0 m_ (⟨[(0, .data (Ty.sl (Ty.sl TValue)) x), (1, .data (Ty.int .i64) (M.szS M.szValue (nth (t := (Ty.sl TValue)) x i0) v0)), (5, .data (Ty.int .i64) (wrap64 (i0 + (1 : Int))))], []⟩ : St) K))) (K (.exit 0) (⟨[(1, .data (Ty.int .i64) v0)], []⟩ : St))) := by kernel_rfl
theorem con48_ok : ConOk P 48 c48 := by
  refine con_okR (fn := Go.Proofs.Tryz.f48) (code := bodyOf Go.Proofs.Tryz.f48) (tab_ok tab_check cmp_check) consOk48 mixed Go.Proofs.Tryz.func48 rfl rfl fun args hp K h0 => ?_
  obtain ⟨a0, a1, rfl, rfl, h1⟩ := args2_elim h0
  obtain ⟨x, rfl, h2⟩ := withD_elim h1
  obtain ⟨left, rfl, h3⟩ := withD_elim h2
  obtain ⟨h_x, p0, p1, hK⟩ := h3
  have h : ok (F.laws_szValueSS x left) (fun r => K (.data (Ty.int .i64) r) []) := ok_of_eq (F.laws_szValueSS_eq x left h_x p0 p1) hK
  refine ⟨⟨show (2 : Nat) ≤ 27 by decide, show (2 : Nat) ≤ 1000000 by decide⟩, ann48, (L48 x left), (.dat (Ty.int .i64)), (loopsN1 (i0 := 0) (by kernel_rfl) ?_), ?_⟩
  · clear h
    intro m_ s_ K_ h
    obtain ⟨hc0, i0, v0, rfl, hl0, rfl, hv0, h⟩ := (show LP48_0 x left m_ s_ K_ from h)
    rw [lvc48_0 x left i0 v0 _ K_]
    exact (loopE_step (t := (Ty.sl TValue)) hl0 h (fun ht0 h => ⟨hl0, ⟨ht0, ⟨(sm_nth h_x i0), ⟨(ok_guard h).1, have g_14 := (ok_guard h).1; have h := (ok_guard h).2; ⟨(ok_guard h).1, have g_15 := (ok_guard h).1; have h := (ok_guard h).2; (ok_cond h (fun b_16 h => (have h := ok_ret h; h)) (fun b_16 h => (loopE_next (t := (Ty.sl TValue)) (fun m hm => (show LP48_0 x left m _ _ from ⟨hc0, hm⟩)) (M.szS M.szValue (nth (t := (Ty.sl TValue)) x i0) v0) rfl hl0 ht0 (sm_len h_x) trivial (have h := ok_ret h; h))))⟩⟩⟩⟩⟩) (fun h => (h trivial)))
  · rw [vc48 x left K]
    exact (ok_cond h (fun b_1 h => (have h := ok_ret h; h)) (fun b_1 h => (loopE_start (t := (Ty.sl TValue)) (fun m hm => ⟨trivial, hm⟩) (wrap64 (left - (x.length : Int))) rfl trivial (ok_then h (fun v0 h hv0 => (have h := ok_ret h; h)) (fun q0 h => (have h := ok_ret h; h))))))

/-! 21: loop.example/tablehouse/laws.szTable -/
def c21 : Con := ⟨[.dat TTable, .dat (Ty.int .i64)], fun args hp K => args2 (fun a0 a1 => withD TTable a0 fun x => withD (Ty.int .i64) a1 fun left => (Ln TTable x) ∧ (0 ≤ left) ∧ (left ≤ 1048576) ∧ K (.data (Ty.int .i64) (M.szTable x left)) []) args hp⟩
def cons21 : Cons := [(47, c47), (48, c48)]
def inl21 : List (Nat × Inl) := []
@[reducible] def C21 : Ctx := ⟨tab, fun t => memN t cmps, cons21, 18, inl21, 0⟩
theorem consOk21 : ConsOk P C21 := by
  refine consOk_cons (enter_ok (fn := Go.Proofs.Tryz.f47) Go.Proofs.Tryz.func47 (by kernel_rfl) rfl) con47_ok ?_
  refine consOk_cons (enter_ok (fn := Go.Proofs.Tryz.f48) Go.Proofs.Tryz.func48 (by kernel_rfl) rfl) con48_ok ?_
  exact consOk_nil
def ann21 : Nat → List Dir
  | 0 => [.fixRow 2 TTable, .keep [1, 2]]
  | 1 => [.keep [1, 2]]
  | 2 => [.keep [1, 2, 10]]
  | 3 => [.keep [4]]
  | 4 => [.keep [1]]
  | 5 => [.keep [1, 16]]
  | 6 => [.keep [4]]
  | 7 => [.keep [4]]
  | _ => []
def L21 (x : (TTable).D) (left : Int) : Loops := fun id m st_ K => match id with
  | _ => False
theorem vc21 (x : (TTable).D) (left : Int) (K : AV → Hp → Prop) : awp C21 (L21 x left) ann21 (bodyOf Go.Proofs.Tryz.f21) ⟨argEnv 0 [.data TTable x, .data (Ty.int .i64) left], []⟩ (outK tab Go.Proofs.Tryz.f21.results.toList (hasBox []) (resK (.dat (Ty.int .i64)) K)) =
  ((Ln (Ty.sl TColumn) x.1) ∧ (0 ≤ left) ∧ (left ≤ 1048576) ∧ cond (decide ((M.szLen x.1.length left) < (0 : Int))) (K (.data (Ty.int .i64) (-1 : Int)) []) ((Ln (Ty.sl (Ty.sl TValue)) x.2.1) ∧ (0 ≤ (M.szLen x.1.length left)) ∧ ((M.szLen x.1.length left) ≤ 1048576) ∧ cond (decide ((M.szS (M.szS M.szValue) x.2.1 (M.szLen x.1.length left)) < (0 : Int))) (K (.data (Ty.int .i64) (-1 : Int)) []) (K (.data (Ty.int .i64) (M.szS (M.szS M.szValue) x.2.1 (M.szLen x.1.length left))) []))) := by kernel_rfl
theorem con21_ok : ConOk P 21 c21 := by
  refine con_okR (fn := Go.Proofs.Tryz.f21) (code := bodyOf Go.Proofs.Tryz.f21) (tab_ok tab_check cmp_check) consOk21 mixed Go.Proofs.Tryz.func21 rfl rfl fun args hp K h0 => ?_
  obtain ⟨a0, a1, rfl, rfl, h1⟩ := args2_elim h0
  obtain ⟨x, rfl, h2⟩ := withD_elim h1
  obtain ⟨left, rfl, h3⟩ := withD_elim h2
  obtain ⟨h_x, p0, p1, hK⟩ := h3
  have h : ok (F.laws_szTable x left) (fun r => K (.data (Ty.int .i64) r) []) := ok_of_eq (F.laws_szTable_eq x left h_x p0 p1) hK
  refine ⟨⟨show (2 : Nat) ≤ 18 by decide, show (2 : Nat) ≤ 1000000 by decide⟩, ann21, (L21 x left), (.dat (Ty.int .i64)), (no_loops (by kernel_rfl)), ?_⟩
  · rw [vc21 x left K]
    exact ⟨h_x.1, ⟨p0, ⟨p1, (ok_cond h (fun b_1 h => (have h := ok_ret h; h)) (fun b_1 h => ⟨h_x.2.1, ⟨(ok_guard h).1, have g_2 := (ok_guard h).1; have h := (ok_guard h).2; ⟨(ok_guard h).1, have g_3 := (ok_guard h).1; have h := (ok_guard h).2; (ok_cond h (fun b_4 h => (have h := ok_ret h; h)) (fun b_4 h => (have h := ok_ret h; h)))⟩⟩⟩))⟩⟩⟩

/-! 5: loop.example/tablehouse/laws.szTableS -/
def c5 : Con := ⟨[.dat (Ty.sl TTable), .dat (Ty.int .i64)], fun args hp K => args2 (fun a0 a1 => withD (Ty.sl TTable) a0 fun x => withD (Ty.int .i64) a1 fun left => (Ln (Ty.sl TTable) x) ∧ (0 ≤ left) ∧ (left ≤ 1048576) ∧ K (.data (Ty.int .i64) (M.szS M.szTable x left)) []) args hp⟩
def cons5 : Cons := [(21, c21)]
def inl5 : List (Nat × Inl) := []
@[reducible] def C5 : Ctx := ⟨tab, fun t => memN t cmps, cons5, 27, inl5, 0⟩
theorem consOk5 : ConsOk P C5 := by
  refine consOk_cons (enter_ok (fn := Go.Proofs.Tryz.f21) Go.Proofs.Tryz.func21 (by kernel_rfl) rfl) con21_ok ?_
  exact consOk_nil
def ann5 : Nat → List Dir
  | 0 => [.keep [0, 1]]
  | 1 => [.keep [0, 1]]
  | 2 => [.keep [0, 1, 11]]
  | 3 => [.keep [4]]
  | 4 => [.keep [0, 1, 5]]
  | 5 => [.keep [0, 1, 5, 15]]
  | 6 => [.keep [0, 1, 5]]
  | 7 => [.keep [0, 1, 5]]
  | 8 => [.keep [0, 1, 5, 25]]
  | 9 => [.keep [4]]
  | 10 => [.keep [4]]
  | 100000 => [.keep [1]]
  | _ => []
@[reducible] def LP5_0 (x : (List (TTable).D)) (left : Int) (m : Nat) (st_ : St) (K : X → St → Prop) : Prop := (True) ∧ LoopE (t := TTable) (fun (i0 : Int) (v0 : Int) => (⟨[(0, .data (Ty.sl TTable) x), (1, .data (Ty.int .i64) v0), (5, .data (Ty.int .i64) i0)], []⟩ : St)) x (F.laws_szTableS_l0 x left) (fun v0 : Int => True) (outD (fun v0 : Int => True → K (.exit 0) (⟨[(1, .data (Ty.int .i64) v0)], []⟩ : St)) (fun q0 : Unit => K .ret (⟨[(4, .data (Ty.int .i64) (-1 : Int))], []⟩ : St))) m st_
def L5 (x : (List (TTable).D)) (left : Int) : Loops := fun id m st_ K => match id with
  | 0 => LP5_0 x left m st_ K
  | _ => False
theorem vc5 (x : (List (TTable).D)) (left : Int) (K : AV → Hp → Prop) : awp C5 (L5 x left) ann5 (bodyOf Go.Proofs.Tryz.f5) ⟨argEnv 0 [.data (Ty.sl TTable) x, .data (Ty.int .i64) left], []⟩ (outK tab Go.Proofs.Tryz.f5.results.toList (hasBox []) (resK (.dat (Ty.int .i64)) K)) =
  (cond (decide (wrap64 (left - (x.length : Int)) < (0 : Int))) (K (.data (Ty.int .i64) (-1 : Int)) []) ((∃ m_, (True) ∧ LoopE (t := TTable) (fun (i0 : Int) (v0 : Int) => (⟨[(0, .data (Ty.sl TTable) x), (1, .data (Ty.int .i64) v0), (5, .data (Ty.int .i64) i0)], []⟩ : St)) x (F.laws_szTableS_l0 x left) (fun v0 : Int => True) (outD (fun v0 : Int => True → K (.data (Ty.int .i64) v0) []) (fun q0 : Unit => K (.data (Ty.int .i64) (-1 : Int)) [])) m_ (⟨[(0, .data (Ty.sl TTable) x), (1, .data (Ty.int .i64) (wrap64 (left - (x.length : Int)))), (5, .data (Ty.int .i64) (0 : Int))], []⟩ : St)))) := by kernel_rfl
theorem lvc5_0 (x : (List (TTable).D)) (left : Int)  (i0 : Int) (v0 : Int) (m : Nat) (K : X → St → Prop) : awp C5 (L5 x left) ann5 (loopAt (bodyOf Go.Proofs.Tryz.f5) 0) (⟨[(0, .data (Ty.sl TTable) x), (1, .data (Ty.int .i64) v0), (5, .data (Ty.int .i64) i0)], []⟩ : St) (thenW (fun s' => ∃ m', m' < m ∧ (L5 x left) 0 m' s' K) (exitN 0 (ann5 (behind 0)) K)) =
  (cond (decide (i0 < (x.length : Int))) ((0 ≤ i0) ∧ (i0 < (x.length : Int)) ∧ (Ln TTable (nth (t := TTable) x i0)) ∧ (0 ≤ v0) ∧ (v0 ≤ 1048576) ∧ cond (decide ((M.szTable (nth (t := TTable) x i0) v0) < (0 : Int))) (K .ret (⟨[(4, .data (Ty.int .i64) (-1 : Int))], []⟩ : St)) ((∃ m_, m_ < m ∧ (L5 x left) 0 m_ (⟨[(0, .data (Ty.sl TTable) x), (1, .data (Ty.int .i64) (M.szTable (nth (t := TTable) x i0) v0)), (5, .data (Ty.int .i64) (wrap64 (i0 + (1 : Int))))], []⟩ : St) K))) (K (.exit 0) (⟨[(1, .data (Ty.int .i64) v0)], []⟩ : St))) := by kernel_rfl
theorem con5_ok : ConOk P 5 c5 := by
  refine con_okR (fn := Go.Proofs.Tryz.f5) (code := bodyOf Go.Proofs.Tryz.f5) (tab_ok tab_check cmp_check) consOk5 mixed Go.Proofs.Tryz.func5 rfl rfl fun args hp K h0 => ?_
  obtain ⟨a0, a1, rfl, rfl, h1⟩ := args2_elim h0
  obtain ⟨x, rfl, h2⟩ := withD_elim h1
  obtain ⟨left, rfl, h3⟩ := withD_elim h2
  obtain ⟨h_x, p0, p1, hK⟩ := h3
  have h : ok (F.laws_szTableS x left) (fun r => K (.data (Ty.int .i64) r) []) := ok_of_eq (F.laws_szTableS_eq x left h_x p0 p1) hK
  refine ⟨⟨show (2 : Nat) ≤ 27 by decide, show (2 : Nat) ≤ 1000000 by decide⟩, ann5, (L5 x left), (.dat (Ty.int .i64)), (loopsN1 (i0 := 0) (by kernel_rfl) ?_), ?_⟩
  · clear h
    intro m_ s_ K_ h
    obtain ⟨hc0, i0, v0, rfl, hl0, rfl, hv0, h⟩ := (show LP5_0 x left m_ s_ K_ from h)
    rw [lvc5_0 x left i0 v0 _ K_]
    exact (loopE_step (t := TTable) hl0 h (fun ht0 h => ⟨hl0, ⟨ht0, ⟨(sm_nth h_x i0), ⟨(ok_guard h).1, have g_14 := (ok_guard h).1; have h := (ok_guard h).2; ⟨(ok_guard h).1, have g_15 := (ok_guard h).1; have h := (ok_guard h).2; (ok_cond h (fun b_16 h => (have h := ok_ret h; h)) (fun b_16 h => (loopE_next (t := TTable) (fun m hm => (show LP5_0 x left m _ _ from ⟨hc0, hm⟩)) (M.szTable (nth (t := TTable) x i0) v0) rfl hl0 ht0 (sm_len h_x) trivial (have h := ok_ret h; h))))⟩⟩⟩⟩⟩) (fun h => (h trivial)))
  · rw [vc5 x left K]
    exact (ok_cond h (fun b_1 h => (have h := ok_ret h; h)) (fun b_1 h => (loopE_start (t := TTable) (fun m hm => ⟨trivial, hm⟩) (wrap64 (left - (x.length : Int))) rfl trivial (ok_then h (fun v0 h hv0 => (have h := ok_ret h; h)) (fun q0 h => (have h := ok_ret h; h))))))

/-! 22: loop.example/tablehouse/laws.szIntS -/
def c22 : Con := ⟨[.dat (Ty.sl (Ty.int .i64)), .dat (Ty.int .i64)], fun args hp K => args2 (fun a0 a1 => withD (Ty.sl (Ty.int .i64)) a0 fun x => withD (Ty.int .i64) a1 fun left => (Ln (Ty.sl (Ty.int .i64)) x) ∧ (0 ≤ left) ∧ (left ≤ 1048576) ∧ K (.data (Ty.int .i64) (M.szLen x.length left)) []) args hp⟩
def cons22 : Cons := []
def inl22 : List (Nat × Inl) := []
@[reducible] def C22 : Ctx := ⟨tab, fun t => memN t cmps, cons22, 12, inl22, 0⟩
theorem consOk22 : ConsOk P C22 := by
  exact consOk_nil
def ann22 : Nat → List Dir
  | 0 => [.keep [0, 1]]
  | 1 => [.keep [1]]
  | 2 => [.keep [1, 10]]
  | 3 => [.keep [4]]
  | 4 => [.keep [4]]
  | _ => []
def L22 (x : (List Int)) (left : Int) : Loops := fun id m st_ K => match id with
  | _ => False
theorem vc22 (x : (List Int)) (left : Int) (K : AV → Hp → Prop) : awp C22 (L22 x left) ann22 (bodyOf Go.Proofs.Tryz.f22) ⟨argEnv 0 [.data (Ty.sl (Ty.int .i64)) x, .data (Ty.int .i64) left], []⟩ (outK tab Go.Proofs.Tryz.f22.results.toList (hasBox []) (resK (.dat (Ty.int .i64)) K)) =
  (cond (decide (wrap64 (left - (x.length : Int)) < (0 : Int))) (K (.data (Ty.int .i64) (-1 : Int)) []) (K (.data (Ty.int .i64) (wrap64 (left - (x.length : Int)))) [])) := by kernel_rfl
theorem con22_ok : ConOk P 22 c22 := by
  refine con_okR (fn := Go.Proofs.Tryz.f22) (code := bodyOf Go.Proofs.Tryz.f22) (tab_ok tab_check cmp_check) consOk22 mixed Go.Proofs.Tryz.func22 rfl rfl fun args hp K h0 => ?_
  obtain ⟨a0, a1, rfl, rfl, h1⟩ := args2_elim h0
  obtain ⟨x, rfl, h2⟩ := withD_elim h1
  obtain ⟨left, rfl, h3⟩ := withD_elim h2
  obtain ⟨h_x, p0, p1, hK⟩ := h3
  have h : ok (F.laws_szIntS x left) (fun r => K (.data (Ty.int .i64) r) []) := ok_of_eq (F.laws_szIntS_eq x left h_x p0 p1) hK
  refine ⟨⟨show (2 : Nat) ≤ 12 by decide, show (2 : Nat) ≤ 1000000 by decide⟩, ann22, (L22 x left), (.dat (Ty.int .i64)), (no_loops (by kernel_rfl)), ?_⟩
  · rw [vc22 x left K]
    exact (ok_cond h (fun b_1 h => (have h := ok_ret h; h)) (fun b_1 h => (have h := ok_ret h; h)))

/-! 49: loop.example/tablehouse/laws.szPart -/
def c49 : Con := ⟨[.dat TPart, .dat (Ty.int .i64)], fun args hp K => args2 (fun a0 a1 => withD TPart a0 fun x => withD (Ty.int .i64) a1 fun left => (Ln TPart x) ∧ (0 ≤ left) ∧ (left ≤ 1048576) ∧ K (.data (Ty.int .i64) (M.szPart x left)) []) args hp⟩
def cons49 : Cons := [(77, c77)]
def inl49 : List (Nat × Inl) := []
@[reducible] def C49 : Ctx := ⟨tab, fun t => memN t cmps, cons49, 12, inl49, 0⟩
theorem consOk49 : ConsOk P C49 := by
  refine consOk_cons (enter_ok (fn := Go.Proofs.Tryz.f77) Go.Proofs.Tryz.func77 (by kernel_rfl) rfl) con77_ok ?_
  exact consOk_nil
def ann49 : Nat → List Dir
  | 0 => [.fixRow 2 TPart, .keep [1, 2]]
  | 1 => [.keep [1]]
  | 2 => [.keep [1, 10]]
  | 3 => [.keep [4]]
  | 4 => [.keep [4]]
  | _ => []
def L49 (x : (TPart).D) (left : Int) : Loops := fun id m st_ K => match id with
  | _ => False
theorem vc49 (x : (TPart).D) (left : Int) (K : AV → Hp → Prop) : awp C49 (L49 x left) ann49 (bodyOf Go.Proofs.Tryz.f49) ⟨argEnv 0 [.data TPart x, .data (Ty.int .i64) left], []⟩ (outK tab Go.Proofs.Tryz.f49.results.toList (hasBox []) (resK (.dat (Ty.int .i64)) K)) =
  ((Ln TValue x.2.2.1) ∧ (0 ≤ left) ∧ (left ≤ 1048576) ∧ cond (decide ((M.szValue x.2.2.1 left) < (0 : Int))) (K (.data (Ty.int .i64) (-1 : Int)) []) (K (.data (Ty.int .i64) (M.szValue x.2.2.1 left)) [])) := by kernel_rfl
theorem con49_ok : ConOk P 49 c49 := by
  refine con_okR (fn := Go.Proofs.Tryz.f49) (code := bodyOf Go.Proofs.Tryz.f49) (tab_ok tab_check cmp_check) consOk49 mixed Go.Proofs.Tryz.func49 rfl rfl fun args hp K h0 => ?_
  obtain ⟨a0, a1, rfl, rfl, h1⟩ := args2_elim h0
  obtain ⟨x, rfl, h2⟩ := withD_elim h1
  obtain ⟨left, rfl, h3⟩ := withD_elim h2
  obtain ⟨h_x, p0, p1, hK⟩ := h3
  have h : ok (F.laws_szPart x left) (fun r => K (.data (Ty.int .i64) r) []) := ok_of_eq (F.laws_szPart_eq x left h_x p0 p1) hK
  refine ⟨⟨show (2 : Nat) ≤ 12 by decide, show (2 : Nat) ≤ 1000000 by decide⟩, ann49, (L49 x left), (.dat (Ty.int .i64)), (no_loops (by kernel_rfl)), ?_⟩
  · rw [vc49 x left K]
    exact ⟨h_x.2.2.1, ⟨p0, ⟨p1, (ok_cond h (fun b_1 h => (have h := ok_ret h; h)) (fun b_1 h => (have h := ok_ret h; h)))⟩⟩⟩

/-! 23: loop.example/tablehouse/laws.szPartS -/
def c23 : Con := ⟨[.dat (Ty.sl TPart), .dat (Ty.int .i64)], fun args hp K => args2 (fun a0 a1 => withD (Ty.sl TPart) a0 fun x => withD (Ty.int .i64) a1 fun left => (Ln (Ty.sl TPart) x) ∧ (0 ≤ left) ∧ (left ≤ 1048576) ∧ K (.data (Ty.int .i64) (M.szS M.szPart x left)) []) args hp⟩
def cons23 : Cons := [(49, c49)]
def inl23 : List (Nat × Inl) := []
@[reducible] def C23 : Ctx := ⟨tab, fun t => memN t cmps, cons23, 27, inl23, 0⟩
theorem consOk23 : ConsOk P C23 := by
  refine consOk_cons (enter_ok (fn := Go.Proofs.Tryz.f49) Go.Proofs.Tryz.func49 (by kernel_rfl) rfl) con49_ok ?_
  exact consOk_nil
def ann23 : Nat → List Dir
  | 0 => [.keep [0, 1]]
  | 1 => [.keep [0, 1]]
  | 2 => [.keep [0, 1, 11]]
  | 3 => [.keep [4]]
  | 4 => [.keep [0, 1, 5]]
  | 5 => [.keep [0, 1, 5, 15]]
  | 6 => [.keep [0, 1, 5]]
  | 7 => [.keep [0, 1, 5]]
  | 8 => [.keep [0, 1, 5, 25]]
  | 9 => [.keep [4]]
  | 10 => [.keep [4]]
  | 100000 => [.keep [1]]
  | _ => []
@[reducible] def LP23_0 (x : (List (TPart).D)) (left : Int) (m : Nat) (st_ : St) (K : X → St → Prop) : Prop := (True) ∧ LoopE (t := TPart) (fun (i0 : Int) (v0 : Int) => (⟨[(0, .data (Ty.sl TPart) x), (1, .data (Ty.int .i64) v0), (5, .data (Ty.int .i64) i0)], []⟩ : St)) x (F.laws_szPartS_l0 x left) (fun v0 : Int => True) (outD (fun v0 : Int => True → K (.exit 0) (⟨[(1, .data (Ty.int .i64) v0)], []⟩ : St)) (fun q0 : Unit => K .ret (⟨[(4, .data (Ty.int .i64) (-1 : Int))], []⟩ : St))) m st_
def L23 (x : (List (TPart).D)) (left : Int) : Loops := fun id m st_ K => match id with
  | 0 => LP23_0 x left m st_ K
  | _ => False
theorem vc23 (x : (List (TPart).D)) (left : Int) (K : AV → Hp → Prop) : awp C23 (L23 x left) ann23 (bodyOf Go.Proofs.Tryz.f23) ⟨argEnv 0 [.data (Ty.sl TPart) x, .data (Ty.int .i64) left], []⟩ (outK tab Go.Proofs.Tryz.f23.results.toList (hasBox []) (resK (.dat (Ty.int .i64)) K)) =
  (cond (decide (wrap64 (left - (x.length : Int)) < (0 : Int))) (K (.data (Ty.int .i64) (-1 : Int)) []) ((∃ m_, (True) ∧ LoopE (t := TPart) (fun (i0 : Int) (v0 : Int) => (⟨[(0, .data (Ty.sl TPart) x), (1, .data (Ty.int .i64) v0), (5, .data (Ty.int .i64) i0)], []⟩ : St)) x (F.laws_szPartS_l0 x left) (fun v0 : Int => True) (outD (fun v0 : Int => True → K (.data (Ty.int .i64) v0) []) (fun q0 : Unit => K (.data (Ty.int .i64) (-1 : Int)) [])) m_ (⟨[(0, .data (Ty.sl TPart) x), (1, .data (Ty.int .i64) (wrap64 (left - (x.length : Int)))), (5, .data (Ty.int .i64) (0 : Int))], []⟩ : St)))) := by kernel_rfl
theorem lvc23_0 (x : (List (TPart).D)) (left : Int)  (i0 : Int) (v0 : Int) (m : Nat) (K : X → St → Prop) : awp C23 (L23 x left) ann23 (loopAt (bodyOf Go.Proofs.Tryz.f23) 0) (⟨[(0, .data (Ty.sl TPart) x), (1, .data (Ty.int .i64) v0), (5, .data (Ty.int .i64) i0)], []⟩ : St) (thenW (fun s' => ∃ m', m' < m ∧ (L23 x left) 0 m' s' K) (exitN 0 (ann23 (behind 0)) K)) =
  (cond (decide (i0 < (x.length : Int))) ((0 ≤ i0) ∧ (i0 < (x.length : Int)) ∧ (Ln TPart (nth (t := TPart) x i0)) ∧ (0 ≤ v0) ∧ (v0 ≤ 1048576) ∧ cond (decide ((M.szPart (nth (t := TPart) x i0) v0) < (0 : Int))) (K .ret (⟨[(4, .data (Ty.int .i64) (-1 : Int))], []⟩ : St)) ((∃ m_, m_ < m ∧ (L23 x left) 0 m_ (⟨[(0, .data (Ty.sl TPart) x), (1, .data (Ty.int .i64) (M.szPart (nth (t := TPart) x i0) v0)), (5, .data (Ty.int .i64) (wrap64 (i0 + (1 : Int))))], []⟩ : St) K))) (K (.exit 0) (⟨[(1, .data (Ty.int .i64) v0)], []⟩ : St))) := by kernel_rfl
theorem con23_ok : ConOk P 23 c23 := by
  refine con_okR (fn := Go.Proofs.Tryz.f23) (code := bodyOf Go.Proofs.Tryz.f23) (tab_ok tab_check cmp_check) consOk23 mixed Go.Proofs.Tryz.func23 rfl rfl fun args hp K h0 => ?_
  obtain ⟨a0, a1, rfl, rfl, h1⟩ := args2_elim h0
  obtain ⟨x, rfl, h2⟩ := withD_elim h1
  obtain ⟨left, rfl, h3⟩ := withD_elim h2
  obtain ⟨h_x, p0, p1, hK⟩ := h3
  have h : ok (F.laws_szPartS x left) (fun r => K (.data (Ty.int .i64) r) []) := ok_of_eq (F.laws_szPartS_eq x left h_x p0 p1) hK
  refine ⟨⟨show (2 : Nat) ≤ 27 by decide, show (2 : Nat) ≤ 1000000 by decide⟩, ann23, (L23 x left), (.dat (Ty.int .i64)), (loopsN1 (i0 := 0) (by kernel_rfl) ?_), ?_⟩
  · clear h
    intro m_ s_ K_ h
    obtain ⟨hc0, i0, v0, rfl, hl0, rfl, hv0, h⟩ := (show LP23_0 x left m_ s_ K_ from h)
    rw [lvc23_0 x left i0 v0 _ K_]
    exact (loopE_step (t := TPart) hl0 h (fun ht0 h => ⟨hl0, ⟨ht0, ⟨(sm_nth h_x i0), ⟨(ok_guard h).1, have g_14 := (ok_guard h).1; have h := (ok_guard h).2; ⟨(ok_guard h).1, have g_15 := (ok_guard h).1; have h := (ok_guard h).2; (ok_cond h (fun b_16 h => (have h := ok_ret h; h)) (fun b_16 h => (loopE_next (t := TPart) (fun m hm => (show LP23_0 x left m _ _ from ⟨hc0, hm⟩)) (M.szPart (nth (t := TPart) x i0) v0) rfl hl0 ht0 (sm_len h_x) trivial (have h := ok_ret h; h))))⟩⟩⟩⟩⟩) (fun h => (h trivial)))
  · rw [vc23 x left K]
    exact (ok_cond h (fun b_1 h => (have h := ok_ret h; h)) (fun b_1 h => (loopE_start (t := TPart) (fun m hm => ⟨trivial, hm⟩) (wrap64 (left - (x.length : Int))) rfl trivial (ok_then h (fun v0 h hv0 => (have h := ok_ret h; h)) (fun q0 h => (have h := ok_ret h; h))))))

/-! 6: loop.example/tablehouse/laws.szBond -/
def c6 : Con := ⟨[.dat TBond, .dat (Ty.int .i64)], fun args hp K => args2 (fun a0 a1 => withD TBond a0 fun x => withD (Ty.int .i64) a1 fun left => (Ln TBond x) ∧ (0 ≤ left) ∧ (left ≤ 1048576) ∧ K (.data (Ty.int .i64) (M.szBond x left)) []) args hp⟩
def cons6 : Cons := [(22, c22), (23, c23)]
def inl6 : List (Nat × Inl) := []
@[reducible] def C6 : Ctx := ⟨tab, fun t => memN t cmps, cons6, 24, inl6, 0⟩
theorem consOk6 : ConsOk P C6 := by
  refine consOk_cons (enter_ok (fn := Go.Proofs.Tryz.f22) Go.Proofs.Tryz.func22 (by kernel_rfl) rfl) con22_ok ?_
  refine consOk_cons (enter_ok (fn := Go.Proofs.Tryz.f23) Go.Proofs.Tryz.func23 (by kernel_rfl) rfl) con23_ok ?_
  exact consOk_nil
def ann6 : Nat → List Dir
  | 0 => [.fixRow 2 TBond, .keep [1, 2]]
  | 1 => [.keep [1, 2]]
  | 2 => [.keep [1, 2, 10]]
  | 3 => [.keep [4]]
  | 4 => [.keep [1, 2]]
  | 5 => [.keep [1, 2, 16]]
  | 6 => [.keep [4]]
  | 7 => [.keep [1]]
  | 8 => [.keep [1, 22]]
  | 9 => [.keep [4]]
  | 10 => [.keep [4]]
  | _ => []
def L6 (x : (TBond).D) (left : Int) : Loops := fun id m st_ K => match id with
  | _ => False
theorem vc6 (x : (TBond).D) (left : Int) (K : AV → Hp → Prop) : awp C6 (L6 x left) ann6 (bodyOf Go.Proofs.Tryz.f6) ⟨argEnv 0 [.data TBond x, .data (Ty.int .i64) left], []⟩ (outK tab Go.Proofs.Tryz.f6.results.toList (hasBox []) (resK (.dat (Ty.int .i64)) K)) =
  ((Ln (Ty.sl (Ty.int .i64)) x.2.2.1) ∧ (0 ≤ left) ∧ (left ≤ 1048576) ∧ cond (decide ((M.szLen x.2.2.1.length left) < (0 : Int))) (K (.data (Ty.int .i64) (-1 : Int)) []) ((Ln (Ty.sl (Ty.int .i64)) x.2.2.2.2.1) ∧ (0 ≤ (M.szLen x.2.2.1.length left)) ∧ ((M.szLen x.2.2.1.length left) ≤ 1048576) ∧ cond (decide ((M.szLen x.2.2.2.2.1.length (M.szLen x.2.2.1.length left)) < (0 : Int))) (K (.data (Ty.int .i64) (-1 : Int)) []) ((Ln (Ty.sl TPart) x.2.2.2.2.2.2.1) ∧ (0 ≤ (M.szLen x.2.2.2.2.1.length (M.szLen x.2.2.1.length left))) ∧ ((M.szLen x.2.2.2.2.1.length (M.szLen x.2.2.1.length left)) ≤ 1048576) ∧ cond (decide ((M.szS M.szPart x.2.2.2.2.2.2.1 (M.szLen x.2.2.2.2.1.length (M.szLen x.2.2.1.length left))) < (0 : Int))) (K (.data (Ty.int .i64) (-1 : Int)) []) (K (.data (Ty.int .i64) (M.szS M.szPart x.2.2.2.2.2.2.1 (M.szLen x.2.2.2.2.1.length (M.szLen x.2.2.1.length left)))) [])))) := by kernel_rfl
theorem con6_ok : ConOk P 6 c6 := by
  refine con_okR (fn := Go.Proofs.Tryz.f6) (code := bodyOf Go.Proofs.Tryz.f6) (tab_ok tab_check cmp_check) consOk6 mixed Go.Proofs.Tryz.func6 rfl rfl fun args hp K h0 => ?_
  obtain ⟨a0, a1, rfl, rfl, h1⟩ := args2_elim h0
  obtain ⟨x, rfl, h2⟩ := withD_elim h1
  obtain ⟨left, rfl, h3⟩ := withD_elim h2
  obtain ⟨h_x, p0, p1, hK⟩ := h3
  have h : ok (F.laws_szBond x left) (fun r => K (.data (Ty.int .i64) r) []) := ok_of_eq (F.laws_szBond_eq x left h_x p0 p1) hK
  refine ⟨⟨show (2 : Nat) ≤ 24 by decide, show (2 : Nat) ≤ 1000000 by decide⟩, ann6, (L6 x left), (.dat (Ty.int .i64)), (no_loops (by kernel_rfl)), ?_⟩
  · rw [vc6 x left K]
    exact ⟨h_x.2.2.1, ⟨p0, ⟨p1, (ok_cond h (fun b_1 h => (have h := ok_ret h; h)) (fun b_1 h => ⟨h_x.2.2.2.2.1, ⟨(ok_guard h).1, have g_2 := (ok_guard h).1; have h := (ok_guard h).2; ⟨(ok_guard h).1, have g_3 := (ok_guard h).1; have h := (ok_guard h).2; (ok_cond h (fun b_4 h => (have h := ok_ret h; h)) (fun b_4 h => ⟨h_x.2.2.2.2.2.2.1, ⟨(ok_guard h).1, have g_5 := (ok_guard h).1; have h := (ok_guard h).2; ⟨(ok_guard h).1, have g_6 := (ok_guard h).1; have h := (ok_guard h).2; (ok_cond h (fun b_7 h => (have h := ok_ret h; h)) (fun b_7 h => (have h := ok_ret h; h)))⟩⟩⟩))⟩⟩⟩))⟩⟩⟩

/-! 51: loop.example/tablehouse/spec.l1In -/
def c51 : Con := ⟨[.dat (Ty.int .i64), .dat (Ty.int .i64), .dat (Ty.int .i64)], fun args hp K => args3 (fun a0 a1 a2 => withD (Ty.int .i64) a0 fun n => withD (Ty.int .i64) a1 fun low => withD (Ty.int .i64) a2 fun high => K (.data Ty.bool (M.inR n low high)) []) args hp⟩
def cons51 : Cons := []
def inl51 : List (Nat × Inl) := []
@[reducible] def C51 : Ctx := ⟨tab, fun t => memN t cmps, cons51, 15, inl51, 0⟩
theorem consOk51 : ConsOk P C51 := by
  exact consOk_nil
def ann51 : Nat → List Dir
  | 0 => [.keep [0, 1, 2]]
  | 1 => [.keep [6]]
  | _ => []
def L51 (n : Int) (low : Int) (high : Int) : Loops := fun id m st_ K => match id with
  | _ => False
theorem vc51 (n : Int) (low : Int) (high : Int) (K : AV → Hp → Prop) : awp C51 (L51 n low high) ann51 (bodyOf Go.Proofs.Tryz.f51) ⟨argEnv 0 [.data (Ty.int .i64) n, .data (Ty.int .i64) low, .data (Ty.int .i64) high], []⟩ (outK tab Go.Proofs.Tryz.f51.results.toList (hasBox []) (resK (.dat Ty.bool) K)) =
  (cond ((decide (low ≤ n)) == true) (K (.data Ty.bool (decide (n ≤ high))) []) (K (.data Ty.bool false) [])) := by kernel_rfl
theorem con51_ok : ConOk P 51 c51 := by
  refine con_okR (fn := Go.Proofs.Tryz.f51) (code := bodyOf Go.Proofs.Tryz.f51) (tab_ok tab_check cmp_check) consOk51 mixed Go.Proofs.Tryz.func51 rfl rfl fun args hp K h0 => ?_
  obtain ⟨a0, a1, a2, rfl, rfl, h1⟩ := args3_elim h0
  obtain ⟨n, rfl, h2⟩ := withD_elim h1
  obtain ⟨low, rfl, h3⟩ := withD_elim h2
  obtain ⟨high, rfl, h4⟩ := withD_elim h3
  have hK := h4
  have h : ok (F.spec_l1In n low high) (fun r => K (.data Ty.bool r) []) := ok_of_eq (F.spec_l1In_eq n low high) hK
  refine ⟨⟨show (3 : Nat) ≤ 15 by decide, show (3 : Nat) ≤ 1000000 by decide⟩, ann51, (L51 n low high), (.dat Ty.bool), (no_loops (by kernel_rfl)), ?_⟩
  · rw [vc51 n low high K]
    exact (ok_cond h (fun b_1 h => (have h := ok_ret h; h)) (fun b_1 h => (have h := ok_ret h; h)))

/-! 79: loop.example/tablehouse/spec.ColumnsOk -/
def c79 : Con := ⟨[.dat (Ty.sl TColumn)], fun args hp K => args1 (fun a0 => withD (Ty.sl TColumn) a0 fun columns => (Sm (Ty.sl TColumn) columns) ∧ K (.data Ty.bool (M.columnsOk columns)) []) args hp⟩
def cons79 : Cons := [(51, c51)]
def inl79 : List (Nat × Inl) := []
@[reducible] def C79 : Ctx := ⟨tab, fun t => memN t cmps, cons79, 20, inl79, 0⟩
theorem consOk79 : ConsOk P C79 := by
  refine consOk_cons (enter_ok (fn := Go.Proofs.Tryz.f51) Go.Proofs.Tryz.func51 (by kernel_rfl) rfl) con51_ok ?_
  exact consOk_nil
def ann79 : Nat → List Dir
  | 0 => [.keep [0]]
  | 1 => [.keep [0, 3]]
  | 2 => [.keep [0, 3, 7]]
  | 3 => [.keep [0, 3]]
  | 4 => [.keep [0, 3, 16]]
  | 5 => [.keep [2]]
  | 6 => [.keep [2]]
  | 100000 => [.keep [0]]
  | _ => []
@[reducible] def LP79_0 (columns : (List (TColumn).D)) (m : Nat) (st_ : St) (K : X → St → Prop) : Prop := (True) ∧ LoopE (t := TColumn) (fun (i0 : Int) (v0 : Unit) => (⟨[(0, .data (Ty.sl TColumn) columns), (3, .data (Ty.int .i64) i0)], []⟩ : St)) columns (F.spec_ColumnsOk_l0 columns) (fun v0 : Unit => True) (outD (fun v0 : Unit => True → K (.exit 0) (⟨[(0, .data (Ty.sl TColumn) columns)], []⟩ : St)) (fun q0 : Unit => K .ret (⟨[(2, .data Ty.bool false)], []⟩ : St))) m st_
def L79 (columns : (List (TColumn).D)) : Loops := fun id m st_ K => match id with
  | 0 => LP79_0 columns m st_ K
  | _ => False
theorem vc79 (columns : (List (TColumn).D)) (K : AV → Hp → Prop) : awp C79 (L79 columns) ann79 (bodyOf Go.Proofs.Tryz.f79) ⟨argEnv 0 [.data (Ty.sl TColumn) columns], []⟩ (outK tab Go.Proofs.Tryz.f79.results.toList (hasBox []) (resK (.dat Ty.bool) K)) =
  ((∃ m_, (True) ∧ LoopE (t := TColumn) (fun (i0 : Int) (v0 : Unit) => (⟨[(0, .data (Ty.sl TColumn) columns), (3, .data (Ty.int .i64) i0)], []⟩ : St)) columns (F.spec_ColumnsOk_l0 columns) (fun v0 : Unit => True) (outD (fun v0 : Unit => True → K (.data Ty.bool (decide ((columns.length : Int) ≤ (4 : Int)))) []) (fun q0 : Unit => K (.data Ty.bool false) [])) m_ (⟨[(0, .data (Ty.sl TColumn) columns), (3, .data (Ty.int .i64) (0 : Int))], []⟩ : St))) := by kernel_rfl
theorem lvc79_0 (columns : (List (TColumn).D))  (i0 : Int) (v0 : Unit) (m : Nat) (K : X → St → Prop) : awp C79 (L79 columns) ann79 (loopAt (bodyOf Go.Proofs.Tryz.f79) 0) (⟨[(0, .data (Ty.sl TColumn) columns), (3, .data (Ty.int .i64) i0)], []⟩ : St) (thenW (fun s' => ∃ m', m' < m ∧ (L79 columns) 0 m' s' K) (exitN 0 (ann79 (behind 0)) K)) =
  (cond (decide (i0 < (columns.length : Int))) ((0 ≤ i0) ∧ (i0 < (columns.length : Int)) ∧ cond (!(M.inR ((nth (t := TColumn) columns i0).1) (1 : Int) (3 : Int))) (K .ret (⟨[(2, .data Ty.bool false)], []⟩ : St)) ((∃ m_, m_ < m ∧ (L79 columns) 0 m_ (⟨[(0, .data (Ty.sl TColumn) columns), (3, .data (Ty.int .i64) (wrap64 (i0 + (1 : Int))))], []⟩ : St) K))) (K (.exit 0) (⟨[(0, .data (Ty.sl TColumn) columns)], []⟩ : St))) := by kernel_rfl
theorem con79_ok : ConOk P 79 c79 := by
  refine con_okR (fn := Go.Proofs.Tryz.f79) (code := bodyOf Go.Proofs.Tryz.f79) (tab_ok tab_check cmp_check) consOk79 mixed Go.Proofs.Tryz.func79 rfl rfl fun args hp K h0 => ?_
  obtain ⟨a0, rfl, rfl, h1⟩ := args1_elim h0
  obtain ⟨columns, rfl, h2⟩ := withD_elim h1
  obtain ⟨h_columns, hK⟩ := h2
  have h : ok (F.spec_ColumnsOk columns) (fun r => K (.data Ty.bool r) []) := ok_of_eq (F.spec_ColumnsOk_eq columns h_columns) hK
  refine ⟨⟨show (1 : Nat) ≤ 20 by decide, show (1 : Nat) ≤ 1000000 by decide⟩, ann79, (L79 columns), (.dat Ty.bool), (loopsN1 (i0 := 0) (by kernel_rfl) ?_), ?_⟩
  · clear h
    intro m_ s_ K_ h
    obtain ⟨hc0, i0, v0, rfl, hl0, rfl, hv0, h⟩ := (show LP79_0 columns m_ s_ K_ from h)
    rw [lvc79_0 columns i0 v0 _ K_]
    exact (loopE_step (t := TColumn) hl0 h (fun ht0 h => ⟨hl0, ⟨ht0, (ok_cond h (fun b_9 h => (have h := ok_ret h; h)) (fun b_9 h => (loopE_next (t := TColumn) (fun m hm => (show LP79_0 columns m _ _ from ⟨hc0, hm⟩)) () rfl hl0 ht0 (sm_len h_columns) trivial (have h := ok_ret h; h))))⟩⟩) (fun h => (h trivial)))
  · rw [vc79 columns K]
    exact (loopE_start (t := TColumn) (fun m hm => ⟨trivial, hm⟩) () rfl trivial (ok_then h (fun v0 h hv0 => (have h := ok_ret h; h)) (fun q0 h => (have h := ok_ret h; h))))

/-! 139: loop.example/tablehouse/spec.l1Text -/
def c139 : Con := ⟨[.dat Ty.str], fun args hp K => args1 (fun a0 => withD Ty.str a0 fun s => (Sm Ty.str s) ∧ K (.data Ty.bool (M.text s)) []) args hp⟩
def cons139 : Cons := []
def inl139 : List (Nat × Inl) := []
@[reducible] def C139 : Ctx := ⟨tab, fun t => memN t cmps, cons139, 23, inl139, 0⟩
theorem consOk139 : ConsOk P C139 := by
  exact consOk_nil
def ann139 : Nat → List Dir
  | 0 => [.keep [0]]
  | 1 => [.keep [0, 3]]
  | 2 => [.keep [0, 3, 7]]
  | 3 => [.keep [0, 3]]
  | 4 => [.keep [0, 3, 19]]
  | 5 => [.keep [2]]
  | 6 => [.keep [2]]
  | 100000 => [.keep [0]]
  | _ => []
@[reducible] def LP139_0 (s : ByteArray) (m : Nat) (st_ : St) (K : X → St → Prop) : Prop := (True) ∧ LoopI (fun (i0 : Int) (v0 : Unit) => (⟨[(0, .data Ty.str s), (3, .data (Ty.int .i64) i0)], []⟩ : St)) (0 : Int) (s.size : Int) (F.spec_l1Text_l0 s) (fun v0 : Unit => True) (outD (fun v0 : Unit => True → K (.exit 0) (⟨[(0, .data Ty.str s)], []⟩ : St)) (fun q0 : Unit => K .ret (⟨[(2, .data Ty.bool false)], []⟩ : St))) m st_
def L139 (s : ByteArray) : Loops := fun id m st_ K => match id with
  | 0 => LP139_0 s m st_ K
  | _ => False
theorem vc139 (s : ByteArray) (K : AV → Hp → Prop) : awp C139 (L139 s) ann139 (bodyOf Go.Proofs.Tryz.f139) ⟨argEnv 0 [.data Ty.str s], []⟩ (outK tab Go.Proofs.Tryz.f139.results.toList (hasBox []) (resK (.dat Ty.bool) K)) =
  ((∃ m_, (True) ∧ LoopI (fun (i0 : Int) (v0 : Unit) => (⟨[(0, .data Ty.str s), (3, .data (Ty.int .i64) i0)], []⟩ : St)) (0 : Int) (s.size : Int) (F.spec_l1Text_l0 s) (fun v0 : Unit => True) (outD (fun v0 : Unit => True → K (.data Ty.bool (decide ((s.size : Int) ≤ (6 : Int)))) []) (fun q0 : Unit => K (.data Ty.bool false) [])) m_ (⟨[(0, .data Ty.str s), (3, .data (Ty.int .i64) (0 : Int))], []⟩ : St))) := by kernel_rfl
theorem lvc139_0 (s : ByteArray)  (i0 : Int) (v0 : Unit) (m : Nat) (K : X → St → Prop) : awp C139 (L139 s) ann139 (loopAt (bodyOf Go.Proofs.Tryz.f139) 0) (⟨[(0, .data Ty.str s), (3, .data (Ty.int .i64) i0)], []⟩ : St) (thenW (fun s' => ∃ m', m' < m ∧ (L139 s) 0 m' s' K) (exitN 0 (ann139 (behind 0)) K)) =
  (cond (decide (i0 < (s.size : Int))) ((0 ≤ i0) ∧ (i0 < (s.size : Int)) ∧ cond ((decide (((s.get! i0.toNat).toNat : Int) < (97 : Int))) == false) ((0 ≤ i0) ∧ (i0 < (s.size : Int)) ∧ cond (decide ((122 : Int) < ((s.get! i0.toNat).toNat : Int))) (K .ret (⟨[(2, .data Ty.bool false)], []⟩ : St)) ((∃ m_, m_ < m ∧ (L139 s) 0 m_ (⟨[(0, .data Ty.str s), (3, .data (Ty.int .i64) (wrap64 (i0 + (1 : Int))))], []⟩ : St) K))) (K .ret (⟨[(2, .data Ty.bool false)], []⟩ : St))) (K (.exit 0) (⟨[(0, .data Ty.str s)], []⟩ : St))) := by kernel_rfl
theorem con139_ok : ConOk P 139 c139 := by
  refine con_okR (fn := Go.Proofs.Tryz.f139) (code := bodyOf Go.Proofs.Tryz.f139) (tab_ok tab_check cmp_check) consOk139 mixed Go.Proofs.Tryz.func139 rfl rfl fun args hp K h0 => ?_
  obtain ⟨a0, rfl, rfl, h1⟩ := args1_elim h0
  obtain ⟨s, rfl, h2⟩ := withD_elim h1
  obtain ⟨h_s, hK⟩ := h2
  have h : ok (F.spec_l1Text s) (fun r => K (.data Ty.bool r) []) := ok_of_eq (F.spec_l1Text_eq s h_s) hK
  refine ⟨⟨show (1 : Nat) ≤ 23 by decide, show (1 : Nat) ≤ 1000000 by decide⟩, ann139, (L139 s), (.dat Ty.bool), (loopsN1 (i0 := 0) (by kernel_rfl) ?_), ?_⟩
  · clear h
    intro m_ s_ K_ h
    obtain ⟨hc0, i0, v0, rfl, hl0, rfl, hv0, h⟩ := (show LP139_0 s m_ s_ K_ from h)
    rw [lvc139_0 s i0 v0 _ K_]
    exact (loopI_step h (fun ht0 h => ⟨hl0, ⟨ht0, (ok_cond h (fun b_11 h => ⟨hl0, ⟨ht0, (ok_cond h (fun b_12 h => (have h := ok_ret h; h)) (fun b_12 h => (loopI_next (fun m hm => (show LP139_0 s m _ _ from ⟨hc0, hm⟩)) () rfl hl0 low0 ht0 (sm_size h_s) trivial (have h := ok_ret h; h))))⟩⟩) (fun b_11 h => (have h := ok_ret h; h)))⟩⟩) (fun h => (h trivial)))
  · rw [vc139 s K]
    exact (loopI_start (fun m hm => ⟨trivial, hm⟩) (0 : Int) () rfl (Int.natCast_nonneg 0) trivial (ok_then h (fun v0 h hv0 => (have h := ok_ret h; h)) (fun q0 h => (have h := ok_ret h; h))))

/-! 110: loop.example/tablehouse/spec.ValueOk -/
def c110 : Con := ⟨[.dat TValue], fun args hp K => args1 (fun a0 => withD TValue a0 fun v => (Sm TValue v) ∧ K (.data Ty.bool (M.valueOk v)) []) args hp⟩
def cons110 : Cons := [(51, c51), (139, c139)]
def inl110 : List (Nat × Inl) := []
@[reducible] def C110 : Ctx := ⟨tab, fun t => memN t cmps, cons110, 45, inl110, 0⟩
theorem consOk110 : ConsOk P C110 := by
  refine consOk_cons (enter_ok (fn := Go.Proofs.Tryz.f51) Go.Proofs.Tryz.func51 (by kernel_rfl) rfl) con51_ok ?_
  refine consOk_cons (enter_ok (fn := Go.Proofs.Tryz.f139) Go.Proofs.Tryz.func139 (by kernel_rfl) rfl) con139_ok ?_
  exact consOk_nil
def ann110 : Nat → List Dir
  | 0 => [.fixRow 1 TValue, .keep [1]]
  | 1 => [.keep [1, 4]]
  | 2 => [.keep [1, 4, 5]]
  | 3 => [.keep [2]]
  | 4 => [.keep [1, 4, 15]]
  | 5 => [.keep [2]]
  | 6 => [.keep [1, 4, 25]]
  | 7 => [.keep [2]]
  | 8 => [.keep [1, 35]]
  | 9 => [.keep [2]]
  | 10 => [.keep [2]]
  | _ => []
def L110 (v : (TValue).D) : Loops := fun id m st_ K => match id with
  | _ => False
theorem vc110 (v : (TValue).D) (K : AV → Hp → Prop) : awp C110 (L110 v) ann110 (bodyOf Go.Proofs.Tryz.f110) ⟨argEnv 0 [.data TValue v], []⟩ (outK tab Go.Proofs.Tryz.f110.results.toList (hasBox []) (resK (.dat Ty.bool) K)) =
  (cond (decide (v.1 = (0 : Int))) (cond ((decide (v.2.1 = (0 : Int))) == true) (K (.data Ty.bool (decide (v.2.2.1 = (⟨#[]⟩ : ByteArray)))) []) (K (.data Ty.bool false) [])) (cond (decide (v.1 = (1 : Int))) (cond ((M.inR v.2.1 (-9999 : Int) (9999 : Int)) == true) (K (.data Ty.bool (decide (v.2.2.1 = (⟨#[]⟩ : ByteArray)))) []) (K (.data Ty.bool false) [])) (cond (decide (v.1 = (2 : Int))) (cond ((decide (v.2.1 = (0 : Int))) == true) ((Sm Ty.str v.2.2.1) ∧ K (.data Ty.bool (M.text v.2.2.1)) []) (K (.data Ty.bool false) [])) (cond (decide (v.1 = (3 : Int))) (cond ((M.inR v.2.1 (0 : Int) (1 : Int)) == true) (K (.data Ty.bool (decide (v.2.2.1 = (⟨#[]⟩ : ByteArray)))) []) (K (.data Ty.bool false) [])) (K (.data Ty.bool false) []))))) := by kernel_rfl
theorem con110_ok : ConOk P 110 c110 := by
  refine con_okR (fn := Go.Proofs.Tryz.f110) (code := bodyOf Go.Proofs.Tryz.f110) (tab_ok tab_check cmp_check) consOk110 mixed Go.Proofs.Tryz.func110 rfl rfl fun args hp K h0 => ?_
  obtain ⟨a0, rfl, rfl, h1⟩ := args1_elim h0
  obtain ⟨v, rfl, h2⟩ := withD_elim h1
  obtain ⟨h_v, hK⟩ := h2
  have h : ok (F.spec_ValueOk v) (fun r => K (.data Ty.bool r) []) := ok_of_eq (F.spec_ValueOk_eq v h_v) hK
  refine ⟨⟨show (1 : Nat) ≤ 45 by decide, show (1 : Nat) ≤ 1000000 by decide⟩, ann110, (L110 v), (.dat Ty.bool), (no_loops (by kernel_rfl)), ?_⟩
  · rw [vc110 v K]
    exact (ok_cond h (fun b_1 h => (ok_cond h (fun b_2 h => (have h := ok_ret h; h)) (fun b_2 h => (have h := ok_ret h; h)))) (fun b_1 h => (ok_cond h (fun b_3 h => (ok_cond h (fun b_4 h => (have h := ok_ret h; h)) (fun b_4 h => (have h := ok_ret h; h)))) (fun b_3 h => (ok_cond h (fun b_5 h => (ok_cond h (fun b_6 h => ⟨h_v.2.2.1, (have h := ok_ret h; h)⟩) (fun b_6 h => (have h := ok_ret h; h)))) (fun b_5 h => (ok_cond h (fun b_7 h => (ok_cond h (fun b_8 h => (have h := ok_ret h; h)) (fun b_8 h => (have h := ok_ret h; h)))) (fun b_7 h => (have h := ok_ret h; h)))))))))

/-! 138: loop.example/tablehouse/spec.RowOk -/
def c138 : Con := ⟨[.dat (Ty.sl TValue)], fun args hp K => args1 (fun a0 => withD (Ty.sl TValue) a0 fun row => (Sm (Ty.sl TValue) row) ∧ K (.data Ty.bool (M.rowOk row)) []) args hp⟩
def cons138 : Cons := [(110, c110)]
def inl138 : List (Nat × Inl) := []
@[reducible] def C138 : Ctx := ⟨tab, fun t => memN t cmps, cons138, 19, inl138, 0⟩
theorem consOk138 : ConsOk P C138 := by
  refine consOk_cons (enter_ok (fn := Go.Proofs.Tryz.f110) Go.Proofs.Tryz.func110 (by kernel_rfl) rfl) con110_ok ?_
  exact consOk_nil
def ann138 : Nat → List Dir
  | 0 => [.keep [0]]
  | 1 => [.keep [0, 3]]
  | 2 => [.keep [0, 3, 7]]
  | 3 => [.keep [0, 3]]
  | 4 => [.keep [0, 3, 15]]
  | 5 => [.keep [2]]
  | 6 => [.keep [2]]
  | 100000 => [.keep [0]]
  | _ => []
@[reducible] def LP138_0 (row : (List (TValue).D)) (m : Nat) (st_ : St) (K : X → St → Prop) : Prop := (True) ∧ LoopE (t := TValue) (fun (i0 : Int) (v0 : Unit) => (⟨[(0, .data (Ty.sl TValue) row), (3, .data (Ty.int .i64) i0)], []⟩ : St)) row (F.spec_RowOk_l0 row) (fun v0 : Unit => True) (outD (fun v0 : Unit => True → K (.exit 0) (⟨[(0, .data (Ty.sl TValue) row)], []⟩ : St)) (fun q0 : Unit => K .ret (⟨[(2, .data Ty.bool false)], []⟩ : St))) m st_
def L138 (row : (List (TValue).D)) : Loops := fun id m st_ K => match id with
  | 0 => LP138_0 row m st_ K
  | _ => False
theorem vc138 (row : (List (TValue).D)) (K : AV → Hp → Prop) : awp C138 (L138 row) ann138 (bodyOf Go.Proofs.Tryz.f138) ⟨argEnv 0 [.data (Ty.sl TValue) row], []⟩ (outK tab Go.Proofs.Tryz.f138.results.toList (hasBox []) (resK (.dat Ty.bool) K)) =
  ((∃ m_, (True) ∧ LoopE (t := TValue) (fun (i0 : Int) (v0 : Unit) => (⟨[(0, .data (Ty.sl TValue) row), (3, .data (Ty.int .i64) i0)], []⟩ : St)) row (F.spec_RowOk_l0 row) (fun v0 : Unit => True) (outD (fun v0 : Unit => True → K (.data Ty.bool (decide ((row.length : Int) ≤ (4 : Int)))) []) (fun q0 : Unit => K (.data Ty.bool false) [])) m_ (⟨[(0, .data (Ty.sl TValue) row), (3, .data (Ty.int .i64) (0 : Int))], []⟩ : St))) := by kernel_rfl
theorem lvc138_0 (row : (List (TValue).D))  (i0 : Int) (v0 : Unit) (m : Nat) (K : X → St → Prop) : awp C138 (L138 row) ann138 (loopAt (bodyOf Go.Proofs.Tryz.f138) 0) (⟨[(0, .data (Ty.sl TValue) row), (3, .data (Ty.int .i64) i0)], []⟩ : St) (thenW (fun s' => ∃ m', m' < m ∧ (L138 row) 0 m' s' K) (exitN 0 (ann138 (behind 0)) K)) =
  (cond (decide (i0 < (row.length : Int))) ((0 ≤ i0) ∧ (i0 < (row.length : Int)) ∧ (Sm TValue (nth (t := TValue) row i0)) ∧ cond (!(M.valueOk (nth (t := TValue) row i0))) (K .ret (⟨[(2, .data Ty.bool false)], []⟩ : St)) ((∃ m_, m_ < m ∧ (L138 row) 0 m_ (⟨[(0, .data (Ty.sl TValue) row), (3, .data (Ty.int .i64) (wrap64 (i0 + (1 : Int))))], []⟩ : St) K))) (K (.exit 0) (⟨[(0, .data (Ty.sl TValue) row)], []⟩ : St))) := by kernel_rfl
theorem con138_ok : ConOk P 138 c138 := by
  refine con_okR (fn := Go.Proofs.Tryz.f138) (code := bodyOf Go.Proofs.Tryz.f138) (tab_ok tab_check cmp_check) consOk138 mixed Go.Proofs.Tryz.func138 rfl rfl fun args hp K h0 => ?_
  obtain ⟨a0, rfl, rfl, h1⟩ := args1_elim h0
  obtain ⟨row, rfl, h2⟩ := withD_elim h1
  obtain ⟨h_row, hK⟩ := h2
  have h : ok (F.spec_RowOk row) (fun r => K (.data Ty.bool r) []) := ok_of_eq (F.spec_RowOk_eq row h_row) hK
  refine ⟨⟨show (1 : Nat) ≤ 19 by decide, show (1 : Nat) ≤ 1000000 by decide⟩, ann138, (L138 row), (.dat Ty.bool), (loopsN1 (i0 := 0) (by kernel_rfl) ?_), ?_⟩
  · clear h
    intro m_ s_ K_ h
    obtain ⟨hc0, i0, v0, rfl, hl0, rfl, hv0, h⟩ := (show LP138_0 row m_ s_ K_ from h)
    rw [lvc138_0 row i0 v0 _ K_]
    exact (loopE_step (t := TValue) hl0 h (fun ht0 h => ⟨hl0, ⟨ht0, ⟨(sm_nth h_row i0), (ok_cond h (fun b_9 h => (have h := ok_ret h; h)) (fun b_9 h => (loopE_next (t := TValue) (fun m hm => (show LP138_0 row m _ _ from ⟨hc0, hm⟩)) () rfl hl0 ht0 (sm_len h_row) trivial (have h := ok_ret h; h))))⟩⟩⟩) (fun h => (h trivial)))
  · rw [vc138 row K]
    exact (loopE_start (t := TValue) (fun m hm => ⟨trivial, hm⟩) () rfl trivial (ok_then h (fun v0 h hv0 => (have h := ok_ret h; h)) (fun q0 h => (have h := ok_ret h; h))))

/-! 109: loop.example/tablehouse/spec.RowFits -/
def c109 : Con := ⟨[.dat (Ty.sl TColumn), .dat (Ty.sl TValue)], fun args hp K => args2 (fun a0 a1 => withD (Ty.sl TColumn) a0 fun columns => withD (Ty.sl TValue) a1 fun row => (Sm (Ty.sl TColumn) columns) ∧ (Sm (Ty.sl TValue) row) ∧ K (.data Ty.bool (M.rowFits columns row)) []) args hp⟩
def cons109 : Cons := [(79, c79), (138, c138)]
def inl109 : List (Nat × Inl) := []
@[reducible] def C109 : Ctx := ⟨tab, fun t => memN t cmps, cons109, 54, inl109, 0⟩
theorem consOk109 : ConsOk P C109 := by
  refine consOk_cons (enter_ok (fn := Go.Proofs.Tryz.f79) Go.Proofs.Tryz.func79 (by kernel_rfl) rfl) con79_ok ?_
  refine consOk_cons (enter_ok (fn := Go.Proofs.Tryz.f138) Go.Proofs.Tryz.func138 (by kernel_rfl) rfl) con138_ok ?_
  exact consOk_nil
def ann109 : Nat → List Dir
  | 0 => [.keep [0, 1]]
  | 1 => [.keep [0, 1, 20]]
  | 2 => [.keep [4]]
  | 3 => [.keep [0, 1, 5]]
  | 4 => [.keep [0, 1, 5, 24]]
  | 5 => [.keep [0, 1, 5]]
  | 6 => [.keep [0, 1, 5, 53]]
  | 7 => [.keep [4]]
  | 8 => [.keep [4]]
  | 100000 => [.keep []]
  | _ => []
@[reducible] def LP109_0 (columns : (List (TColumn).D)) (row : (List (TValue).D)) (m : Nat) (st_ : St) (K : X → St → Prop) : Prop := (True) ∧ LoopI (fun (i0 : Int) (v0 : Unit) => (⟨[(0, .data (Ty.sl TColumn) columns), (1, .data (Ty.sl TValue) row), (5, .data (Ty.int .i64) i0)], []⟩ : St)) (0 : Int) (row.length : Int) (F.spec_RowFits_l0 columns row) (fun v0 : Unit => True) (outD (fun v0 : Unit => True → K (.exit 0) (⟨[], []⟩ : St)) (fun q0 : Unit => K .ret (⟨[(4, .data Ty.bool false)], []⟩ : St))) m st_
def L109 (columns : (List (TColumn).D)) (row : (List (TValue).D)) : Loops := fun id m st_ K => match id with
  | 0 => LP109_0 columns row m st_ K
  | _ => False
theorem vc109 (columns : (List (TColumn).D)) (row : (List (TValue).D)) (K : AV → Hp → Prop) : awp C109 (L109 columns row) ann109 (bodyOf Go.Proofs.Tryz.f109) ⟨argEnv 0 [.data (Ty.sl TColumn) columns, .data (Ty.sl TValue) row], []⟩ (outK tab Go.Proofs.Tryz.f109.results.toList (hasBox []) (resK (.dat Ty.bool) K)) =
  ((Sm (Ty.sl TColumn) columns) ∧ cond ((!(M.columnsOk columns)) == false) ((Sm (Ty.sl TValue) row) ∧ cond ((!(M.rowOk row)) == false) (cond (!decide ((row.length : Int) = (columns.length : Int))) (K (.data Ty.bool false) []) ((∃ m_, (True) ∧ LoopI (fun (i0 : Int) (v0 : Unit) => (⟨[(0, .data (Ty.sl TColumn) columns), (1, .data (Ty.sl TValue) row), (5, .data (Ty.int .i64) i0)], []⟩ : St)) (0 : Int) (row.length : Int) (F.spec_RowFits_l0 columns row) (fun v0 : Unit => True) (outD (fun v0 : Unit => True → K (.data Ty.bool true) []) (fun q0 : Unit => K (.data Ty.bool false) [])) m_ (⟨[(0, .data (Ty.sl TColumn) columns), (1, .data (Ty.sl TValue) row), (5, .data (Ty.int .i64) (0 : Int))], []⟩ : St)))) (K (.data Ty.bool false) [])) (K (.data Ty.bool false) [])) := by kernel_rfl
theorem lvc109_0 (columns : (List (TColumn).D)) (row : (List (TValue).D))  (i0 : Int) (v0 : Unit) (m : Nat) (K : X → St → Prop) : awp C109 (L109 columns row) ann109 (loopAt (bodyOf Go.Proofs.Tryz.f109) 0) (⟨[(0, .data (Ty.sl TColumn) columns), (1, .data (Ty.sl TValue) row), (5, .data (Ty.int .i64) i0)], []⟩ : St) (thenW (fun s' => ∃ m', m' < m ∧ (L109 columns row) 0 m' s' K) (exitN 0 (ann109 (behind 0)) K)) =
  (cond (decide (i0 < (row.length : Int))) ((0 ≤ i0) ∧ (i0 < (row.length : Int)) ∧ (0 ≤ i0) ∧ (i0 < (columns.length : Int)) ∧ cond ((!decide ((nth (t := TValue) row i0).1 = (nth (t := TColumn) columns i0).1)) == true) ((0 ≤ i0) ∧ (i0 < (row.length : Int)) ∧ cond ((!decide ((nth (t := TValue) row i0).1 = (0 : Int))) == false) ((0 ≤ i0) ∧ (i0 < (columns.length : Int)) ∧ cond (!(((nth (t := TColumn) columns i0).2).1)) (K .ret (⟨[(4, .data Ty.bool false)], []⟩ : St)) ((∃ m_, m_ < m ∧ (L109 columns row) 0 m_ (⟨[(0, .data (Ty.sl TColumn) columns), (1, .data (Ty.sl TValue) row), (5, .data (Ty.int .i64) (wrap64 (i0 + (1 : Int))))], []⟩ : St) K))) (K .ret (⟨[(4, .data Ty.bool false)], []⟩ : St))) ((∃ m_, m_ < m ∧ (L109 columns row) 0 m_ (⟨[(0, .data (Ty.sl TColumn) columns), (1, .data (Ty.sl TValue) row), (5, .data (Ty.int .i64) (wrap64 (i0 + (1 : Int))))], []⟩ : St) K))) (K (.exit 0) (⟨[], []⟩ : St))) := by kernel_rfl
theorem con109_ok : ConOk P 109 c109 := by
  refine con_okR (fn := Go.Proofs.Tryz.f109) (code := bodyOf Go.Proofs.Tryz.f109) (tab_ok tab_check cmp_check) consOk109 mixed Go.Proofs.Tryz.func109 rfl rfl fun args hp K h0 => ?_
  obtain ⟨a0, a1, rfl, rfl, h1⟩ := args2_elim h0
  obtain ⟨columns, rfl, h2⟩ := withD_elim h1
  obtain ⟨row, rfl, h3⟩ := withD_elim h2
  obtain ⟨h_columns, h_row, hK⟩ := h3
  have h : ok (F.spec_RowFits columns row) (fun r => K (.data Ty.bool r) []) := ok_of_eq (F.spec_RowFits_eq columns row h_columns h_row) hK
  refine ⟨⟨show (2 : Nat) ≤ 54 by decide, show (2 : Nat) ≤ 1000000 by decide⟩, ann109, (L109 columns row), (.dat Ty.bool), (loopsN1 (i0 := 0) (by kernel_rfl) ?_), ?_⟩
  · clear h
    intro m_ s_ K_ h
    obtain ⟨hc0, i0, v0, rfl, hl0, rfl, hv0, h⟩ := (show LP109_0 columns row m_ s_ K_ from h)
    rw [lvc109_0 columns row i0 v0 _ K_]
    exact (loopI_step h (fun ht0 h => ⟨hl0, ⟨ht0, ⟨hl0, ⟨(ok_guard h).1, have g_18 := (ok_guard h).1; have h := (ok_guard h).2; (ok_cond h (fun b_19 h => ⟨hl0, ⟨ht0, (ok_cond h (fun b_20 h => ⟨hl0, ⟨g_18, (ok_cond h (fun b_21 h => (have h := ok_ret h; h)) (fun b_21 h => (loopI_next (fun m hm => (show LP109_0 columns row m _ _ from ⟨hc0, hm⟩)) () rfl hl0 low0 ht0 (sm_len h_row) trivial (have h := ok_ret h; h))))⟩⟩) (fun b_20 h => (have h := ok_ret h; h)))⟩⟩) (fun b_19 h => (loopI_next (fun m hm => (show LP109_0 columns row m _ _ from ⟨hc0, hm⟩)) () rfl hl0 low0 ht0 (sm_len h_row) trivial (have h := ok_ret h; h))))⟩⟩⟩⟩) (fun h => (h trivial)))
  · rw [vc109 columns row K]
    exact ⟨h_columns, (ok_cond h (fun b_1 h => ⟨h_row, (ok_cond h (fun b_2 h => (ok_cond h (fun b_3 h => (have h := ok_ret h; h)) (fun b_3 h => (loopI_start (fun m hm => ⟨trivial, hm⟩) (0 : Int) () rfl (Int.natCast_nonneg 0) trivial (ok_then h (fun v0 h hv0 => (have h := ok_ret h; h)) (fun q0 h => (have h := ok_ret h; h))))))) (fun b_2 h => (have h := ok_ret h; h)))⟩) (fun b_1 h => (have h := ok_ret h; h)))⟩

/-! 78: loop.example/tablehouse/spec.RowsOk -/
def c78 : Con := ⟨[.dat (Ty.sl TColumn), .dat (Ty.sl (Ty.sl TValue))], fun args hp K => args2 (fun a0 a1 => withD (Ty.sl TColumn) a0 fun columns => withD (Ty.sl (Ty.sl TValue)) a1 fun rows => (Sm (Ty.sl TColumn) columns) ∧ (Sm (Ty.sl (Ty.sl TValue)) rows) ∧ K (.data Ty.bool (M.rowsOk columns rows)) []) args hp⟩
def cons78 : Cons := [(79, c79), (109, c109)]
def inl78 : List (Nat × Inl) := []
@[reducible] def C78 : Ctx := ⟨tab, fun t => memN t cmps, cons78, 21, inl78, 0⟩
theorem consOk78 : ConsOk P C78 := by
  refine consOk_cons (enter_ok (fn := Go.Proofs.Tryz.f79) Go.Proofs.Tryz.func79 (by kernel_rfl) rfl) con79_ok ?_
  refine consOk_cons (enter_ok (fn := Go.Proofs.Tryz.f109) Go.Proofs.Tryz.func109 (by kernel_rfl) rfl) con109_ok ?_
  exact consOk_nil
def ann78 : Nat → List Dir
  | 0 => [.keep [0, 1]]
  | 1 => [.keep [0, 1, 5]]
  | 2 => [.keep [0, 1, 5, 9]]
  | 3 => [.keep [0, 1, 5]]
  | 4 => [.keep [0, 1, 5, 18]]
  | 5 => [.keep [4]]
  | 6 => [.keep [4]]
  | 100000 => [.keep [0]]
  | _ => []
@[reducible] def LP78_0 (columns : (List (TColumn).D)) (rows : (List (List (TValue).D))) (m : Nat) (st_ : St) (K : X → St → Prop) : Prop := (True) ∧ LoopE (t := (Ty.sl TValue)) (fun (i0 : Int) (v0 : Unit) => (⟨[(0, .data (Ty.sl TColumn) columns), (1, .data (Ty.sl (Ty.sl TValue)) rows), (5, .data (Ty.int .i64) i0)], []⟩ : St)) rows (F.spec_RowsOk_l0 columns rows) (fun v0 : Unit => True) (outD (fun v0 : Unit => True → K (.exit 0) (⟨[(0, .data (Ty.sl TColumn) columns)], []⟩ : St)) (fun q0 : Unit => K .ret (⟨[(4, .data Ty.bool false)], []⟩ : St))) m st_
def L78 (columns : (List (TColumn).D)) (rows : (List (List (TValue).D))) : Loops := fun id m st_ K => match id with
  | 0 => LP78_0 columns rows m st_ K
  | _ => False
theorem vc78 (columns : (List (TColumn).D)) (rows : (List (List (TValue).D))) (K : AV → Hp → Prop) : awp C78 (L78 columns rows) ann78 (bodyOf Go.Proofs.Tryz.f78) ⟨argEnv 0 [.data (Ty.sl TColumn) columns, .data (Ty.sl (Ty.sl TValue)) rows], []⟩ (outK tab Go.Proofs.Tryz.f78.results.toList (hasBox []) (resK (.dat Ty.bool) K)) =
  ((∃ m_, (True) ∧ LoopE (t := (Ty.sl TValue)) (fun (i0 : Int) (v0 : Unit) => (⟨[(0, .data (Ty.sl TColumn) columns), (1, .data (Ty.sl (Ty.sl TValue)) rows), (5, .data (Ty.int .i64) i0)], []⟩ : St)) rows (F.spec_RowsOk_l0 columns rows) (fun v0 : Unit => True) (outD (fun v0 : Unit => True → (Sm (Ty.sl TColumn) columns) ∧ K (.data Ty.bool (M.columnsOk columns)) []) (fun q0 : Unit => K (.data Ty.bool false) [])) m_ (⟨[(0, .data (Ty.sl TColumn) columns), (1, .data (Ty.sl (Ty.sl TValue)) rows), (5, .data (Ty.int .i64) (0 : Int))], []⟩ : St))) := by kernel_rfl
theorem lvc78_0 (columns : (List (TColumn).D)) (rows : (List (List (TValue).D)))  (i0 : Int) (v0 : Unit) (m : Nat) (K : X → St → Prop) : awp C78 (L78 columns rows) ann78 (loopAt (bodyOf Go.Proofs.Tryz.f78) 0) (⟨[(0, .data (Ty.sl TColumn) columns), (1, .data (Ty.sl (Ty.sl TValue)) rows), (5, .data (Ty.int .i64) i0)], []⟩ : St) (thenW (fun s' => ∃ m', m' < m ∧ (L78 columns rows) 0 m' s' K) (exitN 0 (ann78 (behind 0)) K)) =
  (cond (decide (i0 < (rows.length : Int))) ((0 ≤ i0) ∧ (i0 < (rows.length : Int)) ∧ (Sm (Ty.sl TColumn) columns) ∧ (Sm (Ty.sl TValue) (nth (t := (Ty.sl TValue)) rows i0)) ∧ cond (!(M.rowFits columns (nth (t := (Ty.sl TValue)) rows i0))) (K .ret (⟨[(4, .data Ty.bool false)], []⟩ : St)) ((∃ m_, m_ < m ∧ (L78 columns rows) 0 m_ (⟨[(0, .data (Ty.sl TColumn) columns), (1, .data (Ty.sl (Ty.sl TValue)) rows), (5, .data (Ty.int .i64) (wrap64 (i0 + (1 : Int))))], []⟩ : St) K))) (K (.exit 0) (⟨[(0, .data (Ty.sl TColumn) columns)], []⟩ : St))) := by kernel_rfl
theorem con78_ok : ConOk P 78 c78 := by
  refine con_okR (fn := Go.Proofs.Tryz.f78) (code := bodyOf Go.Proofs.Tryz.f78) (tab_ok tab_check cmp_check) consOk78 mixed Go.Proofs.Tryz.func78 rfl rfl fun args hp K h0 => ?_
  obtain ⟨a0, a1, rfl, rfl, h1⟩ := args2_elim h0
  obtain ⟨columns, rfl, h2⟩ := withD_elim h1
  obtain ⟨rows, rfl, h3⟩ := withD_elim h2
  obtain ⟨h_columns, h_rows, hK⟩ := h3
  have h : ok (F.spec_RowsOk columns rows) (fun r => K (.data Ty.bool r) []) := ok_of_eq (F.spec_RowsOk_eq columns rows h_columns h_rows) hK
  refine ⟨⟨show (2 : Nat) ≤ 21 by decide, show (2 : Nat) ≤ 1000000 by decide⟩, ann78, (L78 columns rows), (.dat Ty.bool), (loopsN1 (i0 := 0) (by kernel_rfl) ?_), ?_⟩
  · clear h
    intro m_ s_ K_ h
    obtain ⟨hc0, i0, v0, rfl, hl0, rfl, hv0, h⟩ := (show LP78_0 columns rows m_ s_ K_ from h)
    rw [lvc78_0 columns rows i0 v0 _ K_]
    exact (loopE_step (t := (Ty.sl TValue)) hl0 h (fun ht0 h => ⟨hl0, ⟨ht0, ⟨h_columns, ⟨(sm_nth h_rows i0), (ok_cond h (fun b_9 h => (have h := ok_ret h; h)) (fun b_9 h => (loopE_next (t := (Ty.sl TValue)) (fun m hm => (show LP78_0 columns rows m _ _ from ⟨hc0, hm⟩)) () rfl hl0 ht0 (sm_len h_rows) trivial (have h := ok_ret h; h))))⟩⟩⟩⟩) (fun h => (h trivial)))
  · rw [vc78 columns rows K]
    exact (loopE_start (t := (Ty.sl TValue)) (fun m hm => ⟨trivial, hm⟩) () rfl trivial (ok_then h (fun v0 h hv0 => ⟨h_columns, (have h := ok_ret h; h)⟩) (fun q0 h => (have h := ok_ret h; h))))

/-! 50: loop.example/tablehouse/spec.TablesOk -/
def c50 : Con := ⟨[.dat (Ty.sl TTable)], fun args hp K => args1 (fun a0 => withD (Ty.sl TTable) a0 fun tables => (Sm (Ty.sl TTable) tables) ∧ K (.data Ty.bool (M.tablesOk tables)) []) args hp⟩
def cons50 : Cons := [(78, c78)]
def inl50 : List (Nat × Inl) := []
@[reducible] def C50 : Ctx := ⟨tab, fun t => memN t cmps, cons50, 34, inl50, 0⟩
theorem consOk50 : ConsOk P C50 := by
  refine consOk_cons (enter_ok (fn := Go.Proofs.Tryz.f78) Go.Proofs.Tryz.func78 (by kernel_rfl) rfl) con78_ok ?_
  exact consOk_nil
def ann50 : Nat → List Dir
  | 0 => [.keep [0]]
  | 1 => [.keep [0, 3]]
  | 2 => [.keep [0, 3, 7]]
  | 3 => [.keep [0, 3]]
  | 4 => [.keep [0, 3, 30]]
  | 5 => [.keep [2]]
  | 6 => [.keep [2]]
  | 100000 => [.keep [0]]
  | _ => []
@[reducible] def LP50_0 (tables : (List (TTable).D)) (m : Nat) (st_ : St) (K : X → St → Prop) : Prop := (True) ∧ LoopE (t := TTable) (fun (i0 : Int) (v0 : Unit) => (⟨[(0, .data (Ty.sl TTable) tables), (3, .data (Ty.int .i64) i0)], []⟩ : St)) tables (F.spec_TablesOk_l0 tables) (fun v0 : Unit => True) (outD (fun v0 : Unit => True → K (.exit 0) (⟨[(0, .data (Ty.sl TTable) tables)], []⟩ : St)) (fun q0 : Unit => K .ret (⟨[(2, .data Ty.bool false)], []⟩ : St))) m st_
def L50 (tables : (List (TTable).D)) : Loops := fun id m st_ K => match id with
  | 0 => LP50_0 tables m st_ K
  | _ => False
theorem vc50 (tables : (List (TTable).D)) (K : AV → Hp → Prop) : awp C50 (L50 tables) ann50 (bodyOf Go.Proofs.Tryz.f50) ⟨argEnv 0 [.data (Ty.sl TTable) tables], []⟩ (outK tab Go.Proofs.Tryz.f50.results.toList (hasBox []) (resK (.dat Ty.bool) K)) =
  ((∃ m_, (True) ∧ LoopE (t := TTable) (fun (i0 : Int) (v0 : Unit) => (⟨[(0, .data (Ty.sl TTable) tables), (3, .data (Ty.int .i64) i0)], []⟩ : St)) tables (F.spec_TablesOk_l0 tables) (fun v0 : Unit => True) (outD (fun v0 : Unit => True → K (.data Ty.bool (decide ((tables.length : Int) ≤ (3 : Int)))) []) (fun q0 : Unit => K (.data Ty.bool false) [])) m_ (⟨[(0, .data (Ty.sl TTable) tables), (3, .data (Ty.int .i64) (0 : Int))], []⟩ : St))) := by kernel_rfl
theorem lvc50_0 (tables : (List (TTable).D))  (i0 : Int) (v0 : Unit) (m : Nat) (K : X → St → Prop) : awp C50 (L50 tables) ann50 (loopAt (bodyOf Go.Proofs.Tryz.f50) 0) (⟨[(0, .data (Ty.sl TTable) tables), (3, .data (Ty.int .i64) i0)], []⟩ : St) (thenW (fun s' => ∃ m', m' < m ∧ (L50 tables) 0 m' s' K) (exitN 0 (ann50 (behind 0)) K)) =
  (cond (decide (i0 < (tables.length : Int))) ((0 ≤ i0) ∧ (i0 < (tables.length : Int)) ∧ cond ((decide ((6 : Int) < ((((nth (t := TTable) tables i0).2).1).length : Int))) == false) ((0 ≤ i0) ∧ (i0 < (tables.length : Int)) ∧ (0 ≤ i0) ∧ (i0 < (tables.length : Int)) ∧ (Sm (Ty.sl TColumn) ((nth (t := TTable) tables i0).1)) ∧ (Sm (Ty.sl (Ty.sl TValue)) (((nth (t := TTable) tables i0).2).1)) ∧ cond (!(M.rowsOk ((nth (t := TTable) tables i0).1) (((nth (t := TTable) tables i0).2).1))) (K .ret (⟨[(2, .data Ty.bool false)], []⟩ : St)) ((∃ m_, m_ < m ∧ (L50 tables) 0 m_ (⟨[(0, .data (Ty.sl TTable) tables), (3, .data (Ty.int .i64) (wrap64 (i0 + (1 : Int))))], []⟩ : St) K))) (K .ret (⟨[(2, .data Ty.bool false)], []⟩ : St))) (K (.exit 0) (⟨[(0, .data (Ty.sl TTable) tables)], []⟩ : St))) := by kernel_rfl
theorem con50_ok : ConOk P 50 c50 := by
  refine con_okR (fn := Go.Proofs.Tryz.f50) (code := bodyOf Go.Proofs.Tryz.f50) (tab_ok tab_check cmp_check) consOk50 mixed Go.Proofs.Tryz.func50 rfl rfl fun args hp K h0 => ?_
  obtain ⟨a0, rfl, rfl, h1⟩ := args1_elim h0
  obtain ⟨tables, rfl, h2⟩ := withD_elim h1
  obtain ⟨h_tables, hK⟩ := h2
  have h : ok (F.spec_TablesOk tables) (fun r => K (.data Ty.bool r) []) := ok_of_eq (F.spec_TablesOk_eq tables h_tables) hK
  refine ⟨⟨show (1 : Nat) ≤ 34 by decide, show (1 : Nat) ≤ 1000000 by decide⟩, ann50, (L50 tables), (.dat Ty.bool), (loopsN1 (i0 := 0) (by kernel_rfl) ?_), ?_⟩
  · clear h
    intro m_ s_ K_ h
    obtain ⟨hc0, i0, v0, rfl, hl0, rfl, hv0, h⟩ := (show LP50_0 tables m_ s_ K_ from h)
    rw [lvc50_0 tables i0 v0 _ K_]
    exact (loopE_step (t := TTable) hl0 h (fun ht0 h => ⟨hl0, ⟨ht0, (ok_cond h (fun b_11 h => ⟨hl0, ⟨ht0, ⟨hl0, ⟨ht0, ⟨(sm_nth h_tables i0).1, ⟨(sm_nth h_tables i0).2.1, (ok_cond h (fun b_12 h => (have h := ok_ret h; h)) (fun b_12 h => (loopE_next (t := TTable) (fun m hm => (show LP50_0 tables m _ _ from ⟨hc0, hm⟩)) () rfl hl0 ht0 (sm_len h_tables) trivial (have h := ok_ret h; h))))⟩⟩⟩⟩⟩⟩) (fun b_11 h => (have h := ok_ret h; h)))⟩⟩) (fun h => (h trivial)))
  · rw [vc50 tables K]
    exact (loopE_start (t := TTable) (fun m hm => ⟨trivial, hm⟩) () rfl trivial (ok_then h (fun v0 h hv0 => (have h := ok_ret h; h)) (fun q0 h => (have h := ok_ret h; h))))

/-! 52: loop.example/tablehouse/spec.l12Columns -/
def c52 : Con := ⟨[.dat (Ty.sl TColumn), .dat (Ty.sl (Ty.int .i64))], fun args hp K => args2 (fun a0 a1 => withD (Ty.sl TColumn) a0 fun columns => withD (Ty.sl (Ty.int .i64)) a1 fun list => (Sm (Ty.sl TColumn) columns) ∧ (Sm (Ty.sl (Ty.int .i64)) list) ∧ K (.data Ty.bool (M.listOk columns list)) []) args hp⟩
def cons52 : Cons := [(51, c51)]
def inl52 : List (Nat × Inl) := []
@[reducible] def C52 : Ctx := ⟨tab, fun t => memN t cmps, cons52, 24, inl52, 0⟩
theorem consOk52 : ConsOk P C52 := by
  refine consOk_cons (enter_ok (fn := Go.Proofs.Tryz.f51) Go.Proofs.Tryz.func51 (by kernel_rfl) rfl) con51_ok ?_
  exact consOk_nil
def ann52 : Nat → List Dir
  | 0 => [.keep [0, 1]]
  | 1 => [.keep [0, 1, 5]]
  | 2 => [.keep [0, 1, 5, 9]]
  | 3 => [.keep [0, 1, 5]]
  | 4 => [.keep [0, 1, 5, 20]]
  | 5 => [.keep [4]]
  | 6 => [.keep [4]]
  | 100000 => [.keep [1]]
  | _ => []
@[reducible] def LP52_0 (columns : (List (TColumn).D)) (list : (List Int)) (m : Nat) (st_ : St) (K : X → St → Prop) : Prop := (True) ∧ LoopE (t := (Ty.int .i64)) (fun (i0 : Int) (v0 : Unit) => (⟨[(0, .data (Ty.sl TColumn) columns), (1, .data (Ty.sl (Ty.int .i64)) list), (5, .data (Ty.int .i64) i0)], []⟩ : St)) list (F.spec_l12Columns_l0 columns list) (fun v0 : Unit => True) (outD (fun v0 : Unit => True → K (.exit 0) (⟨[(1, .data (Ty.sl (Ty.int .i64)) list)], []⟩ : St)) (fun q0 : Unit => K .ret (⟨[(4, .data Ty.bool false)], []⟩ : St))) m st_
def L52 (columns : (List (TColumn).D)) (list : (List Int)) : Loops := fun id m st_ K => match id with
  | 0 => LP52_0 columns list m st_ K
  | _ => False
theorem vc52 (columns : (List (TColumn).D)) (list : (List Int)) (K : AV → Hp → Prop) : awp C52 (L52 columns list) ann52 (bodyOf Go.Proofs.Tryz.f52) ⟨argEnv 0 [.data (Ty.sl TColumn) columns, .data (Ty.sl (Ty.int .i64)) list], []⟩ (outK tab Go.Proofs.Tryz.f52.results.toList (hasBox []) (resK (.dat Ty.bool) K)) =
  ((∃ m_, (True) ∧ LoopE (t := (Ty.int .i64)) (fun (i0 : Int) (v0 : Unit) => (⟨[(0, .data (Ty.sl TColumn) columns), (1, .data (Ty.sl (Ty.int .i64)) list), (5, .data (Ty.int .i64) i0)], []⟩ : St)) list (F.spec_l12Columns_l0 columns list) (fun v0 : Unit => True) (outD (fun v0 : Unit => True → K (.data Ty.bool (M.inR (list.length : Int) (1 : Int) (4 : Int))) []) (fun q0 : Unit => K (.data Ty.bool false) [])) m_ (⟨[(0, .data (Ty.sl TColumn) columns), (1, .data (Ty.sl (Ty.int .i64)) list), (5, .data (Ty.int .i64) (0 : Int))], []⟩ : St))) := by kernel_rfl
theorem lvc52_0 (columns : (List (TColumn).D)) (list : (List Int))  (i0 : Int) (v0 : Unit) (m : Nat) (K : X → St → Prop) : awp C52 (L52 columns list) ann52 (loopAt (bodyOf Go.Proofs.Tryz.f52) 0) (⟨[(0, .data (Ty.sl TColumn) columns), (1, .data (Ty.sl (Ty.int .i64)) list), (5, .data (Ty.int .i64) i0)], []⟩ : St) (thenW (fun s' => ∃ m', m' < m ∧ (L52 columns list) 0 m' s' K) (exitN 0 (ann52 (behind 0)) K)) =
  (cond (decide (i0 < (list.length : Int))) ((0 ≤ i0) ∧ (i0 < (list.length : Int)) ∧ cond (!(M.inR (nth (t := (Ty.int .i64)) list i0) (0 : Int) (wrap64 ((columns.length : Int) - (1 : Int))))) (K .ret (⟨[(4, .data Ty.bool false)], []⟩ : St)) ((∃ m_, m_ < m ∧ (L52 columns list) 0 m_ (⟨[(0, .data (Ty.sl TColumn) columns), (1, .data (Ty.sl (Ty.int .i64)) list), (5, .data (Ty.int .i64) (wrap64 (i0 + (1 : Int))))], []⟩ : St) K))) (K (.exit 0) (⟨[(1, .data (Ty.sl (Ty.int .i64)) list)], []⟩ : St))) := by kernel_rfl
theorem con52_ok : ConOk P 52 c52 := by
  refine con_okR (fn := Go.Proofs.Tryz.f52) (code := bodyOf Go.Proofs.Tryz.f52) (tab_ok tab_check cmp_check) consOk52 mixed Go.Proofs.Tryz.func52 rfl rfl fun args hp K h0 => ?_
  obtain ⟨a0, a1, rfl, rfl, h1⟩ := args2_elim h0
  obtain ⟨columns, rfl, h2⟩ := withD_elim h1
  obtain ⟨list, rfl, h3⟩ := withD_elim h2
  obtain ⟨h_columns, h_list, hK⟩ := h3
  have h : ok (F.spec_l12Columns columns list) (fun r => K (.data Ty.bool r) []) := ok_of_eq (F.spec_l12Columns_eq columns list h_columns h_list) hK
  refine ⟨⟨show (2 : Nat) ≤ 24 by decide, show (2 : Nat) ≤ 1000000 by decide⟩, ann52, (L52 columns list), (.dat Ty.bool), (loopsN1 (i0 := 0) (by kernel_rfl) ?_), ?_⟩
  · clear h
    intro m_ s_ K_ h
    obtain ⟨hc0, i0, v0, rfl, hl0, rfl, hv0, h⟩ := (show LP52_0 columns list m_ s_ K_ from h)
    rw [lvc52_0 columns list i0 v0 _ K_]
    exact (loopE_step (t := (Ty.int .i64)) hl0 h (fun ht0 h => ⟨hl0, ⟨ht0, (ok_cond h (fun b_9 h => (have h := ok_ret h; h)) (fun b_9 h => (loopE_next (t := (Ty.int .i64)) (fun m hm => (show LP52_0 columns list m _ _ from ⟨hc0, hm⟩)) () rfl hl0 ht0 (sm_len h_list) trivial (have h := ok_ret h; h))))⟩⟩) (fun h => (h trivial)))
  · rw [vc52 columns list K]
    exact (loopE_start (t := (Ty.int .i64)) (fun m hm => ⟨trivial, hm⟩) () rfl trivial (ok_then h (fun v0 h hv0 => (have h := ok_ret h; h)) (fun q0 h => (have h := ok_ret h; h))))

/-! 80: loop.example/tablehouse/spec.l4Step, in place -/
def cons80 : Cons := [(51, c51), (110, c110)]
@[reducible] def C80 : Ctx := ⟨tab, fun t => memN t cmps, cons80, 191, [], 200000⟩
theorem consOk80 : ConsOk P C80 := by
  refine consOk_cons (enter_ok (fn := Go.Proofs.Tryz.f51) Go.Proofs.Tryz.func51 (by kernel_rfl) rfl) con51_ok ?_
  refine consOk_cons (enter_ok (fn := Go.Proofs.Tryz.f110) Go.Proofs.Tryz.func110 (by kernel_rfl) rfl) con110_ok ?_
  exact consOk_nil
def T80 : Inl := inlT C80 (fun _ => []) (bodyOf Go.Proofs.Tryz.f80) Go.Proofs.Tryz.f80.results.toList
theorem inlOk80 : InlOk P 80 T80 := inl_ok (fn := Go.Proofs.Tryz.f80) (code := bodyOf Go.Proofs.Tryz.f80) (tab_ok tab_check cmp_check) consOk80 mixed Go.Proofs.Tryz.func80 rfl rfl (by kernel_rfl)

/-! 53: loop.example/tablehouse/spec.ExprKind -/
def c53 : Con := ⟨[.dat (Ty.sl TColumn), .dat (Ty.sl TPart)], fun args hp K => args2 (fun a0 a1 => withD (Ty.sl TColumn) a0 fun columns => withD (Ty.sl TPart) a1 fun e => (Sm (Ty.sl TColumn) columns) ∧ (Sm (Ty.sl TPart) e) ∧ K (.data (Ty.int .i64) (M.exprKind columns e)) []) args hp⟩
def cons53 : Cons := [(79, c79)]
def inl53 : List (Nat × Inl) := [(80, T80)]
@[reducible] def C53 : Ctx := ⟨tab, fun t => memN t cmps, cons53, 46, inl53, 0⟩
theorem consOk53 : ConsOk P C53 := by
  refine consOk_cons (enter_ok (fn := Go.Proofs.Tryz.f79) Go.Proofs.Tryz.func79 (by kernel_rfl) rfl) con79_ok ?_
  refine consOk_inl (enter_ok (fn := Go.Proofs.Tryz.f80) Go.Proofs.Tryz.func80 (by kernel_rfl) rfl) inlOk80 ?_
  exact consOk_nil
def ann53 : Nat → List Dir
  | 0 => [.keep [0, 1]]
  | 1 => [.keep [0, 1, 15]]
  | 2 => [.keep [4]]
  | 3 => [.keep [0, 1, 5]]
  | 4 => [.keep [0, 1, 5, 6]]
  | 5 => [.keep [0, 1, 5, 6, 7]]
  | 6 => [.keep [0, 1, 5, 6, 7, 23]]
  | 7 => [.keep [0, 1, 5, 6, 7]]
  | 8 => [.keep [0, 1, 5, 6, 7]]
  | 9 => [.keep [5, 42]]
  | 10 => [.keep [4]]
  | 11 => [.keep [4]]
  | 100000 => [.keep [5, 6]]
  | _ => []
@[reducible] def LP53_0 (columns : (List (TColumn).D)) (e : (List (TPart).D)) (m : Nat) (st_ : St) (K : X → St → Prop) : Prop := (True) ∧ LoopW (fun v0 : Bool × Int × (List Int) => (⟨[(0, .data (Ty.sl TColumn) columns), (1, .data (Ty.sl TPart) e), (5, .own 16 none), (6, .data Ty.bool v0.1), (7, .data (Ty.int .i64) v0.2.1)], [(16, .arr (Ty.int .i64) v0.2.2)]⟩ : St)) (F.spec_ExprKind_l0 columns e) (fun v0 : Bool × Int × (List Int) => True) ((fun e0 : Bool × (List Int) => True → K (.exit 0) (⟨[(5, .own 16 none), (6, .data Ty.bool e0.1)], [(16, .arr (Ty.int .i64) e0.2)]⟩ : St))) m st_
def L53 (columns : (List (TColumn).D)) (e : (List (TPart).D)) : Loops := fun id m st_ K => match id with
  | 0 => LP53_0 columns e m st_ K
  | _ => False
theorem vc53 (columns : (List (TColumn).D)) (e : (List (TPart).D)) (K : AV → Hp → Prop) : awp C53 (L53 columns e) ann53 (bodyOf Go.Proofs.Tryz.f53) ⟨argEnv 0 [.data (Ty.sl TColumn) columns, .data (Ty.sl TPart) e], []⟩ (outK tab Go.Proofs.Tryz.f53.results.toList (hasBox []) (resK (.dat (Ty.int .i64)) K)) =
  ((Sm (Ty.sl TColumn) columns) ∧ cond ((!(M.columnsOk columns)) == false) (cond (decide ((12 : Int) < (e.length : Int))) (K (.data (Ty.int .i64) (-1 : Int)) []) ((∃ m_, (True) ∧ LoopW (fun v0 : Bool × Int × (List Int) => (⟨[(0, .data (Ty.sl TColumn) columns), (1, .data (Ty.sl TPart) e), (5, .own 16 none), (6, .data Ty.bool v0.1), (7, .data (Ty.int .i64) v0.2.1)], [(16, .arr (Ty.int .i64) v0.2.2)]⟩ : St)) (F.spec_ExprKind_l0 columns e) (fun v0 : Bool × Int × (List Int) => True) ((fun e0 : Bool × (List Int) => True → cond ((!e0.1) == false) (cond (!decide ((e0.2.length : Int) = (1 : Int))) (K (.data (Ty.int .i64) (-1 : Int)) []) ((0 ≤ (0 : Int)) ∧ ((0 : Int) < (e0.2.length : Int)) ∧ K (.data (Ty.int .i64) (nth (t := (Ty.int .i64)) e0.2 (0 : Int))) [])) (K (.data (Ty.int .i64) (-1 : Int)) []))) m_ (⟨[(0, .data (Ty.sl TColumn) columns), (1, .data (Ty.sl TPart) e), (5, .own 16 none), (6, .data Ty.bool true), (7, .data (Ty.int .i64) (0 : Int))], [(16, .arr (Ty.int .i64) [])]⟩ : St)))) (K (.data (Ty.int .i64) (-1 : Int)) [])) := by kernel_rfl
theorem lvc53_0 (columns : (List (TColumn).D)) (e : (List (TPart).D))  (v0 : Bool × Int × (List Int)) (m : Nat) (K : X → St → Prop) : awp C53 (L53 columns e) ann53 (loopAt (bodyOf Go.Proofs.Tryz.f53) 0) (⟨[(0, .data (Ty.sl TColumn) columns), (1, .data (Ty.sl TPart) e), (5, .own 16 none), (6, .data Ty.bool v0.1), (7, .data (Ty.int .i64) v0.2.1)], [(16, .arr (Ty.int .i64) v0.2.2)]⟩ : St) (thenW (fun s' => ∃ m', m' < m ∧ (L53 columns e) 0 m' s' K) (exitN 0 (ann53 (behind 0)) K)) =
  (cond ((decide (v0.2.1 < (e.length : Int))) == true) (cond v0.1 ((0 ≤ v0.2.1) ∧ (v0.2.1 < (e.length : Int)) ∧ cond ((!decide ((nth (t := TPart) e v0.2.1).1 = (1 : Int))) == true) (cond ((!(Ty.beq TValue ((((nth (t := TPart) e v0.2.1).2).2).1) ((0 : Int), ((0 : Int), ((⟨#[]⟩ : ByteArray), ()))))) == false) (cond ((!decide ((nth (t := TPart) e v0.2.1).1 = (2 : Int))) == true) (cond ((!decide ((nth (t := TPart) e v0.2.1).1 = (4 : Int))) == true) (cond (!decide (((nth (t := TPart) e v0.2.1).2).1 = (0 : Int))) ((∃ m_, m_ < m ∧ (L53 columns e) 0 m_ (⟨[(0, .data (Ty.sl TColumn) columns), (1, .data (Ty.sl TPart) e), (5, .own 16 none), (6, .data Ty.bool false), (7, .data (Ty.int .i64) (wrap64 (v0.2.1 + (1 : Int))))], [(16, .arr (Ty.int .i64) v0.2.2)]⟩ : St) K)) (cond (decide ((nth (t := TPart) e v0.2.1).1 = (1 : Int))) ((Sm TValue ((((nth (t := TPart) e v0.2.1).2).2).1)) ∧ cond ((!(M.valueOk ((((nth (t := TPart) e v0.2.1).2).2).1))) == false) (cond (decide (((((nth (t := TPart) e v0.2.1).2).2).1).1 = (0 : Int))) ((∃ m_, m_ < m ∧ (L53 columns e) 0 m_ (⟨[(0, .data (Ty.sl TColumn) columns), (1, .data (Ty.sl TPart) e), (5, .own 16 none), (6, .data Ty.bool false), (7, .data (Ty.int .i64) (wrap64 (v0.2.1 + (1 : Int))))], [(16, .arr (Ty.int .i64) v0.2.2)]⟩ : St) K)) (((v0.2.2.length + [((((nth (t := TPart) e v0.2.1).2).2).1).1].length) * 8 ≤ lim) ∧ (∃ m_, m_ < m ∧ (L53 columns e) 0 m_ (⟨[(0, .data (Ty.sl TColumn) columns), (1, .data (Ty.sl TPart) e), (5, .own 16 none), (6, .data Ty.bool true), (7, .data (Ty.int .i64) (wrap64 (v0.2.1 + (1 : Int))))], [(16, .arr (Ty.int .i64) (v0.2.2 ++ [((((nth (t := TPart) e v0.2.1).2).2).1).1]))]⟩ : St) K))) ((∃ m_, m_ < m ∧ (L53 columns e) 0 m_ (⟨[(0, .data (Ty.sl TColumn) columns), (1, .data (Ty.sl TPart) e), (5, .own 16 none), (6, .data Ty.bool false), (7, .data (Ty.int .i64) (wrap64 (v0.2.1 + (1 : Int))))], [(16, .arr (Ty.int .i64) v0.2.2)]⟩ : St) K))) (cond (decide ((nth (t := TPart) e v0.2.1).1 = (2 : Int))) (cond (!(M.inR (((nth (t := TPart) e v0.2.1).2).1) (0 : Int) (wrap64 ((columns.length : Int) - (1 : Int))))) ((∃ m_, m_ < m ∧ (L53 columns e) 0 m_ (⟨[(0, .data (Ty.sl TColumn) columns), (1, .data (Ty.sl TPart) e), (5, .own 16 none), (6, .data Ty.bool false), (7, .data (Ty.int .i64) (wrap64 (v0.2.1 + (1 : Int))))], [(16, .arr (Ty.int .i64) v0.2.2)]⟩ : St) K)) ((0 ≤ ((nth (t := TPart) e v0.2.1).2).1) ∧ (((nth (t := TPart) e v0.2.1).2).1 < (columns.length : Int)) ∧ ((v0.2.2.length + [(nth (t := TColumn) columns (((nth (t := TPart) e v0.2.1).2).1)).1].length) * 8 ≤ lim) ∧ (∃ m_, m_ < m ∧ (L53 columns e) 0 m_ (⟨[(0, .data (Ty.sl TColumn) columns), (1, .data (Ty.sl TPart) e), (5, .own 16 none), (6, .data Ty.bool true), (7, .data (Ty.int .i64) (wrap64 (v0.2.1 + (1 : Int))))], [(16, .arr (Ty.int .i64) (v0.2.2 ++ [(nth (t := TColumn) columns (((nth (t := TPart) e v0.2.1).2).1)).1]))]⟩ : St) K))) (cond (decide ((nth (t := TPart) e v0.2.1).1 = (3 : Int))) (cond ((decide ((1 : Int) < (v0.2.2.length : Int))) == true) ((0 ≤ wrap64 ((v0.2.2.length : Int) - (1 : Int))) ∧ (wrap64 ((v0.2.2.length : Int) - (1 : Int)) < (v0.2.2.length : Int)) ∧ cond ((decide ((nth (t := (Ty.int .i64)) v0.2.2 (wrap64 ((v0.2.2.length : Int) - (1 : Int)))) = (1 : Int))) == true) ((0 ≤ wrap64 ((v0.2.2.length : Int) - (2 : Int))) ∧ (wrap64 ((v0.2.2.length : Int) - (2 : Int)) < (v0.2.2.length : Int)) ∧ (0 ≤ (0 : Int)) ∧ ((0 : Int) ≤ (maxI (wrap64 ((v0.2.2.length : Int) - (2 : Int))) (0 : Int))) ∧ ((maxI (wrap64 ((v0.2.2.length : Int) - (2 : Int))) (0 : Int)) ≤ (v0.2.2.length : Int)) ∧ ((maxI (wrap64 ((v0.2.2.length : Int) - (2 : Int))) (0 : Int)) = (maxI (wrap64 ((v0.2.2.length : Int) - (2 : Int))) (0 : Int))) ∧ ((0 : Int) = 0) ∧ (((maxI (wrap64 ((v0.2.2.length : Int) - (2 : Int))) (0 : Int)).toNat + [(1 : Int)].length) * 8 ≤ lim) ∧ (∃ m_, m_ < m ∧ (L53 columns e) 0 m_ (⟨[(0, .data (Ty.sl TColumn) columns), (1, .data (Ty.sl TPart) e), (5, .own 16 none), (6, .data Ty.bool (decide ((nth (t := (Ty.int .i64)) v0.2.2 (wrap64 ((v0.2.2.length : Int) - (2 : Int)))) = (1 : Int)))), (7, .data (Ty.int .i64) (wrap64 (v0.2.1 + (1 : Int))))], [(16, .arr (Ty.int .i64) (v0.2.2.take (maxI (wrap64 ((v0.2.2.length : Int) - (2 : Int))) (0 : Int)).toNat ++ [(1 : Int)]))]⟩ : St) K)) ((0 ≤ (0 : Int)) ∧ ((0 : Int) ≤ (maxI (wrap64 ((v0.2.2.length : Int) - (2 : Int))) (0 : Int))) ∧ ((maxI (wrap64 ((v0.2.2.length : Int) - (2 : Int))) (0 : Int)) ≤ (v0.2.2.length : Int)) ∧ ((maxI (wrap64 ((v0.2.2.length : Int) - (2 : Int))) (0 : Int)) = (maxI (wrap64 ((v0.2.2.length : Int) - (2 : Int))) (0 : Int))) ∧ ((0 : Int) = 0) ∧ (((maxI (wrap64 ((v0.2.2.length : Int) - (2 : Int))) (0 : Int)).toNat + [(1 : Int)].length) * 8 ≤ lim) ∧ (∃ m_, m_ < m ∧ (L53 columns e) 0 m_ (⟨[(0, .data (Ty.sl TColumn) columns), (1, .data (Ty.sl TPart) e), (5, .own 16 none), (6, .data Ty.bool false), (7, .data (Ty.int .i64) (wrap64 (v0.2.1 + (1 : Int))))], [(16, .arr (Ty.int .i64) (v0.2.2.take (maxI (wrap64 ((v0.2.2.length : Int) - (2 : Int))) (0 : Int)).toNat ++ [(1 : Int)]))]⟩ : St) K))) ((0 ≤ (0 : Int)) ∧ ((0 : Int) ≤ (maxI (wrap64 ((v0.2.2.length : Int) - (2 : Int))) (0 : Int))) ∧ ((maxI (wrap64 ((v0.2.2.length : Int) - (2 : Int))) (0 : Int)) ≤ (v0.2.2.length : Int)) ∧ ((maxI (wrap64 ((v0.2.2.length : Int) - (2 : Int))) (0 : Int)) = (maxI (wrap64 ((v0.2.2.length : Int) - (2 : Int))) (0 : Int))) ∧ ((0 : Int) = 0) ∧ (((maxI (wrap64 ((v0.2.2.length : Int) - (2 : Int))) (0 : Int)).toNat + [(1 : Int)].length) * 8 ≤ lim) ∧ (∃ m_, m_ < m ∧ (L53 columns e) 0 m_ (⟨[(0, .data (Ty.sl TColumn) columns), (1, .data (Ty.sl TPart) e), (5, .own 16 none), (6, .data Ty.bool false), (7, .data (Ty.int .i64) (wrap64 (v0.2.1 + (1 : Int))))], [(16, .arr (Ty.int .i64) (v0.2.2.take (maxI (wrap64 ((v0.2.2.length : Int) - (2 : Int))) (0 : Int)).toNat ++ [(1 : Int)]))]⟩ : St) K))) (cond (decide ((nth (t := TPart) e v0.2.1).1 = (4 : Int))) (cond ((decide ((1 : Int) < (v0.2.2.length : Int))) == true) ((0 ≤ wrap64 ((v0.2.2.length : Int) - (1 : Int))) ∧ (wrap64 ((v0.2.2.length : Int) - (1 : Int)) < (v0.2.2.length : Int)) ∧ (0 ≤ wrap64 ((v0.2.2.length : Int) - (2 : Int))) ∧ (wrap64 ((v0.2.2.length : Int) - (2 : Int)) < (v0.2.2.length : Int)) ∧ cond ((decide ((nth (t := (Ty.int .i64)) v0.2.2 (wrap64 ((v0.2.2.length : Int) - (1 : Int)))) = (nth (t := (Ty.int .i64)) v0.2.2 (wrap64 ((v0.2.2.length : Int) - (2 : Int)))))) == true) ((0 ≤ (0 : Int)) ∧ ((0 : Int) ≤ (maxI (wrap64 ((v0.2.2.length : Int) - (2 : Int))) (0 : Int))) ∧ ((maxI (wrap64 ((v0.2.2.length : Int) - (2 : Int))) (0 : Int)) ≤ (v0.2.2.length : Int)) ∧ ((maxI (wrap64 ((v0.2.2.length : Int) - (2 : Int))) (0 : Int)) = (maxI (wrap64 ((v0.2.2.length : Int) - (2 : Int))) (0 : Int))) ∧ ((0 : Int) = 0) ∧ (((maxI (wrap64 ((v0.2.2.length : Int) - (2 : Int))) (0 : Int)).toNat + [(3 : Int)].length) * 8 ≤ lim) ∧ (∃ m_, m_ < m ∧ (L53 columns e) 0 m_ (⟨[(0, .data (Ty.sl TColumn) columns), (1, .data (Ty.sl TPart) e), (5, .own 16 none), (6, .data Ty.bool (M.inR (((nth (t := TPart) e v0.2.1).2).1) (1 : Int) (4 : Int))), (7, .data (Ty.int .i64) (wrap64 (v0.2.1 + (1 : Int))))], [(16, .arr (Ty.int .i64) (v0.2.2.take (maxI (wrap64 ((v0.2.2.length : Int) - (2 : Int))) (0 : Int)).toNat ++ [(3 : Int)]))]⟩ : St) K)) ((0 ≤ (0 : Int)) ∧ ((0 : Int) ≤ (maxI (wrap64 ((v0.2.2.length : Int) - (2 : Int))) (0 : Int))) ∧ ((maxI (wrap64 ((v0.2.2.length : Int) - (2 : Int))) (0 : Int)) ≤ (v0.2.2.length : Int)) ∧ ((maxI (wrap64 ((v0.2.2.length : Int) - (2 : Int))) (0 : Int)) = (maxI (wrap64 ((v0.2.2.length : Int) - (2 : Int))) (0 : Int))) ∧ ((0 : Int) = 0) ∧ (((maxI (wrap64 ((v0.2.2.length : Int) - (2 : Int))) (0 : Int)).toNat + [(3 : Int)].length) * 8 ≤ lim) ∧ (∃ m_, m_ < m ∧ (L53 columns e) 0 m_ (⟨[(0, .data (Ty.sl TColumn) columns), (1, .data (Ty.sl TPart) e), (5, .own 16 none), (6, .data Ty.bool false), (7, .data (Ty.int .i64) (wrap64 (v0.2.1 + (1 : Int))))], [(16, .arr (Ty.int .i64) (v0.2.2.take (maxI (wrap64 ((v0.2.2.length : Int) - (2 : Int))) (0 : Int)).toNat ++ [(3 : Int)]))]⟩ : St) K))) ((0 ≤ (0 : Int)) ∧ ((0 : Int) ≤ (maxI (wrap64 ((v0.2.2.length : Int) - (2 : Int))) (0 : Int))) ∧ ((maxI (wrap64 ((v0.2.2.length : Int) - (2 : Int))) (0 : Int)) ≤ (v0.2.2.length : Int)) ∧ ((maxI (wrap64 ((v0.2.2.length : Int) - (2 : Int))) (0 : Int)) = (maxI (wrap64 ((v0.2.2.length : Int) - (2 : Int))) (0 : Int))) ∧ ((0 : Int) = 0) ∧ (((maxI (wrap64 ((v0.2.2.length : Int) - (2 : Int))) (0 : Int)).toNat + [(3 : Int)].length) * 8 ≤ lim) ∧ (∃ m_, m_ < m ∧ (L53 columns e) 0 m_ (⟨[(0, .data (Ty.sl TColumn) columns), (1, .data (Ty.sl TPart) e), (5, .own 16 none), (6, .data Ty.bool false), (7, .data (Ty.int .i64) (wrap64 (v0.2.1 + (1 : Int))))], [(16, .arr (Ty.int .i64) (v0.2.2.take (maxI (wrap64 ((v0.2.2.length : Int) - (2 : Int))) (0 : Int)).toNat ++ [(3 : Int)]))]⟩ : St) K))) (cond (decide ((nth (t := TPart) e v0.2.1).1 = (5 : Int))) (cond (decide ((nth (t := TPart) e v0.2.1).1 = (5 : Int))) (cond ((decide ((1 : Int) < (v0.2.2.length : Int))) == true) ((0 ≤ wrap64 ((v0.2.2.length : Int) - (1 : Int))) ∧ (wrap64 ((v0.2.2.length : Int) - (1 : Int)) < (v0.2.2.length : Int)) ∧ cond ((decide ((nth (t := (Ty.int .i64)) v0.2.2 (wrap64 ((v0.2.2.length : Int) - (1 : Int)))) = (3 : Int))) == true) ((0 ≤ wrap64 ((v0.2.2.length : Int) - (2 : Int))) ∧ (wrap64 ((v0.2.2.length : Int) - (2 : Int)) < (v0.2.2.length : Int)) ∧ (0 ≤ (0 : Int)) ∧ ((0 : Int) ≤ (maxI (wrap64 ((v0.2.2.length : Int) - (2 : Int))) (0 : Int))) ∧ ((maxI (wrap64 ((v0.2.2.length : Int) - (2 : Int))) (0 : Int)) ≤ (v0.2.2.length : Int)) ∧ ((maxI (wrap64 ((v0.2.2.length : Int) - (2 : Int))) (0 : Int)) = (maxI (wrap64 ((v0.2.2.length : Int) - (2 : Int))) (0 : Int))) ∧ ((0 : Int) = 0) ∧ (((maxI (wrap64 ((v0.2.2.length : Int) - (2 : Int))) (0 : Int)).toNat + [(3 : Int)].length) * 8 ≤ lim) ∧ (∃ m_, m_ < m ∧ (L53 columns e) 0 m_ (⟨[(0, .data (Ty.sl TColumn) columns), (1, .data (Ty.sl TPart) e), (5, .own 16 none), (6, .data Ty.bool (decide ((nth (t := (Ty.int .i64)) v0.2.2 (wrap64 ((v0.2.2.length : Int) - (2 : Int)))) = (3 : Int)))), (7, .data (Ty.int .i64) (wrap64 (v0.2.1 + (1 : Int))))], [(16, .arr (Ty.int .i64) (v0.2.2.take (maxI (wrap64 ((v0.2.2.length : Int) - (2 : Int))) (0 : Int)).toNat ++ [(3 : Int)]))]⟩ : St) K)) ((0 ≤ (0 : Int)) ∧ ((0 : Int) ≤ (maxI (wrap64 ((v0.2.2.length : Int) - (2 : Int))) (0 : Int))) ∧ ((maxI (wrap64 ((v0.2.2.length : Int) - (2 : Int))) (0 : Int)) ≤ (v0.2.2.length : Int)) ∧ ((maxI (wrap64 ((v0.2.2.length : Int) - (2 : Int))) (0 : Int)) = (maxI (wrap64 ((v0.2.2.length : Int) - (2 : Int))) (0 : Int))) ∧ ((0 : Int) = 0) ∧ (((maxI (wrap64 ((v0.2.2.length : Int) - (2 : Int))) (0 : Int)).toNat + [(3 : Int)].length) * 8 ≤ lim) ∧ (∃ m_, m_ < m ∧ (L53 columns e) 0 m_ (⟨[(0, .data (Ty.sl TColumn) columns), (1, .data (Ty.sl TPart) e), (5, .own 16 none), (6, .data Ty.bool false), (7, .data (Ty.int .i64) (wrap64 (v0.2.1 + (1 : Int))))], [(16, .arr (Ty.int .i64) (v0.2.2.take (maxI (wrap64 ((v0.2.2.length : Int) - (2 : Int))) (0 : Int)).toNat ++ [(3 : Int)]))]⟩ : St) K))) ((0 ≤ (0 : Int)) ∧ ((0 : Int) ≤ (maxI (wrap64 ((v0.2.2.length : Int) - (2 : Int))) (0 : Int))) ∧ ((maxI (wrap64 ((v0.2.2.length : Int) - (2 : Int))) (0 : Int)) ≤ (v0.2.2.length : Int)) ∧ ((maxI (wrap64 ((v0.2.2.length : Int) - (2 : Int))) (0 : Int)) = (maxI (wrap64 ((v0.2.2.length : Int) - (2 : Int))) (0 : Int))) ∧ ((0 : Int) = 0) ∧ (((maxI (wrap64 ((v0.2.2.length : Int) - (2 : Int))) (0 : Int)).toNat + [(3 : Int)].length) * 8 ≤ lim) ∧ (∃ m_, m_ < m ∧ (L53 columns e) 0 m_ (⟨[(0, .data (Ty.sl TColumn) columns), (1, .data (Ty.sl TPart) e), (5, .own 16 none), (6, .data Ty.bool false), (7, .data (Ty.int .i64) (wrap64 (v0.2.1 + (1 : Int))))], [(16, .arr (Ty.int .i64) (v0.2.2.take (maxI (wrap64 ((v0.2.2.length : Int) - (2 : Int))) (0 : Int)).toNat ++ [(3 : Int)]))]⟩ : St) K))) (cond (decide ((nth (t := TPart) e v0.2.1).1 = (7 : Int))) (cond ((decide ((0 : Int) < (v0.2.2.length : Int))) == true) ((0 ≤ wrap64 ((v0.2.2.length : Int) - (1 : Int))) ∧ (wrap64 ((v0.2.2.length : Int) - (1 : Int)) < (v0.2.2.length : Int)) ∧ (∃ m_, m_ < m ∧ (L53 columns e) 0 m_ (⟨[(0, .data (Ty.sl TColumn) columns), (1, .data (Ty.sl TPart) e), (5, .own 16 none), (6, .data Ty.bool (decide ((nth (t := (Ty.int .i64)) v0.2.2 (wrap64 ((v0.2.2.length : Int) - (1 : Int)))) = (3 : Int)))), (7, .data (Ty.int .i64) (wrap64 (v0.2.1 + (1 : Int))))], [(16, .arr (Ty.int .i64) v0.2.2)]⟩ : St) K)) ((∃ m_, m_ < m ∧ (L53 columns e) 0 m_ (⟨[(0, .data (Ty.sl TColumn) columns), (1, .data (Ty.sl TPart) e), (5, .own 16 none), (6, .data Ty.bool false), (7, .data (Ty.int .i64) (wrap64 (v0.2.1 + (1 : Int))))], [(16, .arr (Ty.int .i64) v0.2.2)]⟩ : St) K))) (cond (decide ((nth (t := TPart) e v0.2.1).1 = (8 : Int))) ((0 ≤ (0 : Int)) ∧ ((0 : Int) ≤ (maxI (wrap64 ((v0.2.2.length : Int) - (1 : Int))) (0 : Int))) ∧ ((maxI (wrap64 ((v0.2.2.length : Int) - (1 : Int))) (0 : Int)) ≤ (v0.2.2.length : Int)) ∧ ((maxI (wrap64 ((v0.2.2.length : Int) - (1 : Int))) (0 : Int)) = (maxI (wrap64 ((v0.2.2.length : Int) - (1 : Int))) (0 : Int))) ∧ ((0 : Int) = 0) ∧ (((maxI (wrap64 ((v0.2.2.length : Int) - (1 : Int))) (0 : Int)).toNat + [(3 : Int)].length) * 8 ≤ lim) ∧ (∃ m_, m_ < m ∧ (L53 columns e) 0 m_ (⟨[(0, .data (Ty.sl TColumn) columns), (1, .data (Ty.sl TPart) e), (5, .own 16 none), (6, .data Ty.bool (decide ((0 : Int) < (v0.2.2.length : Int)))), (7, .data (Ty.int .i64) (wrap64 (v0.2.1 + (1 : Int))))], [(16, .arr (Ty.int .i64) (v0.2.2.take (maxI (wrap64 ((v0.2.2.length : Int) - (1 : Int))) (0 : Int)).toNat ++ [(3 : Int)]))]⟩ : St) K)) ((∃ m_, m_ < m ∧ (L53 columns e) 0 m_ (⟨[(0, .data (Ty.sl TColumn) columns), (1, .data (Ty.sl TPart) e), (5, .own 16 none), (6, .data Ty.bool false), (7, .data (Ty.int .i64) (wrap64 (v0.2.1 + (1 : Int))))], [(16, .arr (Ty.int .i64) v0.2.2)]⟩ : St) K))))) (cond (decide ((nth (t := TPart) e v0.2.1).1 = (6 : Int))) (cond ((decide ((1 : Int) < (v0.2.2.length : Int))) == true) ((0 ≤ wrap64 ((v0.2.2.length : Int) - (1 : Int))) ∧ (wrap64 ((v0.2.2.length : Int) - (1 : Int)) < (v0.2.2.length : Int)) ∧ cond ((decide ((nth (t := (Ty.int .i64)) v0.2.2 (wrap64 ((v0.2.2.length : Int) - (1 : Int)))) = (3 : Int))) == true) ((0 ≤ wrap64 ((v0.2.2.length : Int) - (2 : Int))) ∧ (wrap64 ((v0.2.2.length : Int) - (2 : Int)) < (v0.2.2.length : Int)) ∧ (0 ≤ (0 : Int)) ∧ ((0 : Int) ≤ (maxI (wrap64 ((v0.2.2.length : Int) - (2 : Int))) (0 : Int))) ∧ ((maxI (wrap64 ((v0.2.2.length : Int) - (2 : Int))) (0 : Int)) ≤ (v0.2.2.length : Int)) ∧ ((maxI (wrap64 ((v0.2.2.length : Int) - (2 : Int))) (0 : Int)) = (maxI (wrap64 ((v0.2.2.length : Int) - (2 : Int))) (0 : Int))) ∧ ((0 : Int) = 0) ∧ (((maxI (wrap64 ((v0.2.2.length : Int) - (2 : Int))) (0 : Int)).toNat + [(3 : Int)].length) * 8 ≤ lim) ∧ (∃ m_, m_ < m ∧ (L53 columns e) 0 m_ (⟨[(0, .data (Ty.sl TColumn) columns), (1, .data (Ty.sl TPart) e), (5, .own 16 none), (6, .data Ty.bool (decide ((nth (t := (Ty.int .i64)) v0.2.2 (wrap64 ((v0.2.2.length : Int) - (2 : Int)))) = (3 : Int)))), (7, .data (Ty.int .i64) (wrap64 (v0.2.1 + (1 : Int))))], [(16, .arr (Ty.int .i64) (v0.2.2.take (maxI (wrap64 ((v0.2.2.length : Int) - (2 : Int))) (0 : Int)).toNat ++ [(3 : Int)]))]⟩ : St) K)) ((0 ≤ (0 : Int)) ∧ ((0 : Int) ≤ (maxI (wrap64 ((v0.2.2.length : Int) - (2 : Int))) (0 : Int))) ∧ ((maxI (wrap64 ((v0.2.2.length : Int) - (2 : Int))) (0 : Int)) ≤ (v0.2.2.length : Int)) ∧ ((maxI (wrap64 ((v0.2.2.length : Int) - (2 : Int))) (0 : Int)) = (maxI (wrap64 ((v0.2.2.length : Int) - (2 : Int))) (0 : Int))) ∧ ((0 : Int) = 0) ∧ (((maxI (wrap64 ((v0.2.2.length : Int) - (2 : Int))) (0 : Int)).toNat + [(3 : Int)].length) * 8 ≤ lim) ∧ (∃ m_, m_ < m ∧ (L53 columns e) 0 m_ (⟨[(0, .data (Ty.sl TColumn) columns), (1, .data (Ty.sl TPart) e), (5, .own 16 none), (6, .data Ty.bool false), (7, .data (Ty.int .i64) (wrap64 (v0.2.1 + (1 : Int))))], [(16, .arr (Ty.int .i64) (v0.2.2.take (maxI (wrap64 ((v0.2.2.length : Int) - (2 : Int))) (0 : Int)).toNat ++ [(3 : Int)]))]⟩ : St) K))) ((0 ≤ (0 : Int)) ∧ ((0 : Int) ≤ (maxI (wrap64 ((v0.2.2.length : Int) - (2 : Int))) (0 : Int))) ∧ ((maxI (wrap64 ((v0.2.2.length : Int) - (2 : Int))) (0 : Int)) ≤ (v0.2.2.length : Int)) ∧ ((maxI (wrap64 ((v0.2.2.length : Int) - (2 : Int))) (0 : Int)) = (maxI (wrap64 ((v0.2.2.length : Int) - (2 : Int))) (0 : Int))) ∧ ((0 : Int) = 0) ∧ (((maxI (wrap64 ((v0.2.2.length : Int) - (2 : Int))) (0 : Int)).toNat + [(3 : Int)].length) * 8 ≤ lim) ∧ (∃ m_, m_ < m ∧ (L53 columns e) 0 m_ (⟨[(0, .data (Ty.sl TColumn) columns), (1, .data (Ty.sl TPart) e), (5, .own 16 none), (6, .data Ty.bool false), (7, .data (Ty.int .i64) (wrap64 (v0.2.1 + (1 : Int))))], [(16, .arr (Ty.int .i64) (v0.2.2.take (maxI (wrap64 ((v0.2.2.length : Int) - (2 : Int))) (0 : Int)).toNat ++ [(3 : Int)]))]⟩ : St) K))) (cond (decide ((nth (t := TPart) e v0.2.1).1 = (7 : Int))) (cond ((decide ((0 : Int) < (v0.2.2.length : Int))) == true) ((0 ≤ wrap64 ((v0.2.2.length : Int) - (1 : Int))) ∧ (wrap64 ((v0.2.2.length : Int) - (1 : Int)) < (v0.2.2.length : Int)) ∧ (∃ m_, m_ < m ∧ (L53 columns e) 0 m_ (⟨[(0, .data (Ty.sl TColumn) columns), (1, .data (Ty.sl TPart) e), (5, .own 16 none), (6, .data Ty.bool (decide ((nth (t := (Ty.int .i64)) v0.2.2 (wrap64 ((v0.2.2.length : Int) - (1 : Int)))) = (3 : Int)))), (7, .data (Ty.int .i64) (wrap64 (v0.2.1 + (1 : Int))))], [(16, .arr (Ty.int .i64) v0.2.2)]⟩ : St) K)) ((∃ m_, m_ < m ∧ (L53 columns e) 0 m_ (⟨[(0, .data (Ty.sl TColumn) columns), (1, .data (Ty.sl TPart) e), (5, .own 16 none), (6, .data Ty.bool false), (7, .data (Ty.int .i64) (wrap64 (v0.2.1 + (1 : Int))))], [(16, .arr (Ty.int .i64) v0.2.2)]⟩ : St) K))) (cond (decide ((nth (t := TPart) e v0.2.1).1 = (8 : Int))) ((0 ≤ (0 : Int)) ∧ ((0 : Int) ≤ (maxI (wrap64 ((v0.2.2.length : Int) - (1 : Int))) (0 : Int))) ∧ ((maxI (wrap64 ((v0.2.2.length : Int) - (1 : Int))) (0 : Int)) ≤ (v0.2.2.length : Int)) ∧ ((maxI (wrap64 ((v0.2.2.length : Int) - (1 : Int))) (0 : Int)) = (maxI (wrap64 ((v0.2.2.length : Int) - (1 : Int))) (0 : Int))) ∧ ((0 : Int) = 0) ∧ (((maxI (wrap64 ((v0.2.2.length : Int) - (1 : Int))) (0 : Int)).toNat + [(3 : Int)].length) * 8 ≤ lim) ∧ (∃ m_, m_ < m ∧ (L53 columns e) 0 m_ (⟨[(0, .data (Ty.sl TColumn) columns), (1, .data (Ty.sl TPart) e), (5, .own 16 none), (6, .data Ty.bool (decide ((0 : Int) < (v0.2.2.length : Int)))), (7, .data (Ty.int .i64) (wrap64 (v0.2.1 + (1 : Int))))], [(16, .arr (Ty.int .i64) (v0.2.2.take (maxI (wrap64 ((v0.2.2.length : Int) - (1 : Int))) (0 : Int)).toNat ++ [(3 : Int)]))]⟩ : St) K)) ((∃ m_, m_ < m ∧ (L53 columns e) 0 m_ (⟨[(0, .data (Ty.sl TColumn) columns), (1, .data (Ty.sl TPart) e), (5, .own 16 none), (6, .data Ty.bool false), (7, .data (Ty.int .i64) (wrap64 (v0.2.1 + (1 : Int))))], [(16, .arr (Ty.int .i64) v0.2.2)]⟩ : St) K))))))))))) (cond (decide ((nth (t := TPart) e v0.2.1).1 = (1 : Int))) ((Sm TValue ((((nth (t := TPart) e v0.2.1).2).2).1)) ∧ cond ((!(M.valueOk ((((nth (t := TPart) e v0.2.1).2).2).1))) == false) (cond (decide (((((nth (t := TPart) e v0.2.1).2).2).1).1 = (0 : Int))) ((∃ m_, m_ < m ∧ (L53 columns e) 0 m_ (⟨[(0, .data (Ty.sl TColumn) columns), (1, .data (Ty.sl TPart) e), (5, .own 16 none), (6, .data Ty.bool false), (7, .data (Ty.int .i64) (wrap64 (v0.2.1 + (1 : Int))))], [(16, .arr (Ty.int .i64) v0.2.2)]⟩ : St) K)) (((v0.2.2.length + [((((nth (t := TPart) e v0.2.1).2).2).1).1].length) * 8 ≤ lim) ∧ (∃ m_, m_ < m ∧ (L53 columns e) 0 m_ (⟨[(0, .data (Ty.sl TColumn) columns), (1, .data (Ty.sl TPart) e), (5, .own 16 none), (6, .data Ty.bool true), (7, .data (Ty.int .i64) (wrap64 (v0.2.1 + (1 : Int))))], [(16, .arr (Ty.int .i64) (v0.2.2 ++ [((((nth (t := TPart) e v0.2.1).2).2).1).1]))]⟩ : St) K))) ((∃ m_, m_ < m ∧ (L53 columns e) 0 m_ (⟨[(0, .data (Ty.sl TColumn) columns), (1, .data (Ty.sl TPart) e), (5, .own 16 none), (6, .data Ty.bool false), (7, .data (Ty.int .i64) (wrap64 (v0.2.1 + (1 : Int))))], [(16, .arr (Ty.int .i64) v0.2.2)]⟩ : St) K))) (cond (decide ((nth (t := TPart) e v0.2.1).1 = (2 : Int))) (cond (!(M.inR (((nth (t := TPart) e v0.2.1).2).1) (0 : Int) (wrap64 ((columns.length : Int) - (1 : Int))))) ((∃ m_, m_ < m ∧ (L53 columns e) 0 m_ (⟨[(0, .data (Ty.sl TColumn) columns), (1, .data (Ty.sl TPart) e), (5, .own 16 none), (6, .data Ty.bool false), (7, .data (Ty.int .i64) (wrap64 (v0.2.1 + (1 : Int))))], [(16, .arr (Ty.int .i64) v0.2.2)]⟩ : St) K)) ((0 ≤ ((nth (t := TPart) e v0.2.1).2).1) ∧ (((nth (t := TPart) e v0.2.1).2).1 < (columns.length : Int)) ∧ ((v0.2.2.length + [(nth (t := TColumn) columns (((nth (t := TPart) e v0.2.1).2).1)).1].length) * 8 ≤ lim) ∧ (∃ m_, m_ < m ∧ (L53 columns e) 0 m_ (⟨[(0, .data (Ty.sl TColumn) columns), (1, .data (Ty.sl TPart) e), (5, .own 16 none), (6, .data Ty.bool true), (7, .data (Ty.int .i64) (wrap64 (v0.2.1 + (1 : Int))))], [(16, .arr (Ty.int .i64) (v0.2.2 ++ [(nth (t := TColumn) columns (((nth (t := TPart) e v0.2.1).2).1)).1]))]⟩ : St) K))) (cond (decide ((nth (t := TPart) e v0.2.1).1 = (3 : Int))) (cond ((decide ((1 : Int) < (v0.2.2.length : Int))) == true) ((0 ≤ wrap64 ((v0.2.2.length : Int) - (1 : Int))) ∧ (wrap64 ((v0.2.2.length : Int) - (1 : Int)) < (v0.2.2.length : Int)) ∧ cond ((decide ((nth (t := (Ty.int .i64)) v0.2.2 (wrap64 ((v0.2.2.length : Int) - (1 : Int)))) = (1 : Int))) == true) ((0 ≤ wrap64 ((v0.2.2.length : Int) - (2 : Int))) ∧ (wrap64 ((v0.2.2.length : Int) - (2 : Int)) < (v0.2.2.length : Int)) ∧ (0 ≤ (0 : Int)) ∧ ((0 : Int) ≤ (maxI (wrap64 ((v0.2.2.length : Int) - (2 : Int))) (0 : Int))) ∧ ((maxI (wrap64 ((v0.2.2.length : Int) - (2 : Int))) (0 : Int)) ≤ (v0.2.2.length : Int)) ∧ ((maxI (wrap64 ((v0.2.2.length : Int) - (2 : Int))) (0 : Int)) = (maxI (wrap64 ((v0.2.2.length : Int) - (2 : Int))) (0 : Int))) ∧ ((0 : Int) = 0) ∧ (((maxI (wrap64 ((v0.2.2.length : Int) - (2 : Int))) (0 : Int)).toNat + [(1 : Int)].length) * 8 ≤ lim) ∧ (∃ m_, m_ < m ∧ (L53 columns e) 0 m_ (⟨[(0, .data (Ty.sl TColumn) columns), (1, .data (Ty.sl TPart) e), (5, .own 16 none), (6, .data Ty.bool (decide ((nth (t := (Ty.int .i64)) v0.2.2 (wrap64 ((v0.2.2.length : Int) - (2 : Int)))) = (1 : Int)))), (7, .data (Ty.int .i64) (wrap64 (v0.2.1 + (1 : Int))))], [(16, .arr (Ty.int .i64) (v0.2.2.take (maxI (wrap64 ((v0.2.2.length : Int) - (2 : Int))) (0 : Int)).toNat ++ [(1 : Int)]))]⟩ : St) K)) ((0 ≤ (0 : Int)) ∧ ((0 : Int) ≤ (maxI (wrap64 ((v0.2.2.length : Int) - (2 : Int))) (0 : Int))) ∧ ((maxI (wrap64 ((v0.2.2.length : Int) - (2 : Int))) (0 : Int)) ≤ (v0.2.2.length : Int)) ∧ ((maxI (wrap64 ((v0.2.2.length : Int) - (2 : Int))) (0 : Int)) = (maxI (wrap64 ((v0.2.2.length : Int) - (2 : Int))) (0 : Int))) ∧ ((0 : Int) = 0) ∧ (((maxI (wrap64 ((v0.2.2.length : Int) - (2 : Int))) (0 : Int)).toNat + [(1 : Int)].length) * 8 ≤ lim) ∧ (∃ m_, m_ < m ∧ (L53 columns e) 0 m_ (⟨[(0, .data (Ty.sl TColumn) columns), (1, .data (Ty.sl TPart) e), (5, .own 16 none), (6, .data Ty.bool false), (7, .data (Ty.int .i64) (wrap64 (v0.2.1 + (1 : Int))))], [(16, .arr (Ty.int .i64) (v0.2.2.take (maxI (wrap64 ((v0.2.2.length : Int) - (2 : Int))) (0 : Int)).toNat ++ [(1 : Int)]))]⟩ : St) K))) ((0 ≤ (0 : Int)) ∧ ((0 : Int) ≤ (maxI (wrap64 ((v0.2.2.length : Int) - (2 : Int))) (0 : Int))) ∧ ((maxI (wrap64 ((v0.2.2.length : Int) - (2 : Int))) (0 : Int)) ≤ (v0.2.2.length : Int)) ∧ ((maxI (wrap64 ((v0.2.2.length : Int) - (2 : Int))) (0 : Int)) = (maxI (wrap64 ((v0.2.2.length : Int) - (2 : Int))) (0 : Int))) ∧ ((0 : Int) = 0) ∧ (((maxI (wrap64 ((v0.2.2.length : Int) - (2 : Int))) (0 : Int)).toNat + [(1 : Int)].length) * 8 ≤ lim) ∧ (∃ m_, m_ < m ∧ (L53 columns e) 0 m_ (⟨[(0, .data (Ty.sl TColumn) columns), (1, .data (Ty.sl TPart) e), (5, .own 16 none), (6, .data Ty.bool false), (7, .data (Ty.int .i64) (wrap64 (v0.2.1 + (1 : Int))))], [(16, .arr (Ty.int .i64) (v0.2.2.take (maxI (wrap64 ((v0.2.2.length : Int) - (2 : Int))) (0 : Int)).toNat ++ [(1 : Int)]))]⟩ : St) K))) (cond (decide ((nth (t := TPart) e v0.2.1).1 = (4 : Int))) (cond ((decide ((1 : Int) < (v0.2.2.length : Int))) == true) ((0 ≤ wrap64 ((v0.2.2.length : Int) - (1 : Int))) ∧ (wrap64 ((v0.2.2.length : Int) - (1 : Int)) < (v0.2.2.length : Int)) ∧ (0 ≤ wrap64 ((v0.2.2.length : Int) - (2 : Int))) ∧ (wrap64 ((v0.2.2.length : Int) - (2 : Int)) < (v0.2.2.length : Int)) ∧ cond ((decide ((nth (t := (Ty.int .i64)) v0.2.2 (wrap64 ((v0.2.2.length : Int) - (1 : Int)))) = (nth (t := (Ty.int .i64)) v0.2.2 (wrap64 ((v0.2.2.length : Int) - (2 : Int)))))) == true) ((0 ≤ (0 : Int)) ∧ ((0 : Int) ≤ (maxI (wrap64 ((v0.2.2.length : Int) - (2 : Int))) (0 : Int))) ∧ ((maxI (wrap64 ((v0.2.2.length : Int) - (2 : Int))) (0 : Int)) ≤ (v0.2.2.length : Int)) ∧ ((maxI (wrap64 ((v0.2.2.length : Int) - (2 : Int))) (0 : Int)) = (maxI (wrap64 ((v0.2.2.length : Int) - (2 : Int))) (0 : Int))) ∧ ((0 : Int) = 0) ∧ (((maxI (wrap64 ((v0.2.2.length : Int) - (2 : Int))) (0 : Int)).toNat + [(3 : Int)].length) * 8 ≤ lim) ∧ (∃ m_, m_ < m ∧ (L53 columns e) 0 m_ (⟨[(0, .data (Ty.sl TColumn) columns), (1, .data (Ty.sl TPart) e), (5, .own 16 none), (6, .data Ty.bool (M.inR (((nth (t := TPart) e v0.2.1).2).1) (1 : Int) (4 : Int))), (7, .data (Ty.int .i64) (wrap64 (v0.2.1 + (1 : Int))))], [(16, .arr (Ty.int .i64) (v0.2.2.take (maxI (wrap64 ((v0.2.2.length : Int) - (2 : Int))) (0 : Int)).toNat ++ [(3 : Int)]))]⟩ : St) K)) ((0 ≤ (0 : Int)) ∧ ((0 : Int) ≤ (maxI (wrap64 ((v0.2.2.length : Int) - (2 : Int))) (0 : Int))) ∧ ((maxI (wrap64 ((v0.2.2.length : Int) - (2 : Int))) (0 : Int)) ≤ (v0.2.2.length : Int)) ∧ ((maxI (wrap64 ((v0.2.2.length : Int) - (2 : Int))) (0 : Int)) = (maxI (wrap64 ((v0.2.2.length : Int) - (2 : Int))) (0 : Int))) ∧ ((0 : Int) = 0) ∧ (((maxI (wrap64 ((v0.2.2.length : Int) - (2 : Int))) (0 : Int)).toNat + [(3 : Int)].length) * 8 ≤ lim) ∧ (∃ m_, m_ < m ∧ (L53 columns e) 0 m_ (⟨[(0, .data (Ty.sl TColumn) columns), (1, .data (Ty.sl TPart) e), (5, .own 16 none), (6, .data Ty.bool false), (7, .data (Ty.int .i64) (wrap64 (v0.2.1 + (1 : Int))))], [(16, .arr (Ty.int .i64) (v0.2.2.take (maxI (wrap64 ((v0.2.2.length : Int) - (2 : Int))) (0 : Int)).toNat ++ [(3 : Int)]))]⟩ : St) K))) ((0 ≤ (0 : Int)) ∧ ((0 : Int) ≤ (maxI (wrap64 ((v0.2.2.length : Int) - (2 : Int))) (0 : Int))) ∧ ((maxI (wrap64 ((v0.2.2.length : Int) - (2 : Int))) (0 : Int)) ≤ (v0.2.2.length : Int)) ∧ ((maxI (wrap64 ((v0.2.2.length : Int) - (2 : Int))) (0 : Int)) = (maxI (wrap64 ((v0.2.2.length : Int) - (2 : Int))) (0 : Int))) ∧ ((0 : Int) = 0) ∧ (((maxI (wrap64 ((v0.2.2.length : Int) - (2 : Int))) (0 : Int)).toNat + [(3 : Int)].length) * 8 ≤ lim) ∧ (∃ m_, m_ < m ∧ (L53 columns e) 0 m_ (⟨[(0, .data (Ty.sl TColumn) columns), (1, .data (Ty.sl TPart) e), (5, .own 16 none), (6, .data Ty.bool false), (7, .data (Ty.int .i64) (wrap64 (v0.2.1 + (1 : Int))))], [(16, .arr (Ty.int .i64) (v0.2.2.take (maxI (wrap64 ((v0.2.2.length : Int) - (2 : Int))) (0 : Int)).toNat ++ [(3 : Int)]))]⟩ : St) K))) (cond (decide ((nth (t := TPart) e v0.2.1).1 = (5 : Int))) (cond (decide ((nth (t := TPart) e v0.2.1).1 = (5 : Int))) (cond ((decide ((1 : Int) < (v0.2.2.length : Int))) == true) ((0 ≤ wrap64 ((v0.2.2.length : Int) - (1 : Int))) ∧ (wrap64 ((v0.2.2.length : Int) - (1 : Int)) < (v0.2.2.length : Int)) ∧ cond ((decide ((nth (t := (Ty.int .i64)) v0.2.2 (wrap64 ((v0.2.2.length : Int) - (1 : Int)))) = (3 : Int))) == true) ((0 ≤ wrap64 ((v0.2.2.length : Int) - (2 : Int))) ∧ (wrap64 ((v0.2.2.length : Int) - (2 : Int)) < (v0.2.2.length : Int)) ∧ (0 ≤ (0 : Int)) ∧ ((0 : Int) ≤ (maxI (wrap64 ((v0.2.2.length : Int) - (2 : Int))) (0 : Int))) ∧ ((maxI (wrap64 ((v0.2.2.length : Int) - (2 : Int))) (0 : Int)) ≤ (v0.2.2.length : Int)) ∧ ((maxI (wrap64 ((v0.2.2.length : Int) - (2 : Int))) (0 : Int)) = (maxI (wrap64 ((v0.2.2.length : Int) - (2 : Int))) (0 : Int))) ∧ ((0 : Int) = 0) ∧ (((maxI (wrap64 ((v0.2.2.length : Int) - (2 : Int))) (0 : Int)).toNat + [(3 : Int)].length) * 8 ≤ lim) ∧ (∃ m_, m_ < m ∧ (L53 columns e) 0 m_ (⟨[(0, .data (Ty.sl TColumn) columns), (1, .data (Ty.sl TPart) e), (5, .own 16 none), (6, .data Ty.bool (decide ((nth (t := (Ty.int .i64)) v0.2.2 (wrap64 ((v0.2.2.length : Int) - (2 : Int)))) = (3 : Int)))), (7, .data (Ty.int .i64) (wrap64 (v0.2.1 + (1 : Int))))], [(16, .arr (Ty.int .i64) (v0.2.2.take (maxI (wrap64 ((v0.2.2.length : Int) - (2 : Int))) (0 : Int)).toNat ++ [(3 : Int)]))]⟩ : St) K)) ((0 ≤ (0 : Int)) ∧ ((0 : Int) ≤ (maxI (wrap64 ((v0.2.2.length : Int) - (2 : Int))) (0 : Int))) ∧ ((maxI (wrap64 ((v0.2.2.length : Int) - (2 : Int))) (0 : Int)) ≤ (v0.2.2.length : Int)) ∧ ((maxI (wrap64 ((v0.2.2.length : Int) - (2 : Int))) (0 : Int)) = (maxI (wrap64 ((v0.2.2.length : Int) - (2 : Int))) (0 : Int))) ∧ ((0 : Int) = 0) ∧ (((maxI (wrap64 ((v0.2.2.length : Int) - (2 : Int))) (0 : Int)).toNat + [(3 : Int)].length) * 8 ≤ lim) ∧ (∃ m_, m_ < m ∧ (L53 columns e) 0 m_ (⟨[(0, .data (Ty.sl TColumn) columns), (1, .data (Ty.sl TPart) e), (5, .own 16 none), (6, .data Ty.bool false), (7, .data (Ty.int .i64) (wrap64 (v0.2.1 + (1 : Int))))], [(16, .arr (Ty.int .i64) (v0.2.2.take (maxI (wrap64 ((v0.2.2.length : Int) - (2 : Int))) (0 : Int)).toNat ++ [(3 : Int)]))]⟩ : St) K))) ((0 ≤ (0 : Int)) ∧ ((0 : Int) ≤ (maxI (wrap64 ((v0.2.2.length : Int) - (2 : Int))) (0 : Int))) ∧ ((maxI (wrap64 ((v0.2.2.length : Int) - (2 : Int))) (0 : Int)) ≤ (v0.2.2.length : Int)) ∧ ((maxI (wrap64 ((v0.2.2.length : Int) - (2 : Int))) (0 : Int)) = (maxI (wrap64 ((v0.2.2.length : Int) - (2 : Int))) (0 : Int))) ∧ ((0 : Int) = 0) ∧ (((maxI (wrap64 ((v0.2.2.length : Int) - (2 : Int))) (0 : Int)).toNat + [(3 : Int)].length) * 8 ≤ lim) ∧ (∃ m_, m_ < m ∧ (L53 columns e) 0 m_ (⟨[(0, .data (Ty.sl TColumn) columns), (1, .data (Ty.sl TPart) e), (5, .own 16 none), (6, .data Ty.bool false), (7, .data (Ty.int .i64) (wrap64 (v0.2.1 + (1 : Int))))], [(16, .arr (Ty.int .i64) (v0.2.2.take (maxI (wrap64 ((v0.2.2.length : Int) - (2 : Int))) (0 : Int)).toNat ++ [(3 : Int)]))]⟩ : St) K))) (cond (decide ((nth (t := TPart) e v0.2.1).1 = (7 : Int))) (cond ((decide ((0 : Int) < (v0.2.2.length : Int))) == true) ((0 ≤ wrap64 ((v0.2.2.length : Int) - (1 : Int))) ∧ (wrap64 ((v0.2.2.length : Int) - (1 : Int)) < (v0.2.2.length : Int)) ∧ (∃ m_, m_ < m ∧ (L53 columns e) 0 m_ (⟨[(0, .data (Ty.sl TColumn) columns), (1, .data (Ty.sl TPart) e), (5, .own 16 none), (6, .data Ty.bool (decide ((nth (t := (Ty.int .i64)) v0.2.2 (wrap64 ((v0.2.2.length : Int) - (1 : Int)))) = (3 : Int)))), (7, .data (Ty.int .i64) (wrap64 (v0.2.1 + (1 : Int))))], [(16, .arr (Ty.int .i64) v0.2.2)]⟩ : St) K)) ((∃ m_, m_ < m ∧ (L53 columns e) 0 m_ (⟨[(0, .data (Ty.sl TColumn) columns), (1, .data (Ty.sl TPart) e), (5, .own 16 none), (6, .data Ty.bool false), (7, .data (Ty.int .i64) (wrap64 (v0.2.1 + (1 : Int))))], [(16, .arr (Ty.int .i64) v0.2.2)]⟩ : St) K))) (cond (decide ((nth (t := TPart) e v0.2.1).1 = (8 : Int))) ((0 ≤ (0 : Int)) ∧ ((0 : Int) ≤ (maxI (wrap64 ((v0.2.2.length : Int) - (1 : Int))) (0 : Int))) ∧ ((maxI (wrap64 ((v0.2.2.length : Int) - (1 : Int))) (0 : Int)) ≤ (v0.2.2.length : Int)) ∧ ((maxI (wrap64 ((v0.2.2.length : Int) - (1 : Int))) (0 : Int)) = (maxI (wrap64 ((v0.2.2.length : Int) - (1 : Int))) (0 : Int))) ∧ ((0 : Int) = 0) ∧ (((maxI (wrap64 ((v0.2.2.length : Int) - (1 : Int))) (0 : Int)).toNat + [(3 : Int)].length) * 8 ≤ lim) ∧ (∃ m_, m_ < m ∧ (L53 columns e) 0 m_ (⟨[(0, .data (Ty.sl TColumn) columns), (1, .data (Ty.sl TPart) e), (5, .own 16 none), (6, .data Ty.bool (decide ((0 : Int) < (v0.2.2.length : Int)))), (7, .data (Ty.int .i64) (wrap64 (v0.2.1 + (1 : Int))))], [(16, .arr (Ty.int .i64) (v0.2.2.take (maxI (wrap64 ((v0.2.2.length : Int) - (1 : Int))) (0 : Int)).toNat ++ [(3 : Int)]))]⟩ : St) K)) ((∃ m_, m_ < m ∧ (L53 columns e) 0 m_ (⟨[(0, .data (Ty.sl TColumn) columns), (1, .data (Ty.sl TPart) e), (5, .own 16 none), (6, .data Ty.bool false), (7, .data (Ty.int .i64) (wrap64 (v0.2.1 + (1 : Int))))], [(16, .arr (Ty.int .i64) v0.2.2)]⟩ : St) K))))) (cond (decide ((nth (t := TPart) e v0.2.1).1 = (6 : Int))) (cond ((decide ((1 : Int) < (v0.2.2.length : Int))) == true) ((0 ≤ wrap64 ((v0.2.2.length : Int) - (1 : Int))) ∧ (wrap64 ((v0.2.2.length : Int) - (1 : Int)) < (v0.2.2.length : Int)) ∧ cond ((decide ((nth (t := (Ty.int .i64)) v0.2.2 (wrap64 ((v0.2.2.length : Int) - (1 : Int)))) = (3 : Int))) == true) ((0 ≤ wrap64 ((v0.2.2.length : Int) - (2 : Int))) ∧ (wrap64 ((v0.2.2.length : Int) - (2 : Int)) < (v0.2.2.length : Int)) ∧ (0 ≤ (0 : Int)) ∧ ((0 : Int) ≤ (maxI (wrap64 ((v0.2.2.length : Int) - (2 : Int))) (0 : Int))) ∧ ((maxI (wrap64 ((v0.2.2.length : Int) - (2 : Int))) (0 : Int)) ≤ (v0.2.2.length : Int)) ∧ ((maxI (wrap64 ((v0.2.2.length : Int) - (2 : Int))) (0 : Int)) = (maxI (wrap64 ((v0.2.2.length : Int) - (2 : Int))) (0 : Int))) ∧ ((0 : Int) = 0) ∧ (((maxI (wrap64 ((v0.2.2.length : Int) - (2 : Int))) (0 : Int)).toNat + [(3 : Int)].length) * 8 ≤ lim) ∧ (∃ m_, m_ < m ∧ (L53 columns e) 0 m_ (⟨[(0, .data (Ty.sl TColumn) columns), (1, .data (Ty.sl TPart) e), (5, .own 16 none), (6, .data Ty.bool (decide ((nth (t := (Ty.int .i64)) v0.2.2 (wrap64 ((v0.2.2.length : Int) - (2 : Int)))) = (3 : Int)))), (7, .data (Ty.int .i64) (wrap64 (v0.2.1 + (1 : Int))))], [(16, .arr (Ty.int .i64) (v0.2.2.take (maxI (wrap64 ((v0.2.2.length : Int) - (2 : Int))) (0 : Int)).toNat ++ [(3 : Int)]))]⟩ : St) K)) ((0 ≤ (0 : Int)) ∧ ((0 : Int) ≤ (maxI (wrap64 ((v0.2.2.length : Int) - (2 : Int))) (0 : Int))) ∧ ((maxI (wrap64 ((v0.2.2.length : Int) - (2 : Int))) (0 : Int)) ≤ (v0.2.2.length : Int)) ∧ ((maxI (wrap64 ((v0.2.2.length : Int) - (2 : Int))) (0 : Int)) = (maxI (wrap64 ((v0.2.2.length : Int) - (2 : Int))) (0 : Int))) ∧ ((0 : Int) = 0) ∧ (((maxI (wrap64 ((v0.2.2.length : Int) - (2 : Int))) (0 : Int)).toNat + [(3 : Int)].length) * 8 ≤ lim) ∧ (∃ m_, m_ < m ∧ (L53 columns e) 0 m_ (⟨[(0, .data (Ty.sl TColumn) columns), (1, .data (Ty.sl TPart) e), (5, .own 16 none), (6, .data Ty.bool false), (7, .data (Ty.int .i64) (wrap64 (v0.2.1 + (1 : Int))))], [(16, .arr (Ty.int .i64) (v0.2.2.take (maxI (wrap64 ((v0.2.2.length : Int) - (2 : Int))) (0 : Int)).toNat ++ [(3 : Int)]))]⟩ : St) K))) ((0 ≤ (0 : Int)) ∧ ((0 : Int) ≤ (maxI (wrap64 ((v0.2.2.length : Int) - (2 : Int))) (0 : Int))) ∧ ((maxI (wrap64 ((v0.2.2.length : Int) - (2 : Int))) (0 : Int)) ≤ (v0.2.2.length : Int)) ∧ ((maxI (wrap64 ((v0.2.2.length : Int) - (2 : Int))) (0 : Int)) = (maxI (wrap64 ((v0.2.2.length : Int) - (2 : Int))) (0 : Int))) ∧ ((0 : Int) = 0) ∧ (((maxI (wrap64 ((v0.2.2.length : Int) - (2 : Int))) (0 : Int)).toNat + [(3 : Int)].length) * 8 ≤ lim) ∧ (∃ m_, m_ < m ∧ (L53 columns e) 0 m_ (⟨[(0, .data (Ty.sl TColumn) columns), (1, .data (Ty.sl TPart) e), (5, .own 16 none), (6, .data Ty.bool false), (7, .data (Ty.int .i64) (wrap64 (v0.2.1 + (1 : Int))))], [(16, .arr (Ty.int .i64) (v0.2.2.take (maxI (wrap64 ((v0.2.2.length : Int) - (2 : Int))) (0 : Int)).toNat ++ [(3 : Int)]))]⟩ : St) K))) (cond (decide ((nth (t := TPart) e v0.2.1).1 = (7 : Int))) (cond ((decide ((0 : Int) < (v0.2.2.length : Int))) == true) ((0 ≤ wrap64 ((v0.2.2.length : Int) - (1 : Int))) ∧ (wrap64 ((v0.2.2.length : Int) - (1 : Int)) < (v0.2.2.length : Int)) ∧ (∃ m_, m_ < m ∧ (L53 columns e) 0 m_ (⟨[(0, .data (Ty.sl TColumn) columns), (1, .data (Ty.sl TPart) e), (5, .own 16 none), (6, .data Ty.bool (decide ((nth (t := (Ty.int .i64)) v0.2.2 (wrap64 ((v0.2.2.length : Int) - (1 : Int)))) = (3 : Int)))), (7, .data (Ty.int .i64) (wrap64 (v0.2.1 + (1 : Int))))], [(16, .arr (Ty.int .i64) v0.2.2)]⟩ : St) K)) ((∃ m_, m_ < m ∧ (L53 columns e) 0 m_ (⟨[(0, .data (Ty.sl TColumn) columns), (1, .data (Ty.sl TPart) e), (5, .own 16 none), (6, .data Ty.bool false), (7, .data (Ty.int .i64) (wrap64 (v0.2.1 + (1 : Int))))], [(16, .arr (Ty.int .i64) v0.2.2)]⟩ : St) K))) (cond (decide ((nth (t := TPart) e v0.2.1).1 = (8 : Int))) ((0 ≤ (0 : Int)) ∧ ((0 : Int) ≤ (maxI (wrap64 ((v0.2.2.length : Int) - (1 : Int))) (0 : Int))) ∧ ((maxI (wrap64 ((v0.2.2.length : Int) - (1 : Int))) (0 : Int)) ≤ (v0.2.2.length : Int)) ∧ ((maxI (wrap64 ((v0.2.2.length : Int) - (1 : Int))) (0 : Int)) = (maxI (wrap64 ((v0.2.2.length : Int) - (1 : Int))) (0 : Int))) ∧ ((0 : Int) = 0) ∧ (((maxI (wrap64 ((v0.2.2.length : Int) - (1 : Int))) (0 : Int)).toNat + [(3 : Int)].length) * 8 ≤ lim) ∧ (∃ m_, m_ < m ∧ (L53 columns e) 0 m_ (⟨[(0, .data (Ty.sl TColumn) columns), (1, .data (Ty.sl TPart) e), (5, .own 16 none), (6, .data Ty.bool (decide ((0 : Int) < (v0.2.2.length : Int)))), (7, .data (Ty.int .i64) (wrap64 (v0.2.1 + (1 : Int))))], [(16, .arr (Ty.int .i64) (v0.2.2.take (maxI (wrap64 ((v0.2.2.length : Int) - (1 : Int))) (0 : Int)).toNat ++ [(3 : Int)]))]⟩ : St) K)) ((∃ m_, m_ < m ∧ (L53 columns e) 0 m_ (⟨[(0, .data (Ty.sl TColumn) columns), (1, .data (Ty.sl TPart) e), (5, .own 16 none), (6, .data Ty.bool false), (7, .data (Ty.int .i64) (wrap64 (v0.2.1 + (1 : Int))))], [(16, .arr (Ty.int .i64) v0.2.2)]⟩ : St) K))))))))))) (cond (decide ((nth (t := TPart) e v0.2.1).1 = (1 : Int))) ((Sm TValue ((((nth (t := TPart) e v0.2.1).2).2).1)) ∧ cond ((!(M.valueOk ((((nth (t := TPart) e v0.2.1).2).2).1))) == false) (cond (decide (((((nth (t := TPart) e v0.2.1).2).2).1).1 = (0 : Int))) ((∃ m_, m_ < m ∧ (L53 columns e) 0 m_ (⟨[(0, .data (Ty.sl TColumn) columns), (1, .data (Ty.sl TPart) e), (5, .own 16 none), (6, .data Ty.bool false), (7, .data (Ty.int .i64) (wrap64 (v0.2.1 + (1 : Int))))], [(16, .arr (Ty.int .i64) v0.2.2)]⟩ : St) K)) (((v0.2.2.length + [((((nth (t := TPart) e v0.2.1).2).2).1).1].length) * 8 ≤ lim) ∧ (∃ m_, m_ < m ∧ (L53 columns e) 0 m_ (⟨[(0, .data (Ty.sl TColumn) columns), (1, .data (Ty.sl TPart) e), (5, .own 16 none), (6, .data Ty.bool true), (7, .data (Ty.int .i64) (wrap64 (v0.2.1 + (1 : Int))))], [(16, .arr (Ty.int .i64) (v0.2.2 ++ [((((nth (t := TPart) e v0.2.1).2).2).1).1]))]⟩ : St) K))) ((∃ m_, m_ < m ∧ (L53 columns e) 0 m_ (⟨[(0, .data (Ty.sl TColumn) columns), (1, .data (Ty.sl TPart) e), (5, .own 16 none), (6, .data Ty.bool false), (7, .data (Ty.int .i64) (wrap64 (v0.2.1 + (1 : Int))))], [(16, .arr (Ty.int .i64) v0.2.2)]⟩ : St) K))) (cond (decide ((nth (t := TPart) e v0.2.1).1 = (2 : Int))) (cond (!(M.inR (((nth (t := TPart) e v0.2.1).2).1) (0 : Int) (wrap64 ((columns.length : Int) - (1 : Int))))) ((∃ m_, m_ < m ∧ (L53 columns e) 0 m_ (⟨[(0, .data (Ty.sl TColumn) columns), (1, .data (Ty.sl TPart) e), (5, .own 16 none), (6, .data Ty.bool false), (7, .data (Ty.int .i64) (wrap64 (v0.2.1 + (1 : Int))))], [(16, .arr (Ty.int .i64) v0.2.2)]⟩ : St) K)) ((0 ≤ ((nth (t := TPart) e v0.2.1).2).1) ∧ (((nth (t := TPart) e v0.2.1).2).1 < (columns.length : Int)) ∧ ((v0.2.2.length + [(nth (t := TColumn) columns (((nth (t := TPart) e v0.2.1).2).1)).1].length) * 8 ≤ lim) ∧ (∃ m_, m_ < m ∧ (L53 columns e) 0 m_ (⟨[(0, .data (Ty.sl TColumn) columns), (1, .data (Ty.sl TPart) e), (5, .own 16 none), (6, .data Ty.bool true), (7, .data (Ty.int .i64) (wrap64 (v0.2.1 + (1 : Int))))], [(16, .arr (Ty.int .i64) (v0.2.2 ++ [(nth (t := TColumn) columns (((nth (t := TPart) e v0.2.1).2).1)).1]))]⟩ : St) K))) (cond (decide ((nth (t := TPart) e v0.2.1).1 = (3 : Int))) (cond ((decide ((1 : Int) < (v0.2.2.length : Int))) == true) ((0 ≤ wrap64 ((v0.2.2.length : Int) - (1 : Int))) ∧ (wrap64 ((v0.2.2.length : Int) - (1 : Int)) < (v0.2.2.length : Int)) ∧ cond ((decide ((nth (t := (Ty.int .i64)) v0.2.2 (wrap64 ((v0.2.2.length : Int) - (1 : Int)))) = (1 : Int))) == true) ((0 ≤ wrap64 ((v0.2.2.length : Int) - (2 : Int))) ∧ (wrap64 ((v0.2.2.length : Int) - (2 : Int)) < (v0.2.2.length : Int)) ∧ (0 ≤ (0 : Int)) ∧ ((0 : Int) ≤ (maxI (wrap64 ((v0.2.2.length : Int) - (2 : Int))) (0 : Int))) ∧ ((maxI (wrap64 ((v0.2.2.length : Int) - (2 : Int))) (0 : Int)) ≤ (v0.2.2.length : Int)) ∧ ((maxI (wrap64 ((v0.2.2.length : Int) - (2 : Int))) (0 : Int)) = (maxI (wrap64 ((v0.2.2.length : Int) - (2 : Int))) (0 : Int))) ∧ ((0 : Int) = 0) ∧ (((maxI (wrap64 ((v0.2.2.length : Int) - (2 : Int))) (0 : Int)).toNat + [(1 : Int)].length) * 8 ≤ lim) ∧ (∃ m_, m_ < m ∧ (L53 columns e) 0 m_ (⟨[(0, .data (Ty.sl TColumn) columns), (1, .data (Ty.sl TPart) e), (5, .own 16 none), (6, .data Ty.bool (decide ((nth (t := (Ty.int .i64)) v0.2.2 (wrap64 ((v0.2.2.length : Int) - (2 : Int)))) = (1 : Int)))), (7, .data (Ty.int .i64) (wrap64 (v0.2.1 + (1 : Int))))], [(16, .arr (Ty.int .i64) (v0.2.2.take (maxI (wrap64 ((v0.2.2.length : Int) - (2 : Int))) (0 : Int)).toNat ++ [(1 : Int)]))]⟩ : St) K)) ((0 ≤ (0 : Int)) ∧ ((0 : Int) ≤ (maxI (wrap64 ((v0.2.2.length : Int) - (2 : Int))) (0 : Int))) ∧ ((maxI (wrap64 ((v0.2.2.length : Int) - (2 : Int))) (0 : Int)) ≤ (v0.2.2.length : Int)) ∧ ((maxI (wrap64 ((v0.2.2.length : Int) - (2 : Int))) (0 : Int)) = (maxI (wrap64 ((v0.2.2.length : Int) - (2 : Int))) (0 : Int))) ∧ ((0 : Int) = 0) ∧ (((maxI (wrap64 ((v0.2.2.length : Int) - (2 : Int))) (0 : Int)).toNat + [(1 : Int)].length) * 8 ≤ lim) ∧ (∃ m_, m_ < m ∧ (L53 columns e) 0 m_ (⟨[(0, .data (Ty.sl TColumn) columns), (1, .data (Ty.sl TPart) e), (5, .own 16 none), (6, .data Ty.bool false), (7, .data (Ty.int .i64) (wrap64 (v0.2.1 + (1 : Int))))], [(16, .arr (Ty.int .i64) (v0.2.2.take (maxI (wrap64 ((v0.2.2.length : Int) - (2 : Int))) (0 : Int)).toNat ++ [(1 : Int)]))]⟩ : St) K))) ((0 ≤ (0 : Int)) ∧ ((0 : Int) ≤ (maxI (wrap64 ((v0.2.2.length : Int) - (2 : Int))) (0 : Int))) ∧ ((maxI (wrap64 ((v0.2.2.length : Int) - (2 : Int))) (0 : Int)) ≤ (v0.2.2.length : Int)) ∧ ((maxI (wrap64 ((v0.2.2.length : Int) - (2 : Int))) (0 : Int)) = (maxI (wrap64 ((v0.2.2.length : Int) - (2 : Int))) (0 : Int))) ∧ ((0 : Int) = 0) ∧ (((maxI (wrap64 ((v0.2.2.length : Int) - (2 : Int))) (0 : Int)).toNat + [(1 : Int)].length) * 8 ≤ lim) ∧ (∃ m_, m_ < m ∧ (L53 columns e) 0 m_ (⟨[(0, .data (Ty.sl TColumn) columns), (1, .data (Ty.sl TPart) e), (5, .own 16 none), (6, .data Ty.bool false), (7, .data (Ty.int .i64) (wrap64 (v0.2.1 + (1 : Int))))], [(16, .arr (Ty.int .i64) (v0.2.2.take (maxI (wrap64 ((v0.2.2.length : Int) - (2 : Int))) (0 : Int)).toNat ++ [(1 : Int)]))]⟩ : St) K))) (cond (decide ((nth (t := TPart) e v0.2.1).1 = (4 : Int))) (cond ((decide ((1 : Int) < (v0.2.2.length : Int))) == true) ((0 ≤ wrap64 ((v0.2.2.length : Int) - (1 : Int))) ∧ (wrap64 ((v0.2.2.length : Int) - (1 : Int)) < (v0.2.2.length : Int)) ∧ (0 ≤ wrap64 ((v0.2.2.length : Int) - (2 : Int))) ∧ (wrap64 ((v0.2.2.length : Int) - (2 : Int)) < (v0.2.2.length : Int)) ∧ cond ((decide ((nth (t := (Ty.int .i64)) v0.2.2 (wrap64 ((v0.2.2.length : Int) - (1 : Int)))) = (nth (t := (Ty.int .i64)) v0.2.2 (wrap64 ((v0.2.2.length : Int) - (2 : Int)))))) == true) ((0 ≤ (0 : Int)) ∧ ((0 : Int) ≤ (maxI (wrap64 ((v0.2.2.length : Int) - (2 : Int))) (0 : Int))) ∧ ((maxI (wrap64 ((v0.2.2.length : Int) - (2 : Int))) (0 : Int)) ≤ (v0.2.2.length : Int)) ∧ ((maxI (wrap64 ((v0.2.2.length : Int) - (2 : Int))) (0 : Int)) = (maxI (wrap64 ((v0.2.2.length : Int) - (2 : Int))) (0 : Int))) ∧ ((0 : Int) = 0) ∧ (((maxI (wrap64 ((v0.2.2.length : Int) - (2 : Int))) (0 : Int)).toNat + [(3 : Int)].length) * 8 ≤ lim) ∧ (∃ m_, m_ < m ∧ (L53 columns e) 0 m_ (⟨[(0, .data (Ty.sl TColumn) columns), (1, .data (Ty.sl TPart) e), (5, .own 16 none), (6, .data Ty.bool (M.inR (((nth (t := TPart) e v0.2.1).2).1) (1 : Int) (4 : Int))), (7, .data (Ty.int .i64) (wrap64 (v0.2.1 + (1 : Int))))], [(16, .arr (Ty.int .i64) (v0.2.2.take (maxI (wrap64 ((v0.2.2.length : Int) - (2 : Int))) (0 : Int)).toNat ++ [(3 : Int)]))]⟩ : St) K)) ((0 ≤ (0 : Int)) ∧ ((0 : Int) ≤ (maxI (wrap64 ((v0.2.2.length : Int) - (2 : Int))) (0 : Int))) ∧ ((maxI (wrap64 ((v0.2.2.length : Int) - (2 : Int))) (0 : Int)) ≤ (v0.2.2.length : Int)) ∧ ((maxI (wrap64 ((v0.2.2.length : Int) - (2 : Int))) (0 : Int)) = (maxI (wrap64 ((v0.2.2.length : Int) - (2 : Int))) (0 : Int))) ∧ ((0 : Int) = 0) ∧ (((maxI (wrap64 ((v0.2.2.length : Int) - (2 : Int))) (0 : Int)).toNat + [(3 : Int)].length) * 8 ≤ lim) ∧ (∃ m_, m_ < m ∧ (L53 columns e) 0 m_ (⟨[(0, .data (Ty.sl TColumn) columns), (1, .data (Ty.sl TPart) e), (5, .own 16 none), (6, .data Ty.bool false), (7, .data (Ty.int .i64) (wrap64 (v0.2.1 + (1 : Int))))], [(16, .arr (Ty.int .i64) (v0.2.2.take (maxI (wrap64 ((v0.2.2.length : Int) - (2 : Int))) (0 : Int)).toNat ++ [(3 : Int)]))]⟩ : St) K))) ((0 ≤ (0 : Int)) ∧ ((0 : Int) ≤ (maxI (wrap64 ((v0.2.2.length : Int) - (2 : Int))) (0 : Int))) ∧ ((maxI (wrap64 ((v0.2.2.length : Int) - (2 : Int))) (0 : Int)) ≤ (v0.2.2.length : Int)) ∧ ((maxI (wrap64 ((v0.2.2.length : Int) - (2 : Int))) (0 : Int)) = (maxI (wrap64 ((v0.2.2.length : Int) - (2 : Int))) (0 : Int))) ∧ ((0 : Int) = 0) ∧ (((maxI (wrap64 ((v0.2.2.length : Int) - (2 : Int))) (0 : Int)).toNat + [(3 : Int)].length) * 8 ≤ lim) ∧ (∃ m_, m_ < m ∧ (L53 columns e) 0 m_ (⟨[(0, .data (Ty.sl TColumn) columns), (1, .data (Ty.sl TPart) e), (5, .own 16 none), (6, .data Ty.bool false), (7, .data (Ty.int .i64) (wrap64 (v0.2.1 + (1 : Int))))], [(16, .arr (Ty.int .i64) (v0.2.2.take (maxI (wrap64 ((v0.2.2.length : Int) - (2 : Int))) (0 : Int)).toNat ++ [(3 : Int)]))]⟩ : St) K))) (cond (decide ((nth (t := TPart) e v0.2.1).1 = (5 : Int))) (cond (decide ((nth (t := TPart) e v0.2.1).1 = (5 : Int))) (cond ((decide ((1 : Int) < (v0.2.2.length : Int))) == true) ((0 ≤ wrap64 ((v0.2.2.length : Int) - (1 : Int))) ∧ (wrap64 ((v0.2.2.length : Int) - (1 : Int)) < (v0.2.2.length : Int)) ∧ cond ((decide ((nth (t := (Ty.int .i64)) v0.2.2 (wrap64 ((v0.2.2.length : Int) - (1 : Int)))) = (3 : Int))) == true) ((0 ≤ wrap64 ((v0.2.2.length : Int) - (2 : Int))) ∧ (wrap64 ((v0.2.2.length : Int) - (2 : Int)) < (v0.2.2.length : Int)) ∧ (0 ≤ (0 : Int)) ∧ ((0 : Int) ≤ (maxI (wrap64 ((v0.2.2.length : Int) - (2 : Int))) (0 : Int))) ∧ ((maxI (wrap64 ((v0.2.2.length : Int) - (2 : Int))) (0 : Int)) ≤ (v0.2.2.length : Int)) ∧ ((maxI (wrap64 ((v0.2.2.length : Int) - (2 : Int))) (0 : Int)) = (maxI (wrap64 ((v0.2.2.length : Int) - (2 : Int))) (0 : Int))) ∧ ((0 : Int) = 0) ∧ (((maxI (wrap64 ((v0.2.2.length : Int) - (2 : Int))) (0 : Int)).toNat + [(3 : Int)].length) * 8 ≤ lim) ∧ (∃ m_, m_ < m ∧ (L53 columns e) 0 m_ (⟨[(0, .data (Ty.sl TColumn) columns), (1, .data (Ty.sl TPart) e), (5, .own 16 none), (6, .data Ty.bool (decide ((nth (t := (Ty.int .i64)) v0.2.2 (wrap64 ((v0.2.2.length : Int) - (2 : Int)))) = (3 : Int)))), (7, .data (Ty.int .i64) (wrap64 (v0.2.1 + (1 : Int))))], [(16, .arr (Ty.int .i64) (v0.2.2.take (maxI (wrap64 ((v0.2.2.length : Int) - (2 : Int))) (0 : Int)).toNat ++ [(3 : Int)]))]⟩ : St) K)) ((0 ≤ (0 : Int)) ∧ ((0 : Int) ≤ (maxI (wrap64 ((v0.2.2.length : Int) - (2 : Int))) (0 : Int))) ∧ ((maxI (wrap64 ((v0.2.2.length : Int) - (2 : Int))) (0 : Int)) ≤ (v0.2.2.length : Int)) ∧ ((maxI (wrap64 ((v0.2.2.length : Int) - (2 : Int))) (0 : Int)) = (maxI (wrap64 ((v0.2.2.length : Int) - (2 : Int))) (0 : Int))) ∧ ((0 : Int) = 0) ∧ (((maxI (wrap64 ((v0.2.2.length : Int) - (2 : Int))) (0 : Int)).toNat + [(3 : Int)].length) * 8 ≤ lim) ∧ (∃ m_, m_ < m ∧ (L53 columns e) 0 m_ (⟨[(0, .data (Ty.sl TColumn) columns), (1, .data (Ty.sl TPart) e), (5, .own 16 none), (6, .data Ty.bool false), (7, .data (Ty.int .i64) (wrap64 (v0.2.1 + (1 : Int))))], [(16, .arr (Ty.int .i64) (v0.2.2.take (maxI (wrap64 ((v0.2.2.length : Int) - (2 : Int))) (0 : Int)).toNat ++ [(3 : Int)]))]⟩ : St) K))) ((0 ≤ (0 : Int)) ∧ ((0 : Int) ≤ (maxI (wrap64 ((v0.2.2.length : Int) - (2 : Int))) (0 : Int))) ∧ ((maxI (wrap64 ((v0.2.2.length : Int) - (2 : Int))) (0 : Int)) ≤ (v0.2.2.length : Int)) ∧ ((maxI (wrap64 ((v0.2.2.length : Int) - (2 : Int))) (0 : Int)) = (maxI (wrap64 ((v0.2.2.length : Int) - (2 : Int))) (0 : Int))) ∧ ((0 : Int) = 0) ∧ (((maxI (wrap64 ((v0.2.2.length : Int) - (2 : Int))) (0 : Int)).toNat + [(3 : Int)].length) * 8 ≤ lim) ∧ (∃ m_, m_ < m ∧ (L53 columns e) 0 m_ (⟨[(0, .data (Ty.sl TColumn) columns), (1, .data (Ty.sl TPart) e), (5, .own 16 none), (6, .data Ty.bool false), (7, .data (Ty.int .i64) (wrap64 (v0.2.1 + (1 : Int))))], [(16, .arr (Ty.int .i64) (v0.2.2.take (maxI (wrap64 ((v0.2.2.length : Int) - (2 : Int))) (0 : Int)).toNat ++ [(3 : Int)]))]⟩ : St) K))) (cond (decide ((nth (t := TPart) e v0.2.1).1 = (7 : Int))) (cond ((decide ((0 : Int) < (v0.2.2.length : Int))) == true) ((0 ≤ wrap64 ((v0.2.2.length : Int) - (1 : Int))) ∧ (wrap64 ((v0.2.2.length : Int) - (1 : Int)) < (v0.2.2.length : Int)) ∧ (∃ m_, m_ < m ∧ (L53 columns e) 0 m_ (⟨[(0, .data (Ty.sl TColumn) columns), (1, .data (Ty.sl TPart) e), (5, .own 16 none), (6, .data Ty.bool (decide ((nth (t := (Ty.int .i64)) v0.2.2 (wrap64 ((v0.2.2.length : Int) - (1 : Int)))) = (3 : Int)))), (7, .data (Ty.int .i64) (wrap64 (v0.2.1 + (1 : Int))))], [(16, .arr (Ty.int .i64) v0.2.2)]⟩ : St) K)) ((∃ m_, m_ < m ∧ (L53 columns e) 0 m_ (⟨[(0, .data (Ty.sl TColumn) columns), (1, .data (Ty.sl TPart) e), (5, .own 16 none), (6, .data Ty.bool false), (7, .data (Ty.int .i64) (wrap64 (v0.2.1 + (1 : Int))))], [(16, .arr (Ty.int .i64) v0.2.2)]⟩ : St) K))) (cond (decide ((nth (t := TPart) e v0.2.1).1 = (8 : Int))) ((0 ≤ (0 : Int)) ∧ ((0 : Int) ≤ (maxI (wrap64 ((v0.2.2.length : Int) - (1 : Int))) (0 : Int))) ∧ ((maxI (wrap64 ((v0.2.2.length : Int) - (1 : Int))) (0 : Int)) ≤ (v0.2.2.length : Int)) ∧ ((maxI (wrap64 ((v0.2.2.length : Int) - (1 : Int))) (0 : Int)) = (maxI (wrap64 ((v0.2.2.length : Int) - (1 : Int))) (0 : Int))) ∧ ((0 : Int) = 0) ∧ (((maxI (wrap64 ((v0.2.2.length : Int) - (1 : Int))) (0 : Int)).toNat + [(3 : Int)].length) * 8 ≤ lim) ∧ (∃ m_, m_ < m ∧ (L53 columns e) 0 m_ (⟨[(0, .data (Ty.sl TColumn) columns), (1, .data (Ty.sl TPart) e), (5, .own 16 none), (6, .data Ty.bool (decide ((0 : Int) < (v0.2.2.length : Int)))), (7, .data (Ty.int .i64) (wrap64 (v0.2.1 + (1 : Int))))], [(16, .arr (Ty.int .i64) (v0.2.2.take (maxI (wrap64 ((v0.2.2.length : Int) - (1 : Int))) (0 : Int)).toNat ++ [(3 : Int)]))]⟩ : St) K)) ((∃ m_, m_ < m ∧ (L53 columns e) 0 m_ (⟨[(0, .data (Ty.sl TColumn) columns), (1, .data (Ty.sl TPart) e), (5, .own 16 none), (6, .data Ty.bool false), (7, .data (Ty.int .i64) (wrap64 (v0.2.1 + (1 : Int))))], [(16, .arr (Ty.int .i64) v0.2.2)]⟩ : St) K))))) (cond (decide ((nth (t := TPart) e v0.2.1).1 = (6 : Int))) (cond ((decide ((1 : Int) < (v0.2.2.length : Int))) == true) ((0 ≤ wrap64 ((v0.2.2.length : Int) - (1 : Int))) ∧ (wrap64 ((v0.2.2.length : Int) - (1 : Int)) < (v0.2.2.length : Int)) ∧ cond ((decide ((nth (t := (Ty.int .i64)) v0.2.2 (wrap64 ((v0.2.2.length : Int) - (1 : Int)))) = (3 : Int))) == true) ((0 ≤ wrap64 ((v0.2.2.length : Int) - (2 : Int))) ∧ (wrap64 ((v0.2.2.length : Int) - (2 : Int)) < (v0.2.2.length : Int)) ∧ (0 ≤ (0 : Int)) ∧ ((0 : Int) ≤ (maxI (wrap64 ((v0.2.2.length : Int) - (2 : Int))) (0 : Int))) ∧ ((maxI (wrap64 ((v0.2.2.length : Int) - (2 : Int))) (0 : Int)) ≤ (v0.2.2.length : Int)) ∧ ((maxI (wrap64 ((v0.2.2.length : Int) - (2 : Int))) (0 : Int)) = (maxI (wrap64 ((v0.2.2.length : Int) - (2 : Int))) (0 : Int))) ∧ ((0 : Int) = 0) ∧ (((maxI (wrap64 ((v0.2.2.length : Int) - (2 : Int))) (0 : Int)).toNat + [(3 : Int)].length) * 8 ≤ lim) ∧ (∃ m_, m_ < m ∧ (L53 columns e) 0 m_ (⟨[(0, .data (Ty.sl TColumn) columns), (1, .data (Ty.sl TPart) e), (5, .own 16 none), (6, .data Ty.bool (decide ((nth (t := (Ty.int .i64)) v0.2.2 (wrap64 ((v0.2.2.length : Int) - (2 : Int)))) = (3 : Int)))), (7, .data (Ty.int .i64) (wrap64 (v0.2.1 + (1 : Int))))], [(16, .arr (Ty.int .i64) (v0.2.2.take (maxI (wrap64 ((v0.2.2.length : Int) - (2 : Int))) (0 : Int)).toNat ++ [(3 : Int)]))]⟩ : St) K)) ((0 ≤ (0 : Int)) ∧ ((0 : Int) ≤ (maxI (wrap64 ((v0.2.2.length : Int) - (2 : Int))) (0 : Int))) ∧ ((maxI (wrap64 ((v0.2.2.length : Int) - (2 : Int))) (0 : Int)) ≤ (v0.2.2.length : Int)) ∧ ((maxI (wrap64 ((v0.2.2.length : Int) - (2 : Int))) (0 : Int)) = (maxI (wrap64 ((v0.2.2.length : Int) - (2 : Int))) (0 : Int))) ∧ ((0 : Int) = 0) ∧ (((maxI (wrap64 ((v0.2.2.length : Int) - (2 : Int))) (0 : Int)).toNat + [(3 : Int)].length) * 8 ≤ lim) ∧ (∃ m_, m_ < m ∧ (L53 columns e) 0 m_ (⟨[(0, .data (Ty.sl TColumn) columns), (1, .data (Ty.sl TPart) e), (5, .own 16 none), (6, .data Ty.bool false), (7, .data (Ty.int .i64) (wrap64 (v0.2.1 + (1 : Int))))], [(16, .arr (Ty.int .i64) (v0.2.2.take (maxI (wrap64 ((v0.2.2.length : Int) - (2 : Int))) (0 : Int)).toNat ++ [(3 : Int)]))]⟩ : St) K))) ((0 ≤ (0 : Int)) ∧ ((0 : Int) ≤ (maxI (wrap64 ((v0.2.2.length : Int) - (2 : Int))) (0 : Int))) ∧ ((maxI (wrap64 ((v0.2.2.length : Int) - (2 : Int))) (0 : Int)) ≤ (v0.2.2.length : Int)) ∧ ((maxI (wrap64 ((v0.2.2.length : Int) - (2 : Int))) (0 : Int)) = (maxI (wrap64 ((v0.2.2.length : Int) - (2 : Int))) (0 : Int))) ∧ ((0 : Int) = 0) ∧ (((maxI (wrap64 ((v0.2.2.length : Int) - (2 : Int))) (0 : Int)).toNat + [(3 : Int)].length) * 8 ≤ lim) ∧ (∃ m_, m_ < m ∧ (L53 columns e) 0 m_ (⟨[(0, .data (Ty.sl TColumn) columns), (1, .data (Ty.sl TPart) e), (5, .own 16 none), (6, .data Ty.bool false), (7, .data (Ty.int .i64) (wrap64 (v0.2.1 + (1 : Int))))], [(16, .arr (Ty.int .i64) (v0.2.2.take (maxI (wrap64 ((v0.2.2.length : Int) - (2 : Int))) (0 : Int)).toNat ++ [(3 : Int)]))]⟩ : St) K))) (cond (decide ((nth (t := TPart) e v0.2.1).1 = (7 : Int))) (cond ((decide ((0 : Int) < (v0.2.2.length : Int))) == true) ((0 ≤ wrap64 ((v0.2.2.length : Int) - (1 : Int))) ∧ (wrap64 ((v0.2.2.length : Int) - (1 : Int)) < (v0.2.2.length : Int)) ∧ (∃ m_, m_ < m ∧ (L53 columns e) 0 m_ (⟨[(0, .data (Ty.sl TColumn) columns), (1, .data (Ty.sl TPart) e), (5, .own 16 none), (6, .data Ty.bool (decide ((nth (t := (Ty.int .i64)) v0.2.2 (wrap64 ((v0.2.2.length : Int) - (1 : Int)))) = (3 : Int)))), (7, .data (Ty.int .i64) (wrap64 (v0.2.1 + (1 : Int))))], [(16, .arr (Ty.int .i64) v0.2.2)]⟩ : St) K)) ((∃ m_, m_ < m ∧ (L53 columns e) 0 m_ (⟨[(0, .data (Ty.sl TColumn) columns), (1, .data (Ty.sl TPart) e), (5, .own 16 none), (6, .data Ty.bool false), (7, .data (Ty.int .i64) (wrap64 (v0.2.1 + (1 : Int))))], [(16, .arr (Ty.int .i64) v0.2.2)]⟩ : St) K))) (cond (decide ((nth (t := TPart) e v0.2.1).1 = (8 : Int))) ((0 ≤ (0 : Int)) ∧ ((0 : Int) ≤ (maxI (wrap64 ((v0.2.2.length : Int) - (1 : Int))) (0 : Int))) ∧ ((maxI (wrap64 ((v0.2.2.length : Int) - (1 : Int))) (0 : Int)) ≤ (v0.2.2.length : Int)) ∧ ((maxI (wrap64 ((v0.2.2.length : Int) - (1 : Int))) (0 : Int)) = (maxI (wrap64 ((v0.2.2.length : Int) - (1 : Int))) (0 : Int))) ∧ ((0 : Int) = 0) ∧ (((maxI (wrap64 ((v0.2.2.length : Int) - (1 : Int))) (0 : Int)).toNat + [(3 : Int)].length) * 8 ≤ lim) ∧ (∃ m_, m_ < m ∧ (L53 columns e) 0 m_ (⟨[(0, .data (Ty.sl TColumn) columns), (1, .data (Ty.sl TPart) e), (5, .own 16 none), (6, .data Ty.bool (decide ((0 : Int) < (v0.2.2.length : Int)))), (7, .data (Ty.int .i64) (wrap64 (v0.2.1 + (1 : Int))))], [(16, .arr (Ty.int .i64) (v0.2.2.take (maxI (wrap64 ((v0.2.2.length : Int) - (1 : Int))) (0 : Int)).toNat ++ [(3 : Int)]))]⟩ : St) K)) ((∃ m_, m_ < m ∧ (L53 columns e) 0 m_ (⟨[(0, .data (Ty.sl TColumn) columns), (1, .data (Ty.sl TPart) e), (5, .own 16 none), (6, .data Ty.bool false), (7, .data (Ty.int .i64) (wrap64 (v0.2.1 + (1 : Int))))], [(16, .arr (Ty.int .i64) v0.2.2)]⟩ : St) K))))))))))) ((∃ m_, m_ < m ∧ (L53 columns e) 0 m_ (⟨[(0, .data (Ty.sl TColumn) columns), (1, .data (Ty.sl TPart) e), (5, .own 16 none), (6, .data Ty.bool false), (7, .data (Ty.int .i64) (wrap64 (v0.2.1 + (1 : Int))))], [(16, .arr (Ty.int .i64) v0.2.2)]⟩ : St) K))) (cond ((!decide ((nth (t := TPart) e v0.2.1).1 = (2 : Int))) == true) (cond ((!decide ((nth (t := TPart) e v0.2.1).1 = (4 : Int))) == true) (cond (!decide (((nth (t := TPart) e v0.2.1).2).1 = (0 : Int))) ((∃ m_, m_ < m ∧ (L53 columns e) 0 m_ (⟨[(0, .data (Ty.sl TColumn) columns), (1, .data (Ty.sl TPart) e), (5, .own 16 none), (6, .data Ty.bool false), (7, .data (Ty.int .i64) (wrap64 (v0.2.1 + (1 : Int))))], [(16, .arr (Ty.int .i64) v0.2.2)]⟩ : St) K)) (cond (decide ((nth (t := TPart) e v0.2.1).1 = (1 : Int))) ((Sm TValue ((((nth (t := TPart) e v0.2.1).2).2).1)) ∧ cond ((!(M.valueOk ((((nth (t := TPart) e v0.2.1).2).2).1))) == false) (cond (decide (((((nth (t := TPart) e v0.2.1).2).2).1).1 = (0 : Int))) ((∃ m_, m_ < m ∧ (L53 columns e) 0 m_ (⟨[(0, .data (Ty.sl TColumn) columns), (1, .data (Ty.sl TPart) e), (5, .own 16 none), (6, .data Ty.bool false), (7, .data (Ty.int .i64) (wrap64 (v0.2.1 + (1 : Int))))], [(16, .arr (Ty.int .i64) v0.2.2)]⟩ : St) K)) (((v0.2.2.length + [((((nth (t := TPart) e v0.2.1).2).2).1).1].length) * 8 ≤ lim) ∧ (∃ m_, m_ < m ∧ (L53 columns e) 0 m_ (⟨[(0, .data (Ty.sl TColumn) columns), (1, .data (Ty.sl TPart) e), (5, .own 16 none), (6, .data Ty.bool true), (7, .data (Ty.int .i64) (wrap64 (v0.2.1 + (1 : Int))))], [(16, .arr (Ty.int .i64) (v0.2.2 ++ [((((nth (t := TPart) e v0.2.1).2).2).1).1]))]⟩ : St) K))) ((∃ m_, m_ < m ∧ (L53 columns e) 0 m_ (⟨[(0, .data (Ty.sl TColumn) columns), (1, .data (Ty.sl TPart) e), (5, .own 16 none), (6, .data Ty.bool false), (7, .data (Ty.int .i64) (wrap64 (v0.2.1 + (1 : Int))))], [(16, .arr (Ty.int .i64) v0.2.2)]⟩ : St) K))) (cond (decide ((nth (t := TPart) e v0.2.1).1 = (2 : Int))) (cond (!(M.inR (((nth (t := TPart) e v0.2.1).2).1) (0 : Int) (wrap64 ((columns.length : Int) - (1 : Int))))) ((∃ m_, m_ < m ∧ (L53 columns e) 0 m_ (⟨[(0, .data (Ty.sl TColumn) columns), (1, .data (Ty.sl TPart) e), (5, .own 16 none), (6, .data Ty.bool false), (7, .data (Ty.int .i64) (wrap64 (v0.2.1 + (1 : Int))))], [(16, .arr (Ty.int .i64) v0.2.2)]⟩ : St) K)) ((0 ≤ ((nth (t := TPart) e v0.2.1).2).1) ∧ (((nth (t := TPart) e v0.2.1).2).1 < (columns.length : Int)) ∧ ((v0.2.2.length + [(nth (t := TColumn) columns (((nth (t := TPart) e v0.2.1).2).1)).1].length) * 8 ≤ lim) ∧ (∃ m_, m_ < m ∧ (L53 columns e) 0 m_ (⟨[(0, .data (Ty.sl TColumn) columns), (1, .data (Ty.sl TPart) e), (5, .own 16 none), (6, .data Ty.bool true), (7, .data (Ty.int .i64) (wrap64 (v0.2.1 + (1 : Int))))], [(16, .arr (Ty.int .i64) (v0.2.2 ++ [(nth (t := TColumn) columns (((nth (t := TPart) e v0.2.1).2).1)).1]))]⟩ : St) K))) (cond (decide ((nth (t := TPart) e v0.2.1).1 = (3 : Int))) (cond ((decide ((1 : Int) < (v0.2.2.length : Int))) == true) ((0 ≤ wrap64 ((v0.2.2.length : Int) - (1 : Int))) ∧ (wrap64 ((v0.2.2.length : Int) - (1 : Int)) < (v0.2.2.length : Int)) ∧ cond ((decide ((nth (t := (Ty.int .i64)) v0.2.2 (wrap64 ((v0.2.2.length : Int) - (1 : Int)))) = (1 : Int))) == true) ((0 ≤ wrap64 ((v0.2.2.length : Int) - (2 : Int))) ∧ (wrap64 ((v0.2.2.length : Int) - (2 : Int)) < (v0.2.2.length : Int)) ∧ (0 ≤ (0 : Int)) ∧ ((0 : Int) ≤ (maxI (wrap64 ((v0.2.2.length : Int) - (2 : Int))) (0 : Int))) ∧ ((maxI (wrap64 ((v0.2.2.length : Int) - (2 : Int))) (0 : Int)) ≤ (v0.2.2.length : Int)) ∧ ((maxI (wrap64 ((v0.2.2.length : Int) - (2 : Int))) (0 : Int)) = (maxI (wrap64 ((v0.2.2.length : Int) - (2 : Int))) (0 : Int))) ∧ ((0 : Int) = 0) ∧ (((maxI (wrap64 ((v0.2.2.length : Int) - (2 : Int))) (0 : Int)).toNat + [(1 : Int)].length) * 8 ≤ lim) ∧ (∃ m_, m_ < m ∧ (L53 columns e) 0 m_ (⟨[(0, .data (Ty.sl TColumn) columns), (1, .data (Ty.sl TPart) e), (5, .own 16 none), (6, .data Ty.bool (decide ((nth (t := (Ty.int .i64)) v0.2.2 (wrap64 ((v0.2.2.length : Int) - (2 : Int)))) = (1 : Int)))), (7, .data (Ty.int .i64) (wrap64 (v0.2.1 + (1 : Int))))], [(16, .arr (Ty.int .i64) (v0.2.2.take (maxI (wrap64 ((v0.2.2.length : Int) - (2 : Int))) (0 : Int)).toNat ++ [(1 : Int)]))]⟩ : St) K)) ((0 ≤ (0 : Int)) ∧ ((0 : Int) ≤ (maxI (wrap64 ((v0.2.2.length : Int) - (2 : Int))) (0 : Int))) ∧ ((maxI (wrap64 ((v0.2.2.length : Int) - (2 : Int))) (0 : Int)) ≤ (v0.2.2.length : Int)) ∧ ((maxI (wrap64 ((v0.2.2.length : Int) - (2 : Int))) (0 : Int)) = (maxI (wrap64 ((v0.2.2.length : Int) - (2 : Int))) (0 : Int))) ∧ ((0 : Int) = 0) ∧ (((maxI (wrap64 ((v0.2.2.length : Int) - (2 : Int))) (0 : Int)).toNat + [(1 : Int)].length) * 8 ≤ lim) ∧ (∃ m_, m_ < m ∧ (L53 columns e) 0 m_ (⟨[(0, .data (Ty.sl TColumn) columns), (1, .data (Ty.sl TPart) e), (5, .own 16 none), (6, .data Ty.bool false), (7, .data (Ty.int .i64) (wrap64 (v0.2.1 + (1 : Int))))], [(16, .arr (Ty.int .i64) (v0.2.2.take (maxI (wrap64 ((v0.2.2.length : Int) - (2 : Int))) (0 : Int)).toNat ++ [(1 : Int)]))]⟩ : St) K))) ((0 ≤ (0 : Int)) ∧ ((0 : Int) ≤ (maxI (wrap64 ((v0.2.2.length : Int) - (2 : Int))) (0 : Int))) ∧ ((maxI (wrap64 ((v0.2.2.length : Int) - (2 : Int))) (0 : Int)) ≤ (v0.2.2.length : Int)) ∧ ((maxI (wrap64 ((v0.2.2.length : Int) - (2 : Int))) (0 : Int)) = (maxI (wrap64 ((v0.2.2.length : Int) - (2 : Int))) (0 : Int))) ∧ ((0 : Int) = 0) ∧ (((maxI (wrap64 ((v0.2.2.length : Int) - (2 : Int))) (0 : Int)).toNat + [(1 : Int)].length) * 8 ≤ lim) ∧ (∃ m_, m_ < m ∧ (L53 columns e) 0 m_ (⟨[(0, .data (Ty.sl TColumn) columns), (1, .data (Ty.sl TPart) e), (5, .own 16 none), (6, .data Ty.bool false), (7, .data (Ty.int .i64) (wrap64 (v0.2.1 + (1 : Int))))], [(16, .arr (Ty.int .i64) (v0.2.2.take (maxI (wrap64 ((v0.2.2.length : Int) - (2 : Int))) (0 : Int)).toNat ++ [(1 : Int)]))]⟩ : St) K))) (cond (decide ((nth (t := TPart) e v0.2.1).1 = (4 : Int))) (cond ((decide ((1 : Int) < (v0.2.2.length : Int))) == true) ((0 ≤ wrap64 ((v0.2.2.length : Int) - (1 : Int))) ∧ (wrap64 ((v0.2.2.length : Int) - (1 : Int)) < (v0.2.2.length : Int)) ∧ (0 ≤ wrap64 ((v0.2.2.length : Int) - (2 : Int))) ∧ (wrap64 ((v0.2.2.length : Int) - (2 : Int)) < (v0.2.2.length : Int)) ∧ cond ((decide ((nth (t := (Ty.int .i64)) v0.2.2 (wrap64 ((v0.2.2.length : Int) - (1 : Int)))) = (nth (t := (Ty.int .i64)) v0.2.2 (wrap64 ((v0.2.2.length : Int) - (2 : Int)))))) == true) ((0 ≤ (0 : Int)) ∧ ((0 : Int) ≤ (maxI (wrap64 ((v0.2.2.length : Int) - (2 : Int))) (0 : Int))) ∧ ((maxI (wrap64 ((v0.2.2.length : Int) - (2 : Int))) (0 : Int)) ≤ (v0.2.2.length : Int)) ∧ ((maxI (wrap64 ((v0.2.2.length : Int) - (2 : Int))) (0 : Int)) = (maxI (wrap64 ((v0.2.2.length : Int) - (2 : Int))) (0 : Int))) ∧ ((0 : Int) = 0) ∧ (((maxI (wrap64 ((v0.2.2.length : Int) - (2 : Int))) (0 : Int)).toNat + [(3 : Int)].length) * 8 ≤ lim) ∧ (∃ m_, m_ < m ∧ (L53 columns e) 0 m_ (⟨[(0, .data (Ty.sl TColumn) columns), (1, .data (Ty.sl TPart) e), (5, .own 16 none), (6, .data Ty.bool (M.inR (((nth (t := TPart) e v0.2.1).2).1) (1 : Int) (4 : Int))), (7, .data (Ty.int .i64) (wrap64 (v0.2.1 + (1 : Int))))], [(16, .arr (Ty.int .i64) (v0.2.2.take (maxI (wrap64 ((v0.2.2.length : Int) - (2 : Int))) (0 : Int)).toNat ++ [(3 : Int)]))]⟩ : St) K)) ((0 ≤ (0 : Int)) ∧ ((0 : Int) ≤ (maxI (wrap64 ((v0.2.2.length : Int) - (2 : Int))) (0 : Int))) ∧ ((maxI (wrap64 ((v0.2.2.length : Int) - (2 : Int))) (0 : Int)) ≤ (v0.2.2.length : Int)) ∧ ((maxI (wrap64 ((v0.2.2.length : Int) - (2 : Int))) (0 : Int)) = (maxI (wrap64 ((v0.2.2.length : Int) - (2 : Int))) (0 : Int))) ∧ ((0 : Int) = 0) ∧ (((maxI (wrap64 ((v0.2.2.length : Int) - (2 : Int))) (0 : Int)).toNat + [(3 : Int)].length) * 8 ≤ lim) ∧ (∃ m_, m_ < m ∧ (L53 columns e) 0 m_ (⟨[(0, .data (Ty.sl TColumn) columns), (1, .data (Ty.sl TPart) e), (5, .own 16 none), (6, .data Ty.bool false), (7, .data (Ty.int .i64) (wrap64 (v0.2.1 + (1 : Int))))], [(16, .arr (Ty.int .i64) (v0.2.2.take (maxI (wrap64 ((v0.2.2.length : Int) - (2 : Int))) (0 : Int)).toNat ++ [(3 : Int)]))]⟩ : St) K))) ((0 ≤ (0 : Int)) ∧ ((0 : Int) ≤ (maxI (wrap64 ((v0.2.2.length : Int) - (2 : Int))) (0 : Int))) ∧ ((maxI (wrap64 ((v0.2.2.length : Int) - (2 : Int))) (0 : Int)) ≤ (v0.2.2.length : Int)) ∧ ((maxI (wrap64 ((v0.2.2.length : Int) - (2 : Int))) (0 : Int)) = (maxI (wrap64 ((v0.2.2.length : Int) - (2 : Int))) (0 : Int))) ∧ ((0 : Int) = 0) ∧ (((maxI (wrap64 ((v0.2.2.length : Int) - (2 : Int))) (0 : Int)).toNat + [(3 : Int)].length) * 8 ≤ lim) ∧ (∃ m_, m_ < m ∧ (L53 columns e) 0 m_ (⟨[(0, .data (Ty.sl TColumn) columns), (1, .data (Ty.sl TPart) e), (5, .own 16 none), (6, .data Ty.bool false), (7, .data (Ty.int .i64) (wrap64 (v0.2.1 + (1 : Int))))], [(16, .arr (Ty.int .i64) (v0.2.2.take (maxI (wrap64 ((v0.2.2.length : Int) - (2 : Int))) (0 : Int)).toNat ++ [(3 : Int)]))]⟩ : St) K))) (cond (decide ((nth (t := TPart) e v0.2.1).1 = (5 : Int))) (cond (decide ((nth (t := TPart) e v0.2.1).1 = (5 : Int))) (cond ((decide ((1 : Int) < (v0.2.2.length : Int))) == true) ((0 ≤ wrap64 ((v0.2.2.length : Int) - (1 : Int))) ∧ (wrap64 ((v0.2.2.length : Int) - (1 : Int)) < (v0.2.2.length : Int)) ∧ cond ((decide ((nth (t := (Ty.int .i64)) v0.2.2 (wrap64 ((v0.2.2.length : Int) - (1 : Int)))) = (3 : Int))) == true) ((0 ≤ wrap64 ((v0.2.2.length : Int) - (2 : Int))) ∧ (wrap64 ((v0.2.2.length : Int) - (2 : Int)) < (v0.2.2.length : Int)) ∧ (0 ≤ (0 : Int)) ∧ ((0 : Int) ≤ (maxI (wrap64 ((v0.2.2.length : Int) - (2 : Int))) (0 : Int))) ∧ ((maxI (wrap64 ((v0.2.2.length : Int) - (2 : Int))) (0 : Int)) ≤ (v0.2.2.length : Int)) ∧ ((maxI (wrap64 ((v0.2.2.length : Int) - (2 : Int))) (0 : Int)) = (maxI (wrap64 ((v0.2.2.length : Int) - (2 : Int))) (0 : Int))) ∧ ((0 : Int) = 0) ∧ (((maxI (wrap64 ((v0.2.2.length : Int) - (2 : Int))) (0 : Int)).toNat + [(3 : Int)].length) * 8 ≤ lim) ∧ (∃ m_, m_ < m ∧ (L53 columns e) 0 m_ (⟨[(0, .data (Ty.sl TColumn) columns), (1, .data (Ty.sl TPart) e), (5, .own 16 none), (6, .data Ty.bool (decide ((nth (t := (Ty.int .i64)) v0.2.2 (wrap64 ((v0.2.2.length : Int) - (2 : Int)))) = (3 : Int)))), (7, .data (Ty.int .i64) (wrap64 (v0.2.1 + (1 : Int))))], [(16, .arr (Ty.int .i64) (v0.2.2.take (maxI (wrap64 ((v0.2.2.length : Int) - (2 : Int))) (0 : Int)).toNat ++ [(3 : Int)]))]⟩ : St) K)) ((0 ≤ (0 : Int)) ∧ ((0 : Int) ≤ (maxI (wrap64 ((v0.2.2.length : Int) - (2 : Int))) (0 : Int))) ∧ ((maxI (wrap64 ((v0.2.2.length : Int) - (2 : Int))) (0 : Int)) ≤ (v0.2.2.length : Int)) ∧ ((maxI (wrap64 ((v0.2.2.length : Int) - (2 : Int))) (0 : Int)) = (maxI (wrap64 ((v0.2.2.length : Int) - (2 : Int))) (0 : Int))) ∧ ((0 : Int) = 0) ∧ (((maxI (wrap64 ((v0.2.2.length : Int) - (2 : Int))) (0 : Int)).toNat + [(3 : Int)].length) * 8 ≤ lim) ∧ (∃ m_, m_ < m ∧ (L53 columns e) 0 m_ (⟨[(0, .data (Ty.sl TColumn) columns), (1, .data (Ty.sl TPart) e), (5, .own 16 none), (6, .data Ty.bool false), (7, .data (Ty.int .i64) (wrap64 (v0.2.1 + (1 : Int))))], [(16, .arr (Ty.int .i64) (v0.2.2.take (maxI (wrap64 ((v0.2.2.length : Int) - (2 : Int))) (0 : Int)).toNat ++ [(3 : Int)]))]⟩ : St) K))) ((0 ≤ (0 : Int)) ∧ ((0 : Int) ≤ (maxI (wrap64 ((v0.2.2.length : Int) - (2 : Int))) (0 : Int))) ∧ ((maxI (wrap64 ((v0.2.2.length : Int) - (2 : Int))) (0 : Int)) ≤ (v0.2.2.length : Int)) ∧ ((maxI (wrap64 ((v0.2.2.length : Int) - (2 : Int))) (0 : Int)) = (maxI (wrap64 ((v0.2.2.length : Int) - (2 : Int))) (0 : Int))) ∧ ((0 : Int) = 0) ∧ (((maxI (wrap64 ((v0.2.2.length : Int) - (2 : Int))) (0 : Int)).toNat + [(3 : Int)].length) * 8 ≤ lim) ∧ (∃ m_, m_ < m ∧ (L53 columns e) 0 m_ (⟨[(0, .data (Ty.sl TColumn) columns), (1, .data (Ty.sl TPart) e), (5, .own 16 none), (6, .data Ty.bool false), (7, .data (Ty.int .i64) (wrap64 (v0.2.1 + (1 : Int))))], [(16, .arr (Ty.int .i64) (v0.2.2.take (maxI (wrap64 ((v0.2.2.length : Int) - (2 : Int))) (0 : Int)).toNat ++ [(3 : Int)]))]⟩ : St) K))) (cond (decide ((nth (t := TPart) e v0.2.1).1 = (7 : Int))) (cond ((decide ((0 : Int) < (v0.2.2.length : Int))) == true) ((0 ≤ wrap64 ((v0.2.2.length : Int) - (1 : Int))) ∧ (wrap64 ((v0.2.2.length : Int) - (1 : Int)) < (v0.2.2.length : Int)) ∧ (∃ m_, m_ < m ∧ (L53 columns e) 0 m_ (⟨[(0, .data (Ty.sl TColumn) columns), (1, .data (Ty.sl TPart) e), (5, .own 16 none), (6, .data Ty.bool (decide ((nth (t := (Ty.int .i64)) v0.2.2 (wrap64 ((v0.2.2.length : Int) - (1 : Int)))) = (3 : Int)))), (7, .data (Ty.int .i64) (wrap64 (v0.2.1 + (1 : Int))))], [(16, .arr (Ty.int .i64) v0.2.2)]⟩ : St) K)) ((∃ m_, m_ < m ∧ (L53 columns e) 0 m_ (⟨[(0, .data (Ty.sl TColumn) columns), (1, .data (Ty.sl TPart) e), (5, .own 16 none), (6, .data Ty.bool false), (7, .data (Ty.int .i64) (wrap64 (v0.2.1 + (1 : Int))))], [(16, .arr (Ty.int .i64) v0.2.2)]⟩ : St) K))) (cond (decide ((nth (t := TPart) e v0.2.1).1 = (8 : Int))) ((0 ≤ (0 : Int)) ∧ ((0 : Int) ≤ (maxI (wrap64 ((v0.2.2.length : Int) - (1 : Int))) (0 : Int))) ∧ ((maxI (wrap64 ((v0.2.2.length : Int) - (1 : Int))) (0 : Int)) ≤ (v0.2.2.length : Int)) ∧ ((maxI (wrap64 ((v0.2.2.length : Int) - (1 : Int))) (0 : Int)) = (maxI (wrap64 ((v0.2.2.length : Int) - (1 : Int))) (0 : Int))) ∧ ((0 : Int) = 0) ∧ (((maxI (wrap64 ((v0.2.2.length : Int) - (1 : Int))) (0 : Int)).toNat + [(3 : Int)].length) * 8 ≤ lim) ∧ (∃ m_, m_ < m ∧ (L53 columns e) 0 m_ (⟨[(0, .data (Ty.sl TColumn) columns), (1, .data (Ty.sl TPart) e), (5, .own 16 none), (6, .data Ty.bool (decide ((0 : Int) < (v0.2.2.length : Int)))), (7, .data (Ty.int .i64) (wrap64 (v0.2.1 + (1 : Int))))], [(16, .arr (Ty.int .i64) (v0.2.2.take (maxI (wrap64 ((v0.2.2.length : Int) - (1 : Int))) (0 : Int)).toNat ++ [(3 : Int)]))]⟩ : St) K)) ((∃ m_, m_ < m ∧ (L53 columns e) 0 m_ (⟨[(0, .data (Ty.sl TColumn) columns), (1, .data (Ty.sl TPart) e), (5, .own 16 none), (6, .data Ty.bool false), (7, .data (Ty.int .i64) (wrap64 (v0.2.1 + (1 : Int))))], [(16, .arr (Ty.int .i64) v0.2.2)]⟩ : St) K))))) (cond (decide ((nth (t := TPart) e v0.2.1).1 = (6 : Int))) (cond ((decide ((1 : Int) < (v0.2.2.length : Int))) == true) ((0 ≤ wrap64 ((v0.2.2.length : Int) - (1 : Int))) ∧ (wrap64 ((v0.2.2.length : Int) - (1 : Int)) < (v0.2.2.length : Int)) ∧ cond ((decide ((nth (t := (Ty.int .i64)) v0.2.2 (wrap64 ((v0.2.2.length : Int) - (1 : Int)))) = (3 : Int))) == true) ((0 ≤ wrap64 ((v0.2.2.length : Int) - (2 : Int))) ∧ (wrap64 ((v0.2.2.length : Int) - (2 : Int)) < (v0.2.2.length : Int)) ∧ (0 ≤ (0 : Int)) ∧ ((0 : Int) ≤ (maxI (wrap64 ((v0.2.2.length : Int) - (2 : Int))) (0 : Int))) ∧ ((maxI (wrap64 ((v0.2.2.length : Int) - (2 : Int))) (0 : Int)) ≤ (v0.2.2.length : Int)) ∧ ((maxI (wrap64 ((v0.2.2.length : Int) - (2 : Int))) (0 : Int)) = (maxI (wrap64 ((v0.2.2.length : Int) - (2 : Int))) (0 : Int))) ∧ ((0 : Int) = 0) ∧ (((maxI (wrap64 ((v0.2.2.length : Int) - (2 : Int))) (0 : Int)).toNat + [(3 : Int)].length) * 8 ≤ lim) ∧ (∃ m_, m_ < m ∧ (L53 columns e) 0 m_ (⟨[(0, .data (Ty.sl TColumn) columns), (1, .data (Ty.sl TPart) e), (5, .own 16 none), (6, .data Ty.bool (decide ((nth (t := (Ty.int .i64)) v0.2.2 (wrap64 ((v0.2.2.length : Int) - (2 : Int)))) = (3 : Int)))), (7, .data (Ty.int .i64) (wrap64 (v0.2.1 + (1 : Int))))], [(16, .arr (Ty.int .i64) (v0.2.2.take (maxI (wrap64 ((v0.2.2.length : Int) - (2 : Int))) (0 : Int)).toNat ++ [(3 : Int)]))]⟩ : St) K)) ((0 ≤ (0 : Int)) ∧ ((0 : Int) ≤ (maxI (wrap64 ((v0.2.2.length : Int) - (2 : Int))) (0 : Int))) ∧ ((maxI (wrap64 ((v0.2.2.length : Int) - (2 : Int))) (0 : Int)) ≤ (v0.2.2.length : Int)) ∧ ((maxI (wrap64 ((v0.2.2.length : Int) - (2 : Int))) (0 : Int)) = (maxI (wrap64 ((v0.2.2.length : Int) - (2 : Int))) (0 : Int))) ∧ ((0 : Int) = 0) ∧ (((maxI (wrap64 ((v0.2.2.length : Int) - (2 : Int))) (0 : Int)).toNat + [(3 : Int)].length) * 8 ≤ lim) ∧ (∃ m_, m_ < m ∧ (L53 columns e) 0 m_ (⟨[(0, .data (Ty.sl TColumn) columns), (1, .data (Ty.sl TPart) e), (5, .own 16 none), (6, .data Ty.bool false), (7, .data (Ty.int .i64) (wrap64 (v0.2.1 + (1 : Int))))], [(16, .arr (Ty.int .i64) (v0.2.2.take (maxI (wrap64 ((v0.2.2.length : Int) - (2 : Int))) (0 : Int)).toNat ++ [(3 : Int)]))]⟩ : St) K))) ((0 ≤ (0 : Int)) ∧ ((0 : Int) ≤ (maxI (wrap64 ((v0.2.2.length : Int) - (2 : Int))) (0 : Int))) ∧ ((maxI (wrap64 ((v0.2.2.length : Int) - (2 : Int))) (0 : Int)) ≤ (v0.2.2.length : Int)) ∧ ((maxI (wrap64 ((v0.2.2.length : Int) - (2 : Int))) (0 : Int)) = (maxI (wrap64 ((v0.2.2.length : Int) - (2 : Int))) (0 : Int))) ∧ ((0 : Int) = 0) ∧ (((maxI (wrap64 ((v0.2.2.length : Int) - (2 : Int))) (0 : Int)).toNat + [(3 : Int)].length) * 8 ≤ lim) ∧ (∃ m_, m_ < m ∧ (L53 columns e) 0 m_ (⟨[(0, .data (Ty.sl TColumn) columns), (1, .data (Ty.sl TPart) e), (5, .own 16 none), (6, .data Ty.bool false), (7, .data (Ty.int .i64) (wrap64 (v0.2.1 + (1 : Int))))], [(16, .arr (Ty.int .i64) (v0.2.2.take (maxI (wrap64 ((v0.2.2.length : Int) - (2 : Int))) (0 : Int)).toNat ++ [(3 : Int)]))]⟩ : St) K))) (cond (decide ((nth (t := TPart) e v0.2.1).1 = (7 : Int))) (cond ((decide ((0 : Int) < (v0.2.2.length : Int))) == true) ((0 ≤ wrap64 ((v0.2.2.length : Int) - (1 : Int))) ∧ (wrap64 ((v0.2.2.length : Int) - (1 : Int)) < (v0.2.2.length : Int)) ∧ (∃ m_, m_ < m ∧ (L53 columns e) 0 m_ (⟨[(0, .data (Ty.sl TColumn) columns), (1, .data (Ty.sl TPart) e), (5, .own 16 none), (6, .data Ty.bool (decide ((nth (t := (Ty.int .i64)) v0.2.2 (wrap64 ((v0.2.2.length : Int) - (1 : Int)))) = (3 : Int)))), (7, .data (Ty.int .i64) (wrap64 (v0.2.1 + (1 : Int))))], [(16, .arr (Ty.int .i64) v0.2.2)]⟩ : St) K)) ((∃ m_, m_ < m ∧ (L53 columns e) 0 m_ (⟨[(0, .data (Ty.sl TColumn) columns), (1, .data (Ty.sl TPart) e), (5, .own 16 none), (6, .data Ty.bool false), (7, .data (Ty.int .i64) (wrap64 (v0.2.1 + (1 : Int))))], [(16, .arr (Ty.int .i64) v0.2.2)]⟩ : St) K))) (cond (decide ((nth (t := TPart) e v0.2.1).1 = (8 : Int))) ((0 ≤ (0 : Int)) ∧ ((0 : Int) ≤ (maxI (wrap64 ((v0.2.2.length : Int) - (1 : Int))) (0 : Int))) ∧ ((maxI (wrap64 ((v0.2.2.length : Int) - (1 : Int))) (0 : Int)) ≤ (v0.2.2.length : Int)) ∧ ((maxI (wrap64 ((v0.2.2.length : Int) - (1 : Int))) (0 : Int)) = (maxI (wrap64 ((v0.2.2.length : Int) - (1 : Int))) (0 : Int))) ∧ ((0 : Int) = 0) ∧ (((maxI (wrap64 ((v0.2.2.length : Int) - (1 : Int))) (0 : Int)).toNat + [(3 : Int)].length) * 8 ≤ lim) ∧ (∃ m_, m_ < m ∧ (L53 columns e) 0 m_ (⟨[(0, .data (Ty.sl TColumn) columns), (1, .data (Ty.sl TPart) e), (5, .own 16 none), (6, .data Ty.bool (decide ((0 : Int) < (v0.2.2.length : Int)))), (7, .data (Ty.int .i64) (wrap64 (v0.2.1 + (1 : Int))))], [(16, .arr (Ty.int .i64) (v0.2.2.take (maxI (wrap64 ((v0.2.2.length : Int) - (1 : Int))) (0 : Int)).toNat ++ [(3 : Int)]))]⟩ : St) K)) ((∃ m_, m_ < m ∧ (L53 columns e) 0 m_ (⟨[(0, .data (Ty.sl TColumn) columns), (1, .data (Ty.sl TPart) e), (5, .own 16 none), (6, .data Ty.bool false), (7, .data (Ty.int .i64) (wrap64 (v0.2.1 + (1 : Int))))], [(16, .arr (Ty.int .i64) v0.2.2)]⟩ : St) K))))))))))) (cond (decide ((nth (t := TPart) e v0.2.1).1 = (1 : Int))) ((Sm TValue ((((nth (t := TPart) e v0.2.1).2).2).1)) ∧ cond ((!(M.valueOk ((((nth (t := TPart) e v0.2.1).2).2).1))) == false) (cond (decide (((((nth (t := TPart) e v0.2.1).2).2).1).1 = (0 : Int))) ((∃ m_, m_ < m ∧ (L53 columns e) 0 m_ (⟨[(0, .data (Ty.sl TColumn) columns), (1, .data (Ty.sl TPart) e), (5, .own 16 none), (6, .data Ty.bool false), (7, .data (Ty.int .i64) (wrap64 (v0.2.1 + (1 : Int))))], [(16, .arr (Ty.int .i64) v0.2.2)]⟩ : St) K)) (((v0.2.2.length + [((((nth (t := TPart) e v0.2.1).2).2).1).1].length) * 8 ≤ lim) ∧ (∃ m_, m_ < m ∧ (L53 columns e) 0 m_ (⟨[(0, .data (Ty.sl TColumn) columns), (1, .data (Ty.sl TPart) e), (5, .own 16 none), (6, .data Ty.bool true), (7, .data (Ty.int .i64) (wrap64 (v0.2.1 + (1 : Int))))], [(16, .arr (Ty.int .i64) (v0.2.2 ++ [((((nth (t := TPart) e v0.2.1).2).2).1).1]))]⟩ : St) K))) ((∃ m_, m_ < m ∧ (L53 columns e) 0 m_ (⟨[(0, .data (Ty.sl TColumn) columns), (1, .data (Ty.sl TPart) e), (5, .own 16 none), (6, .data Ty.bool false), (7, .data (Ty.int .i64) (wrap64 (v0.2.1 + (1 : Int))))], [(16, .arr (Ty.int .i64) v0.2.2)]⟩ : St) K))) (cond (decide ((nth (t := TPart) e v0.2.1).1 = (2 : Int))) (cond (!(M.inR (((nth (t := TPart) e v0.2.1).2).1) (0 : Int) (wrap64 ((columns.length : Int) - (1 : Int))))) ((∃ m_, m_ < m ∧ (L53 columns e) 0 m_ (⟨[(0, .data (Ty.sl TColumn) columns), (1, .data (Ty.sl TPart) e), (5, .own 16 none), (6, .data Ty.bool false), (7, .data (Ty.int .i64) (wrap64 (v0.2.1 + (1 : Int))))], [(16, .arr (Ty.int .i64) v0.2.2)]⟩ : St) K)) ((0 ≤ ((nth (t := TPart) e v0.2.1).2).1) ∧ (((nth (t := TPart) e v0.2.1).2).1 < (columns.length : Int)) ∧ ((v0.2.2.length + [(nth (t := TColumn) columns (((nth (t := TPart) e v0.2.1).2).1)).1].length) * 8 ≤ lim) ∧ (∃ m_, m_ < m ∧ (L53 columns e) 0 m_ (⟨[(0, .data (Ty.sl TColumn) columns), (1, .data (Ty.sl TPart) e), (5, .own 16 none), (6, .data Ty.bool true), (7, .data (Ty.int .i64) (wrap64 (v0.2.1 + (1 : Int))))], [(16, .arr (Ty.int .i64) (v0.2.2 ++ [(nth (t := TColumn) columns (((nth (t := TPart) e v0.2.1).2).1)).1]))]⟩ : St) K))) (cond (decide ((nth (t := TPart) e v0.2.1).1 = (3 : Int))) (cond ((decide ((1 : Int) < (v0.2.2.length : Int))) == true) ((0 ≤ wrap64 ((v0.2.2.length : Int) - (1 : Int))) ∧ (wrap64 ((v0.2.2.length : Int) - (1 : Int)) < (v0.2.2.length : Int)) ∧ cond ((decide ((nth (t := (Ty.int .i64)) v0.2.2 (wrap64 ((v0.2.2.length : Int) - (1 : Int)))) = (1 : Int))) == true) ((0 ≤ wrap64 ((v0.2.2.length : Int) - (2 : Int))) ∧ (wrap64 ((v0.2.2.length : Int) - (2 : Int)) < (v0.2.2.length : Int)) ∧ (0 ≤ (0 : Int)) ∧ ((0 : Int) ≤ (maxI (wrap64 ((v0.2.2.length : Int) - (2 : Int))) (0 : Int))) ∧ ((maxI (wrap64 ((v0.2.2.length : Int) - (2 : Int))) (0 : Int)) ≤ (v0.2.2.length : Int)) ∧ ((maxI (wrap64 ((v0.2.2.length : Int) - (2 : Int))) (0 : Int)) = (maxI (wrap64 ((v0.2.2.length : Int) - (2 : Int))) (0 : Int))) ∧ ((0 : Int) = 0) ∧ (((maxI (wrap64 ((v0.2.2.length : Int) - (2 : Int))) (0 : Int)).toNat + [(1 : Int)].length) * 8 ≤ lim) ∧ (∃ m_, m_ < m ∧ (L53 columns e) 0 m_ (⟨[(0, .data (Ty.sl TColumn) columns), (1, .data (Ty.sl TPart) e), (5, .own 16 none), (6, .data Ty.bool (decide ((nth (t := (Ty.int .i64)) v0.2.2 (wrap64 ((v0.2.2.length : Int) - (2 : Int)))) = (1 : Int)))), (7, .data (Ty.int .i64) (wrap64 (v0.2.1 + (1 : Int))))], [(16, .arr (Ty.int .i64) (v0.2.2.take (maxI (wrap64 ((v0.2.2.length : Int) - (2 : Int))) (0 : Int)).toNat ++ [(1 : Int)]))]⟩ : St) K)) ((0 ≤ (0 : Int)) ∧ ((0 : Int) ≤ (maxI (wrap64 ((v0.2.2.length : Int) - (2 : Int))) (0 : Int))) ∧ ((maxI (wrap64 ((v0.2.2.length : Int) - (2 : Int))) (0 : Int)) ≤ (v0.2.2.length : Int)) ∧ ((maxI (wrap64 ((v0.2.2.length : Int) - (2 : Int))) (0 : Int)) = (maxI (wrap64 ((v0.2.2.length : Int) - (2 : Int))) (0 : Int))) ∧ ((0 : Int) = 0) ∧ (((maxI (wrap64 ((v0.2.2.length : Int) - (2 : Int))) (0 : Int)).toNat + [(1 : Int)].length) * 8 ≤ lim) ∧ (∃ m_, m_ < m ∧ (L53 columns e) 0 m_ (⟨[(0, .data (Ty.sl TColumn) columns), (1, .data (Ty.sl TPart) e), (5, .own 16 none), (6, .data Ty.bool false), (7, .data (Ty.int .i64) (wrap64 (v0.2.1 + (1 : Int))))], [(16, .arr (Ty.int .i64) (v0.2.2.take (maxI (wrap64 ((v0.2.2.length : Int) - (2 : Int))) (0 : Int)).toNat ++ [(1 : Int)]))]⟩ : St) K))) ((0 ≤ (0 : Int)) ∧ ((0 : Int) ≤ (maxI (wrap64 ((v0.2.2.length : Int) - (2 : Int))) (0 : Int))) ∧ ((maxI (wrap64 ((v0.2.2.length : Int) - (2 : Int))) (0 : Int)) ≤ (v0.2.2.length : Int)) ∧ ((maxI (wrap64 ((v0.2.2.length : Int) - (2 : Int))) (0 : Int)) = (maxI (wrap64 ((v0.2.2.length : Int) - (2 : Int))) (0 : Int))) ∧ ((0 : Int) = 0) ∧ (((maxI (wrap64 ((v0.2.2.length : Int) - (2 : Int))) (0 : Int)).toNat + [(1 : Int)].length) * 8 ≤ lim) ∧ (∃ m_, m_ < m ∧ (L53 columns e) 0 m_ (⟨[(0, .data (Ty.sl TColumn) columns), (1, .data (Ty.sl TPart) e), (5, .own 16 none), (6, .data Ty.bool false), (7, .data (Ty.int .i64) (wrap64 (v0.2.1 + (1 : Int))))], [(16, .arr (Ty.int .i64) (v0.2.2.take (maxI (wrap64 ((v0.2.2.length : Int) - (2 : Int))) (0 : Int)).toNat ++ [(1 : Int)]))]⟩ : St) K))) (cond (decide ((nth (t := TPart) e v0.2.1).1 = (4 : Int))) (cond ((decide ((1 : Int) < (v0.2.2.length : Int))) == true) ((0 ≤ wrap64 ((v0.2.2.length : Int) - (1 : Int))) ∧ (wrap64 ((v0.2.2.length : Int) - (1 : Int)) < (v0.2.2.length : Int)) ∧ (0 ≤ wrap64 ((v0.2.2.length : Int) - (2 : Int))) ∧ (wrap64 ((v0.2.2.length : Int) - (2 : Int)) < (v0.2.2.length : Int)) ∧ cond ((decide ((nth (t := (Ty.int .i64)) v0.2.2 (wrap64 ((v0.2.2.length : Int) - (1 : Int)))) = (nth (t := (Ty.int .i64)) v0.2.2 (wrap64 ((v0.2.2.length : Int) - (2 : Int)))))) == true) ((0 ≤ (0 : Int)) ∧ ((0 : Int) ≤ (maxI (wrap64 ((v0.2.2.length : Int) - (2 : Int))) (0 : Int))) ∧ ((maxI (wrap64 ((v0.2.2.length : Int) - (2 : Int))) (0 : Int)) ≤ (v0.2.2.length : Int)) ∧ ((maxI (wrap64 ((v0.2.2.length : Int) - (2 : Int))) (0 : Int)) = (maxI (wrap64 ((v0.2.2.length : Int) - (2 : Int))) (0 : Int))) ∧ ((0 : Int) = 0) ∧ (((maxI (wrap64 ((v0.2.2.length : Int) - (2 : Int))) (0 : Int)).toNat + [(3 : Int)].length) * 8 ≤ lim) ∧ (∃ m_, m_ < m ∧ (L53 columns e) 0 m_ (⟨[(0, .data (Ty.sl TColumn) columns), (1, .data (Ty.sl TPart) e), (5, .own 16 none), (6, .data Ty.bool (M.inR (((nth (t := TPart) e v0.2.1).2).1) (1 : Int) (4 : Int))), (7, .data (Ty.int .i64) (wrap64 (v0.2.1 + (1 : Int))))], [(16, .arr (Ty.int .i64) (v0.2.2.take (maxI (wrap64 ((v0.2.2.length : Int) - (2 : Int))) (0 : Int)).toNat ++ [(3 : Int)]))]⟩ : St) K)) ((0 ≤ (0 : Int)) ∧ ((0 : Int) ≤ (maxI (wrap64 ((v0.2.2.length : Int) - (2 : Int))) (0 : Int))) ∧ ((maxI (wrap64 ((v0.2.2.length : Int) - (2 : Int))) (0 : Int)) ≤ (v0.2.2.length : Int)) ∧ ((maxI (wrap64 ((v0.2.2.length : Int) - (2 : Int))) (0 : Int)) = (maxI (wrap64 ((v0.2.2.length : Int) - (2 : Int))) (0 : Int))) ∧ ((0 : Int) = 0) ∧ (((maxI (wrap64 ((v0.2.2.length : Int) - (2 : Int))) (0 : Int)).toNat + [(3 : Int)].length) * 8 ≤ lim) ∧ (∃ m_, m_ < m ∧ (L53 columns e) 0 m_ (⟨[(0, .data (Ty.sl TColumn) columns), (1, .data (Ty.sl TPart) e), (5, .own 16 none), (6, .data Ty.bool false), (7, .data (Ty.int .i64) (wrap64 (v0.2.1 + (1 : Int))))], [(16, .arr (Ty.int .i64) (v0.2.2.take (maxI (wrap64 ((v0.2.2.length : Int) - (2 : Int))) (0 : Int)).toNat ++ [(3 : Int)]))]⟩ : St) K))) ((0 ≤ (0 : Int)) ∧ ((0 : Int) ≤ (maxI (wrap64 ((v0.2.2.length : Int) - (2 : Int))) (0 : Int))) ∧ ((maxI (wrap64 ((v0.2.2.length : Int) - (2 : Int))) (0 : Int)) ≤ (v0.2.2.length : Int)) ∧ ((maxI (wrap64 ((v0.2.2.length : Int) - (2 : Int))) (0 : Int)) = (maxI (wrap64 ((v0.2.2.length : Int) - (2 : Int))) (0 : Int))) ∧ ((0 : Int) = 0) ∧ (((maxI (wrap64 ((v0.2.2.length : Int) - (2 : Int))) (0 : Int)).toNat + [(3 : Int)].length) * 8 ≤ lim) ∧ (∃ m_, m_ < m ∧ (L53 columns e) 0 m_ (⟨[(0, .data (Ty.sl TColumn) columns), (1, .data (Ty.sl TPart) e), (5, .own 16 none), (6, .data Ty.bool false), (7, .data (Ty.int .i64) (wrap64 (v0.2.1 + (1 : Int))))], [(16, .arr (Ty.int .i64) (v0.2.2.take (maxI (wrap64 ((v0.2.2.length : Int) - (2 : Int))) (0 : Int)).toNat ++ [(3 : Int)]))]⟩ : St) K))) (cond (decide ((nth (t := TPart) e v0.2.1).1 = (5 : Int))) (cond (decide ((nth (t := TPart) e v0.2.1).1 = (5 : Int))) (cond ((decide ((1 : Int) < (v0.2.2.length : Int))) == true) ((0 ≤ wrap64 ((v0.2.2.length : Int) - (1 : Int))) ∧ (wrap64 ((v0.2.2.length : Int) - (1 : Int)) < (v0.2.2.length : Int)) ∧ cond ((decide ((nth (t := (Ty.int .i64)) v0.2.2 (wrap64 ((v0.2.2.length : Int) - (1 : Int)))) = (3 : Int))) == true) ((0 ≤ wrap64 ((v0.2.2.length : Int) - (2 : Int))) ∧ (wrap64 ((v0.2.2.length : Int) - (2 : Int)) < (v0.2.2.length : Int)) ∧ (0 ≤ (0 : Int)) ∧ ((0 : Int) ≤ (maxI (wrap64 ((v0.2.2.length : Int) - (2 : Int))) (0 : Int))) ∧ ((maxI (wrap64 ((v0.2.2.length : Int) - (2 : Int))) (0 : Int)) ≤ (v0.2.2.length : Int)) ∧ ((maxI (wrap64 ((v0.2.2.length : Int) - (2 : Int))) (0 : Int)) = (maxI (wrap64 ((v0.2.2.length : Int) - (2 : Int))) (0 : Int))) ∧ ((0 : Int) = 0) ∧ (((maxI (wrap64 ((v0.2.2.length : Int) - (2 : Int))) (0 : Int)).toNat + [(3 : Int)].length) * 8 ≤ lim) ∧ (∃ m_, m_ < m ∧ (L53 columns e) 0 m_ (⟨[(0, .data (Ty.sl TColumn) columns), (1, .data (Ty.sl TPart) e), (5, .own 16 none), (6, .data Ty.bool (decide ((nth (t := (Ty.int .i64)) v0.2.2 (wrap64 ((v0.2.2.length : Int) - (2 : Int)))) = (3 : Int)))), (7, .data (Ty.int .i64) (wrap64 (v0.2.1 + (1 : Int))))], [(16, .arr (Ty.int .i64) (v0.2.2.take (maxI (wrap64 ((v0.2.2.length : Int) - (2 : Int))) (0 : Int)).toNat ++ [(3 : Int)]))]⟩ : St) K)) ((0 ≤ (0 : Int)) ∧ ((0 : Int) ≤ (maxI (wrap64 ((v0.2.2.length : Int) - (2 : Int))) (0 : Int))) ∧ ((maxI (wrap64 ((v0.2.2.length : Int) - (2 : Int))) (0 : Int)) ≤ (v0.2.2.length : Int)) ∧ ((maxI (wrap64 ((v0.2.2.length : Int) - (2 : Int))) (0 : Int)) = (maxI (wrap64 ((v0.2.2.length : Int) - (2 : Int))) (0 : Int))) ∧ ((0 : Int) = 0) ∧ (((maxI (wrap64 ((v0.2.2.length : Int) - (2 : Int))) (0 : Int)).toNat + [(3 : Int)].length) * 8 ≤ lim) ∧ (∃ m_, m_ < m ∧ (L53 columns e) 0 m_ (⟨[(0, .data (Ty.sl TColumn) columns), (1, .data (Ty.sl TPart) e), (5, .own 16 none), (6, .data Ty.bool false), (7, .data (Ty.int .i64) (wrap64 (v0.2.1 + (1 : Int))))], [(16, .arr (Ty.int .i64) (v0.2.2.take (maxI (wrap64 ((v0.2.2.length : Int) - (2 : Int))) (0 : Int)).toNat ++ [(3 : Int)]))]⟩ : St) K))) ((0 ≤ (0 : Int)) ∧ ((0 : Int) ≤ (maxI (wrap64 ((v0.2.2.length : Int) - (2 : Int))) (0 : Int))) ∧ ((maxI (wrap64 ((v0.2.2.length : Int) - (2 : Int))) (0 : Int)) ≤ (v0.2.2.length : Int)) ∧ ((maxI (wrap64 ((v0.2.2.length : Int) - (2 : Int))) (0 : Int)) = (maxI (wrap64 ((v0.2.2.length : Int) - (2 : Int))) (0 : Int))) ∧ ((0 : Int) = 0) ∧ (((maxI (wrap64 ((v0.2.2.length : Int) - (2 : Int))) (0 : Int)).toNat + [(3 : Int)].length) * 8 ≤ lim) ∧ (∃ m_, m_ < m ∧ (L53 columns e) 0 m_ (⟨[(0, .data (Ty.sl TColumn) columns), (1, .data (Ty.sl TPart) e), (5, .own 16 none), (6, .data Ty.bool false), (7, .data (Ty.int .i64) (wrap64 (v0.2.1 + (1 : Int))))], [(16, .arr (Ty.int .i64) (v0.2.2.take (maxI (wrap64 ((v0.2.2.length : Int) - (2 : Int))) (0 : Int)).toNat ++ [(3 : Int)]))]⟩ : St) K))) (cond (decide ((nth (t := TPart) e v0.2.1).1 = (7 : Int))) (cond ((decide ((0 : Int) < (v0.2.2.length : Int))) == true) ((0 ≤ wrap64 ((v0.2.2.length : Int) - (1 : Int))) ∧ (wrap64 ((v0.2.2.length : Int) - (1 : Int)) < (v0.2.2.length : Int)) ∧ (∃ m_, m_ < m ∧ (L53 columns e) 0 m_ (⟨[(0, .data (Ty.sl TColumn) columns), (1, .data (Ty.sl TPart) e), (5, .own 16 none), (6, .data Ty.bool (decide ((nth (t := (Ty.int .i64)) v0.2.2 (wrap64 ((v0.2.2.length : Int) - (1 : Int)))) = (3 : Int)))), (7, .data (Ty.int .i64) (wrap64 (v0.2.1 + (1 : Int))))], [(16, .arr (Ty.int .i64) v0.2.2)]⟩ : St) K)) ((∃ m_, m_ < m ∧ (L53 columns e) 0 m_ (⟨[(0, .data (Ty.sl TColumn) columns), (1, .data (Ty.sl TPart) e), (5, .own 16 none), (6, .data Ty.bool false), (7, .data (Ty.int .i64) (wrap64 (v0.2.1 + (1 : Int))))], [(16, .arr (Ty.int .i64) v0.2.2)]⟩ : St) K))) (cond (decide ((nth (t := TPart) e v0.2.1).1 = (8 : Int))) ((0 ≤ (0 : Int)) ∧ ((0 : Int) ≤ (maxI (wrap64 ((v0.2.2.length : Int) - (1 : Int))) (0 : Int))) ∧ ((maxI (wrap64 ((v0.2.2.length : Int) - (1 : Int))) (0 : Int)) ≤ (v0.2.2.length : Int)) ∧ ((maxI (wrap64 ((v0.2.2.length : Int) - (1 : Int))) (0 : Int)) = (maxI (wrap64 ((v0.2.2.length : Int) - (1 : Int))) (0 : Int))) ∧ ((0 : Int) = 0) ∧ (((maxI (wrap64 ((v0.2.2.length : Int) - (1 : Int))) (0 : Int)).toNat + [(3 : Int)].length) * 8 ≤ lim) ∧ (∃ m_, m_ < m ∧ (L53 columns e) 0 m_ (⟨[(0, .data (Ty.sl TColumn) columns), (1, .data (Ty.sl TPart) e), (5, .own 16 none), (6, .data Ty.bool (decide ((0 : Int) < (v0.2.2.length : Int)))), (7, .data (Ty.int .i64) (wrap64 (v0.2.1 + (1 : Int))))], [(16, .arr (Ty.int .i64) (v0.2.2.take (maxI (wrap64 ((v0.2.2.length : Int) - (1 : Int))) (0 : Int)).toNat ++ [(3 : Int)]))]⟩ : St) K)) ((∃ m_, m_ < m ∧ (L53 columns e) 0 m_ (⟨[(0, .data (Ty.sl TColumn) columns), (1, .data (Ty.sl TPart) e), (5, .own 16 none), (6, .data Ty.bool false), (7, .data (Ty.int .i64) (wrap64 (v0.2.1 + (1 : Int))))], [(16, .arr (Ty.int .i64) v0.2.2)]⟩ : St) K))))) (cond (decide ((nth (t := TPart) e v0.2.1).1 = (6 : Int))) (cond ((decide ((1 : Int) < (v0.2.2.length : Int))) == true) ((0 ≤ wrap64 ((v0.2.2.length : Int) - (1 : Int))) ∧ (wrap64 ((v0.2.2.length : Int) - (1 : Int)) < (v0.2.2.length : Int)) ∧ cond ((decide ((nth (t := (Ty.int .i64)) v0.2.2 (wrap64 ((v0.2.2.length : Int) - (1 : Int)))) = (3 : Int))) == true) ((0 ≤ wrap64 ((v0.2.2.length : Int) - (2 : Int))) ∧ (wrap64 ((v0.2.2.length : Int) - (2 : Int)) < (v0.2.2.length : Int)) ∧ (0 ≤ (0 : Int)) ∧ ((0 : Int) ≤ (maxI (wrap64 ((v0.2.2.length : Int) - (2 : Int))) (0 : Int))) ∧ ((maxI (wrap64 ((v0.2.2.length : Int) - (2 : Int))) (0 : Int)) ≤ (v0.2.2.length : Int)) ∧ ((maxI (wrap64 ((v0.2.2.length : Int) - (2 : Int))) (0 : Int)) = (maxI (wrap64 ((v0.2.2.length : Int) - (2 : Int))) (0 : Int))) ∧ ((0 : Int) = 0) ∧ (((maxI (wrap64 ((v0.2.2.length : Int) - (2 : Int))) (0 : Int)).toNat + [(3 : Int)].length) * 8 ≤ lim) ∧ (∃ m_, m_ < m ∧ (L53 columns e) 0 m_ (⟨[(0, .data (Ty.sl TColumn) columns), (1, .data (Ty.sl TPart) e), (5, .own 16 none), (6, .data Ty.bool (decide ((nth (t := (Ty.int .i64)) v0.2.2 (wrap64 ((v0.2.2.length : Int) - (2 : Int)))) = (3 : Int)))), (7, .data (Ty.int .i64) (wrap64 (v0.2.1 + (1 : Int))))], [(16, .arr (Ty.int .i64) (v0.2.2.take (maxI (wrap64 ((v0.2.2.length : Int) - (2 : Int))) (0 : Int)).toNat ++ [(3 : Int)]))]⟩ : St) K)) ((0 ≤ (0 : Int)) ∧ ((0 : Int) ≤ (maxI (wrap64 ((v0.2.2.length : Int) - (2 : Int))) (0 : Int))) ∧ ((maxI (wrap64 ((v0.2.2.length : Int) - (2 : Int))) (0 : Int)) ≤ (v0.2.2.length : Int)) ∧ ((maxI (wrap64 ((v0.2.2.length : Int) - (2 : Int))) (0 : Int)) = (maxI (wrap64 ((v0.2.2.length : Int) - (2 : Int))) (0 : Int))) ∧ ((0 : Int) = 0) ∧ (((maxI (wrap64 ((v0.2.2.length : Int) - (2 : Int))) (0 : Int)).toNat + [(3 : Int)].length) * 8 ≤ lim) ∧ (∃ m_, m_ < m ∧ (L53 columns e) 0 m_ (⟨[(0, .data (Ty.sl TColumn) columns), (1, .data (Ty.sl TPart) e), (5, .own 16 none), (6, .data Ty.bool false), (7, .data (Ty.int .i64) (wrap64 (v0.2.1 + (1 : Int))))], [(16, .arr (Ty.int .i64) (v0.2.2.take (maxI (wrap64 ((v0.2.2.length : Int) - (2 : Int))) (0 : Int)).toNat ++ [(3 : Int)]))]⟩ : St) K))) ((0 ≤ (0 : Int)) ∧ ((0 : Int) ≤ (maxI (wrap64 ((v0.2.2.length : Int) - (2 : Int))) (0 : Int))) ∧ ((maxI (wrap64 ((v0.2.2.length : Int) - (2 : Int))) (0 : Int)) ≤ (v0.2.2.length : Int)) ∧ ((maxI (wrap64 ((v0.2.2.length : Int) - (2 : Int))) (0 : Int)) = (maxI (wrap64 ((v0.2.2.length : Int) - (2 : Int))) (0 : Int))) ∧ ((0 : Int) = 0) ∧ (((maxI (wrap64 ((v0.2.2.length : Int) - (2 : Int))) (0 : Int)).toNat + [(3 : Int)].length) * 8 ≤ lim) ∧ (∃ m_, m_ < m ∧ (L53 columns e) 0 m_ (⟨[(0, .data (Ty.sl TColumn) columns), (1, .data (Ty.sl TPart) e), (5, .own 16 none), (6, .data Ty.bool false), (7, .data (Ty.int .i64) (wrap64 (v0.2.1 + (1 : Int))))], [(16, .arr (Ty.int .i64) (v0.2.2.take (maxI (wrap64 ((v0.2.2.length : Int) - (2 : Int))) (0 : Int)).toNat ++ [(3 : Int)]))]⟩ : St) K))) (cond (decide ((nth (t := TPart) e v0.2.1).1 = (7 : Int))) (cond ((decide ((0 : Int) < (v0.2.2.length : Int))) == true) ((0 ≤ wrap64 ((v0.2.2.length : Int) - (1 : Int))) ∧ (wrap64 ((v0.2.2.length : Int) - (1 : Int)) < (v0.2.2.length : Int)) ∧ (∃ m_, m_ < m ∧ (L53 columns e) 0 m_ (⟨[(0, .data (Ty.sl TColumn) columns), (1, .data (Ty.sl TPart) e), (5, .own 16 none), (6, .data Ty.bool (decide ((nth (t := (Ty.int .i64)) v0.2.2 (wrap64 ((v0.2.2.length : Int) - (1 : Int)))) = (3 : Int)))), (7, .data (Ty.int .i64) (wrap64 (v0.2.1 + (1 : Int))))], [(16, .arr (Ty.int .i64) v0.2.2)]⟩ : St) K)) ((∃ m_, m_ < m ∧ (L53 columns e) 0 m_ (⟨[(0, .data (Ty.sl TColumn) columns), (1, .data (Ty.sl TPart) e), (5, .own 16 none), (6, .data Ty.bool false), (7, .data (Ty.int .i64) (wrap64 (v0.2.1 + (1 : Int))))], [(16, .arr (Ty.int .i64) v0.2.2)]⟩ : St) K))) (cond (decide ((nth (t := TPart) e v0.2.1).1 = (8 : Int))) ((0 ≤ (0 : Int)) ∧ ((0 : Int) ≤ (maxI (wrap64 ((v0.2.2.length : Int) - (1 : Int))) (0 : Int))) ∧ ((maxI (wrap64 ((v0.2.2.length : Int) - (1 : Int))) (0 : Int)) ≤ (v0.2.2.length : Int)) ∧ ((maxI (wrap64 ((v0.2.2.length : Int) - (1 : Int))) (0 : Int)) = (maxI (wrap64 ((v0.2.2.length : Int) - (1 : Int))) (0 : Int))) ∧ ((0 : Int) = 0) ∧ (((maxI (wrap64 ((v0.2.2.length : Int) - (1 : Int))) (0 : Int)).toNat + [(3 : Int)].length) * 8 ≤ lim) ∧ (∃ m_, m_ < m ∧ (L53 columns e) 0 m_ (⟨[(0, .data (Ty.sl TColumn) columns), (1, .data (Ty.sl TPart) e), (5, .own 16 none), (6, .data Ty.bool (decide ((0 : Int) < (v0.2.2.length : Int)))), (7, .data (Ty.int .i64) (wrap64 (v0.2.1 + (1 : Int))))], [(16, .arr (Ty.int .i64) (v0.2.2.take (maxI (wrap64 ((v0.2.2.length : Int) - (1 : Int))) (0 : Int)).toNat ++ [(3 : Int)]))]⟩ : St) K)) ((∃ m_, m_ < m ∧ (L53 columns e) 0 m_ (⟨[(0, .data (Ty.sl TColumn) columns), (1, .data (Ty.sl TPart) e), (5, .own 16 none), (6, .data Ty.bool false), (7, .data (Ty.int .i64) (wrap64 (v0.2.1 + (1 : Int))))], [(16, .arr (Ty.int .i64) v0.2.2)]⟩ : St) K))))))))))) (cond (decide ((nth (t := TPart) e v0.2.1).1 = (1 : Int))) ((Sm TValue ((((nth (t := TPart) e v0.2.1).2).2).1)) ∧ cond ((!(M.valueOk ((((nth (t := TPart) e v0.2.1).2).2).1))) == false) (cond (decide (((((nth (t := TPart) e v0.2.1).2).2).1).1 = (0 : Int))) ((∃ m_, m_ < m ∧ (L53 columns e) 0 m_ (⟨[(0, .data (Ty.sl TColumn) columns), (1, .data (Ty.sl TPart) e), (5, .own 16 none), (6, .data Ty.bool false), (7, .data (Ty.int .i64) (wrap64 (v0.2.1 + (1 : Int))))], [(16, .arr (Ty.int .i64) v0.2.2)]⟩ : St) K)) (((v0.2.2.length + [((((nth (t := TPart) e v0.2.1).2).2).1).1].length) * 8 ≤ lim) ∧ (∃ m_, m_ < m ∧ (L53 columns e) 0 m_ (⟨[(0, .data (Ty.sl TColumn) columns), (1, .data (Ty.sl TPart) e), (5, .own 16 none), (6, .data Ty.bool true), (7, .data (Ty.int .i64) (wrap64 (v0.2.1 + (1 : Int))))], [(16, .arr (Ty.int .i64) (v0.2.2 ++ [((((nth (t := TPart) e v0.2.1).2).2).1).1]))]⟩ : St) K))) ((∃ m_, m_ < m ∧ (L53 columns e) 0 m_ (⟨[(0, .data (Ty.sl TColumn) columns), (1, .data (Ty.sl TPart) e), (5, .own 16 none), (6, .data Ty.bool false), (7, .data (Ty.int .i64) (wrap64 (v0.2.1 + (1 : Int))))], [(16, .arr (Ty.int .i64) v0.2.2)]⟩ : St) K))) (cond (decide ((nth (t := TPart) e v0.2.1).1 = (2 : Int))) (cond (!(M.inR (((nth (t := TPart) e v0.2.1).2).1) (0 : Int) (wrap64 ((columns.length : Int) - (1 : Int))))) ((∃ m_, m_ < m ∧ (L53 columns e) 0 m_ (⟨[(0, .data (Ty.sl TColumn) columns), (1, .data (Ty.sl TPart) e), (5, .own 16 none), (6, .data Ty.bool false), (7, .data (Ty.int .i64) (wrap64 (v0.2.1 + (1 : Int))))], [(16, .arr (Ty.int .i64) v0.2.2)]⟩ : St) K)) ((0 ≤ ((nth (t := TPart) e v0.2.1).2).1) ∧ (((nth (t := TPart) e v0.2.1).2).1 < (columns.length : Int)) ∧ ((v0.2.2.length + [(nth (t := TColumn) columns (((nth (t := TPart) e v0.2.1).2).1)).1].length) * 8 ≤ lim) ∧ (∃ m_, m_ < m ∧ (L53 columns e) 0 m_ (⟨[(0, .data (Ty.sl TColumn) columns), (1, .data (Ty.sl TPart) e), (5, .own 16 none), (6, .data Ty.bool true), (7, .data (Ty.int .i64) (wrap64 (v0.2.1 + (1 : Int))))], [(16, .arr (Ty.int .i64) (v0.2.2 ++ [(nth (t := TColumn) columns (((nth (t := TPart) e v0.2.1).2).1)).1]))]⟩ : St) K))) (cond (decide ((nth (t := TPart) e v0.2.1).1 = (3 : Int))) (cond ((decide ((1 : Int) < (v0.2.2.length : Int))) == true) ((0 ≤ wrap64 ((v0.2.2.length : Int) - (1 : Int))) ∧ (wrap64 ((v0.2.2.length : Int) - (1 : Int)) < (v0.2.2.length : Int)) ∧ cond ((decide ((nth (t := (Ty.int .i64)) v0.2.2 (wrap64 ((v0.2.2.length : Int) - (1 : Int)))) = (1 : Int))) == true) ((0 ≤ wrap64 ((v0.2.2.length : Int) - (2 : Int))) ∧ (wrap64 ((v0.2.2.length : Int) - (2 : Int)) < (v0.2.2.length : Int)) ∧ (0 ≤ (0 : Int)) ∧ ((0 : Int) ≤ (maxI (wrap64 ((v0.2.2.length : Int) - (2 : Int))) (0 : Int))) ∧ ((maxI (wrap64 ((v0.2.2.length : Int) - (2 : Int))) (0 : Int)) ≤ (v0.2.2.length : Int)) ∧ ((maxI (wrap64 ((v0.2.2.length : Int) - (2 : Int))) (0 : Int)) = (maxI (wrap64 ((v0.2.2.length : Int) - (2 : Int))) (0 : Int))) ∧ ((0 : Int) = 0) ∧ (((maxI (wrap64 ((v0.2.2.length : Int) - (2 : Int))) (0 : Int)).toNat + [(1 : Int)].length) * 8 ≤ lim) ∧ (∃ m_, m_ < m ∧ (L53 columns e) 0 m_ (⟨[(0, .data (Ty.sl TColumn) columns), (1, .data (Ty.sl TPart) e), (5, .own 16 none), (6, .data Ty.bool (decide ((nth (t := (Ty.int .i64)) v0.2.2 (wrap64 ((v0.2.2.length : Int) - (2 : Int)))) = (1 : Int)))), (7, .data (Ty.int .i64) (wrap64 (v0.2.1 + (1 : Int))))], [(16, .arr (Ty.int .i64) (v0.2.2.take (maxI (wrap64 ((v0.2.2.length : Int) - (2 : Int))) (0 : Int)).toNat ++ [(1 : Int)]))]⟩ : St) K)) ((0 ≤ (0 : Int)) ∧ ((0 : Int) ≤ (maxI (wrap64 ((v0.2.2.length : Int) - (2 : Int))) (0 : Int))) ∧ ((maxI (wrap64 ((v0.2.2.length : Int) - (2 : Int))) (0 : Int)) ≤ (v0.2.2.length : Int)) ∧ ((maxI (wrap64 ((v0.2.2.length : Int) - (2 : Int))) (0 : Int)) = (maxI (wrap64 ((v0.2.2.length : Int) - (2 : Int))) (0 : Int))) ∧ ((0 : Int) = 0) ∧ (((maxI (wrap64 ((v0.2.2.length : Int) - (2 : Int))) (0 : Int)).toNat + [(1 : Int)].length) * 8 ≤ lim) ∧ (∃ m_, m_ < m ∧ (L53 columns e) 0 m_ (⟨[(0, .data (Ty.sl TColumn) columns), (1, .data (Ty.sl TPart) e), (5, .own 16 none), (6, .data Ty.bool false), (7, .data (Ty.int .i64) (wrap64 (v0.2.1 + (1 : Int))))], [(16, .arr (Ty.int .i64) (v0.2.2.take (maxI (wrap64 ((v0.2.2.length : Int) - (2 : Int))) (0 : Int)).toNat ++ [(1 : Int)]))]⟩ : St) K))) ((0 ≤ (0 : Int)) ∧ ((0 : Int) ≤ (maxI (wrap64 ((v0.2.2.length : Int) - (2 : Int))) (0 : Int))) ∧ ((maxI (wrap64 ((v0.2.2.length : Int) - (2 : Int))) (0 : Int)) ≤ (v0.2.2.length : Int)) ∧ ((maxI (wrap64 ((v0.2.2.length : Int) - (2 : Int))) (0 : Int)) = (maxI (wrap64 ((v0.2.2.length : Int) - (2 : Int))) (0 : Int))) ∧ ((0 : Int) = 0) ∧ (((maxI (wrap64 ((v0.2.2.length : Int) - (2 : Int))) (0 : Int)).toNat + [(1 : Int)].length) * 8 ≤ lim) ∧ (∃ m_, m_ < m ∧ (L53 columns e) 0 m_ (⟨[(0, .data (Ty.sl TColumn) columns), (1, .data (Ty.sl TPart) e), (5, .own 16 none), (6, .data Ty.bool false), (7, .data (Ty.int .i64) (wrap64 (v0.2.1 + (1 : Int))))], [(16, .arr (Ty.int .i64) (v0.2.2.take (maxI (wrap64 ((v0.2.2.length : Int) - (2 : Int))) (0 : Int)).toNat ++ [(1 : Int)]))]⟩ : St) K))) (cond (decide ((nth (t := TPart) e v0.2.1).1 = (4 : Int))) (cond ((decide ((1 : Int) < (v0.2.2.length : Int))) == true) ((0 ≤ wrap64 ((v0.2.2.length : Int) - (1 : Int))) ∧ (wrap64 ((v0.2.2.length : Int) - (1 : Int)) < (v0.2.2.length : Int)) ∧ (0 ≤ wrap64 ((v0.2.2.length : Int) - (2 : Int))) ∧ (wrap64 ((v0.2.2.length : Int) - (2 : Int)) < (v0.2.2.length : Int)) ∧ cond ((decide ((nth (t := (Ty.int .i64)) v0.2.2 (wrap64 ((v0.2.2.length : Int) - (1 : Int)))) = (nth (t := (Ty.int .i64)) v0.2.2 (wrap64 ((v0.2.2.length : Int) - (2 : Int)))))) == true) ((0 ≤ (0 : Int)) ∧ ((0 : Int) ≤ (maxI (wrap64 ((v0.2.2.length : Int) - (2 : Int))) (0 : Int))) ∧ ((maxI (wrap64 ((v0.2.2.length : Int) - (2 : Int))) (0 : Int)) ≤ (v0.2.2.length : Int)) ∧ ((maxI (wrap64 ((v0.2.2.length : Int) - (2 : Int))) (0 : Int)) = (maxI (wrap64 ((v0.2.2.length : Int) - (2 : Int))) (0 : Int))) ∧ ((0 : Int) = 0) ∧ (((maxI (wrap64 ((v0.2.2.length : Int) - (2 : Int))) (0 : Int)).toNat + [(3 : Int)].length) * 8 ≤ lim) ∧ (∃ m_, m_ < m ∧ (L53 columns e) 0 m_ (⟨[(0, .data (Ty.sl TColumn) columns), (1, .data (Ty.sl TPart) e), (5, .own 16 none), (6, .data Ty.bool (M.inR (((nth (t := TPart) e v0.2.1).2).1) (1 : Int) (4 : Int))), (7, .data (Ty.int .i64) (wrap64 (v0.2.1 + (1 : Int))))], [(16, .arr (Ty.int .i64) (v0.2.2.take (maxI (wrap64 ((v0.2.2.length : Int) - (2 : Int))) (0 : Int)).toNat ++ [(3 : Int)]))]⟩ : St) K)) ((0 ≤ (0 : Int)) ∧ ((0 : Int) ≤ (maxI (wrap64 ((v0.2.2.length : Int) - (2 : Int))) (0 : Int))) ∧ ((maxI (wrap64 ((v0.2.2.length : Int) - (2 : Int))) (0 : Int)) ≤ (v0.2.2.length : Int)) ∧ ((maxI (wrap64 ((v0.2.2.length : Int) - (2 : Int))) (0 : Int)) = (maxI (wrap64 ((v0.2.2.length : Int) - (2 : Int))) (0 : Int))) ∧ ((0 : Int) = 0) ∧ (((maxI (wrap64 ((v0.2.2.length : Int) - (2 : Int))) (0 : Int)).toNat + [(3 : Int)].length) * 8 ≤ lim) ∧ (∃ m_, m_ < m ∧ (L53 columns e) 0 m_ (⟨[(0, .data (Ty.sl TColumn) columns), (1, .data (Ty.sl TPart) e), (5, .own 16 none), (6, .data Ty.bool false), (7, .data (Ty.int .i64) (wrap64 (v0.2.1 + (1 : Int))))], [(16, .arr (Ty.int .i64) (v0.2.2.take (maxI (wrap64 ((v0.2.2.length : Int) - (2 : Int))) (0 : Int)).toNat ++ [(3 : Int)]))]⟩ : St) K))) ((0 ≤ (0 : Int)) ∧ ((0 : Int) ≤ (maxI (wrap64 ((v0.2.2.length : Int) - (2 : Int))) (0 : Int))) ∧ ((maxI (wrap64 ((v0.2.2.length : Int) - (2 : Int))) (0 : Int)) ≤ (v0.2.2.length : Int)) ∧ ((maxI (wrap64 ((v0.2.2.length : Int) - (2 : Int))) (0 : Int)) = (maxI (wrap64 ((v0.2.2.length : Int) - (2 : Int))) (0 : Int))) ∧ ((0 : Int) = 0) ∧ (((maxI (wrap64 ((v0.2.2.length : Int) - (2 : Int))) (0 : Int)).toNat + [(3 : Int)].length) * 8 ≤ lim) ∧ (∃ m_, m_ < m ∧ (L53 columns e) 0 m_ (⟨[(0, .data (Ty.sl TColumn) columns), (1, .data (Ty.sl TPart) e), (5, .own 16 none), (6, .data Ty.bool false), (7, .data (Ty.int .i64) (wrap64 (v0.2.1 + (1 : Int))))], [(16, .arr (Ty.int .i64) (v0.2.2.take (maxI (wrap64 ((v0.2.2.length : Int) - (2 : Int))) (0 : Int)).toNat ++ [(3 : Int)]))]⟩ : St) K))) (cond (decide ((nth (t := TPart) e v0.2.1).1 = (5 : Int))) (cond (decide ((nth (t := TPart) e v0.2.1).1 = (5 : Int))) (cond ((decide ((1 : Int) < (v0.2.2.length : Int))) == true) ((0 ≤ wrap64 ((v0.2.2.length : Int) - (1 : Int))) ∧ (wrap64 ((v0.2.2.length : Int) - (1 : Int)) < (v0.2.2.length : Int)) ∧ cond ((decide ((nth (t := (Ty.int .i64)) v0.2.2 (wrap64 ((v0.2.2.length : Int) - (1 : Int)))) = (3 : Int))) == true) ((0 ≤ wrap64 ((v0.2.2.length : Int) - (2 : Int))) ∧ (wrap64 ((v0.2.2.length : Int) - (2 : Int)) < (v0.2.2.length : Int)) ∧ (0 ≤ (0 : Int)) ∧ ((0 : Int) ≤ (maxI (wrap64 ((v0.2.2.length : Int) - (2 : Int))) (0 : Int))) ∧ ((maxI (wrap64 ((v0.2.2.length : Int) - (2 : Int))) (0 : Int)) ≤ (v0.2.2.length : Int)) ∧ ((maxI (wrap64 ((v0.2.2.length : Int) - (2 : Int))) (0 : Int)) = (maxI (wrap64 ((v0.2.2.length : Int) - (2 : Int))) (0 : Int))) ∧ ((0 : Int) = 0) ∧ (((maxI (wrap64 ((v0.2.2.length : Int) - (2 : Int))) (0 : Int)).toNat + [(3 : Int)].length) * 8 ≤ lim) ∧ (∃ m_, m_ < m ∧ (L53 columns e) 0 m_ (⟨[(0, .data (Ty.sl TColumn) columns), (1, .data (Ty.sl TPart) e), (5, .own 16 none), (6, .data Ty.bool (decide ((nth (t := (Ty.int .i64)) v0.2.2 (wrap64 ((v0.2.2.length : Int) - (2 : Int)))) = (3 : Int)))), (7, .data (Ty.int .i64) (wrap64 (v0.2.1 + (1 : Int))))], [(16, .arr (Ty.int .i64) (v0.2.2.take (maxI (wrap64 ((v0.2.2.length : Int) - (2 : Int))) (0 : Int)).toNat ++ [(3 : Int)]))]⟩ : St) K)) ((0 ≤ (0 : Int)) ∧ ((0 : Int) ≤ (maxI (wrap64 ((v0.2.2.length : Int) - (2 : Int))) (0 : Int))) ∧ ((maxI (wrap64 ((v0.2.2.length : Int) - (2 : Int))) (0 : Int)) ≤ (v0.2.2.length : Int)) ∧ ((maxI (wrap64 ((v0.2.2.length : Int) - (2 : Int))) (0 : Int)) = (maxI (wrap64 ((v0.2.2.length : Int) - (2 : Int))) (0 : Int))) ∧ ((0 : Int) = 0) ∧ (((maxI (wrap64 ((v0.2.2.length : Int) - (2 : Int))) (0 : Int)).toNat + [(3 : Int)].length) * 8 ≤ lim) ∧ (∃ m_, m_ < m ∧ (L53 columns e) 0 m_ (⟨[(0, .data (Ty.sl TColumn) columns), (1, .data (Ty.sl TPart) e), (5, .own 16 none), (6, .data Ty.bool false), (7, .data (Ty.int .i64) (wrap64 (v0.2.1 + (1 : Int))))], [(16, .arr (Ty.int .i64) (v0.2.2.take (maxI (wrap64 ((v0.2.2.length : Int) - (2 : Int))) (0 : Int)).toNat ++ [(3 : Int)]))]⟩ : St) K))) ((0 ≤ (0 : Int)) ∧ ((0 : Int) ≤ (maxI (wrap64 ((v0.2.2.length : Int) - (2 : Int))) (0 : Int))) ∧ ((maxI (wrap64 ((v0.2.2.length : Int) - (2 : Int))) (0 : Int)) ≤ (v0.2.2.length : Int)) ∧ ((maxI (wrap64 ((v0.2.2.length : Int) - (2 : Int))) (0 : Int)) = (maxI (wrap64 ((v0.2.2.length : Int) - (2 : Int))) (0 : Int))) ∧ ((0 : Int) = 0) ∧ (((maxI (wrap64 ((v0.2.2.length : Int) - (2 : Int))) (0 : Int)).toNat + [(3 : Int)].length) * 8 ≤ lim) ∧ (∃ m_, m_ < m ∧ (L53 columns e) 0 m_ (⟨[(0, .data (Ty.sl TColumn) columns), (1, .data (Ty.sl TPart) e), (5, .own 16 none), (6, .data Ty.bool false), (7, .data (Ty.int .i64) (wrap64 (v0.2.1 + (1 : Int))))], [(16, .arr (Ty.int .i64) (v0.2.2.take (maxI (wrap64 ((v0.2.2.length : Int) - (2 : Int))) (0 : Int)).toNat ++ [(3 : Int)]))]⟩ : St) K))) (cond (decide ((nth (t := TPart) e v0.2.1).1 = (7 : Int))) (cond ((decide ((0 : Int) < (v0.2.2.length : Int))) == true) ((0 ≤ wrap64 ((v0.2.2.length : Int) - (1 : Int))) ∧ (wrap64 ((v0.2.2.length : Int) - (1 : Int)) < (v0.2.2.length : Int)) ∧ (∃ m_, m_ < m ∧ (L53 columns e) 0 m_ (⟨[(0, .data (Ty.sl TColumn) columns), (1, .data (Ty.sl TPart) e), (5, .own 16 none), (6, .data Ty.bool (decide ((nth (t := (Ty.int .i64)) v0.2.2 (wrap64 ((v0.2.2.length : Int) - (1 : Int)))) = (3 : Int)))), (7, .data (Ty.int .i64) (wrap64 (v0.2.1 + (1 : Int))))], [(16, .arr (Ty.int .i64) v0.2.2)]⟩ : St) K)) ((∃ m_, m_ < m ∧ (L53 columns e) 0 m_ (⟨[(0, .data (Ty.sl TColumn) columns), (1, .data (Ty.sl TPart) e), (5, .own 16 none), (6, .data Ty.bool false), (7, .data (Ty.int .i64) (wrap64 (v0.2.1 + (1 : Int))))], [(16, .arr (Ty.int .i64) v0.2.2)]⟩ : St) K))) (cond (decide ((nth (t := TPart) e v0.2.1).1 = (8 : Int))) ((0 ≤ (0 : Int)) ∧ ((0 : Int) ≤ (maxI (wrap64 ((v0.2.2.length : Int) - (1 : Int))) (0 : Int))) ∧ ((maxI (wrap64 ((v0.2.2.length : Int) - (1 : Int))) (0 : Int)) ≤ (v0.2.2.length : Int)) ∧ ((maxI (wrap64 ((v0.2.2.length : Int) - (1 : Int))) (0 : Int)) = (maxI (wrap64 ((v0.2.2.length : Int) - (1 : Int))) (0 : Int))) ∧ ((0 : Int) = 0) ∧ (((maxI (wrap64 ((v0.2.2.length : Int) - (1 : Int))) (0 : Int)).toNat + [(3 : Int)].length) * 8 ≤ lim) ∧ (∃ m_, m_ < m ∧ (L53 columns e) 0 m_ (⟨[(0, .data (Ty.sl TColumn) columns), (1, .data (Ty.sl TPart) e), (5, .own 16 none), (6, .data Ty.bool (decide ((0 : Int) < (v0.2.2.length : Int)))), (7, .data (Ty.int .i64) (wrap64 (v0.2.1 + (1 : Int))))], [(16, .arr (Ty.int .i64) (v0.2.2.take (maxI (wrap64 ((v0.2.2.length : Int) - (1 : Int))) (0 : Int)).toNat ++ [(3 : Int)]))]⟩ : St) K)) ((∃ m_, m_ < m ∧ (L53 columns e) 0 m_ (⟨[(0, .data (Ty.sl TColumn) columns), (1, .data (Ty.sl TPart) e), (5, .own 16 none), (6, .data Ty.bool false), (7, .data (Ty.int .i64) (wrap64 (v0.2.1 + (1 : Int))))], [(16, .arr (Ty.int .i64) v0.2.2)]⟩ : St) K))))) (cond (decide ((nth (t := TPart) e v0.2.1).1 = (6 : Int))) (cond ((decide ((1 : Int) < (v0.2.2.length : Int))) == true) ((0 ≤ wrap64 ((v0.2.2.length : Int) - (1 : Int))) ∧ (wrap64 ((v0.2.2.length : Int) - (1 : Int)) < (v0.2.2.length : Int)) ∧ cond ((decide ((nth (t := (Ty.int .i64)) v0.2.2 (wrap64 ((v0.2.2.length : Int) - (1 : Int)))) = (3 : Int))) == true) ((0 ≤ wrap64 ((v0.2.2.length : Int) - (2 : Int))) ∧ (wrap64 ((v0.2.2.length : Int) - (2 : Int)) < (v0.2.2.length : Int)) ∧ (0 ≤ (0 : Int)) ∧ ((0 : Int) ≤ (maxI (wrap64 ((v0.2.2.length : Int) - (2 : Int))) (0 : Int))) ∧ ((maxI (wrap64 ((v0.2.2.length : Int) - (2 : Int))) (0 : Int)) ≤ (v0.2.2.length : Int)) ∧ ((maxI (wrap64 ((v0.2.2.length : Int) - (2 : Int))) (0 : Int)) = (maxI (wrap64 ((v0.2.2.length : Int) - (2 : Int))) (0 : Int))) ∧ ((0 : Int) = 0) ∧ (((maxI (wrap64 ((v0.2.2.length : Int) - (2 : Int))) (0 : Int)).toNat + [(3 : Int)].length) * 8 ≤ lim) ∧ (∃ m_, m_ < m ∧ (L53 columns e) 0 m_ (⟨[(0, .data (Ty.sl TColumn) columns), (1, .data (Ty.sl TPart) e), (5, .own 16 none), (6, .data Ty.bool (decide ((nth (t := (Ty.int .i64)) v0.2.2 (wrap64 ((v0.2.2.length : Int) - (2 : Int)))) = (3 : Int)))), (7, .data (Ty.int .i64) (wrap64 (v0.2.1 + (1 : Int))))], [(16, .arr (Ty.int .i64) (v0.2.2.take (maxI (wrap64 ((v0.2.2.length : Int) - (2 : Int))) (0 : Int)).toNat ++ [(3 : Int)]))]⟩ : St) K)) ((0 ≤ (0 : Int)) ∧ ((0 : Int) ≤ (maxI (wrap64 ((v0.2.2.length : Int) - (2 : Int))) (0 : Int))) ∧ ((maxI (wrap64 ((v0.2.2.length : Int) - (2 : Int))) (0 : Int)) ≤ (v0.2.2.length : Int)) ∧ ((maxI (wrap64 ((v0.2.2.length : Int) - (2 : Int))) (0 : Int)) = (maxI (wrap64 ((v0.2.2.length : Int) - (2 : Int))) (0 : Int))) ∧ ((0 : Int) = 0) ∧ (((maxI (wrap64 ((v0.2.2.length : Int) - (2 : Int))) (0 : Int)).toNat + [(3 : Int)].length) * 8 ≤ lim) ∧ (∃ m_, m_ < m ∧ (L53 columns e) 0 m_ (⟨[(0, .data (Ty.sl TColumn) columns), (1, .data (Ty.sl TPart) e), (5, .own 16 none), (6, .data Ty.bool false), (7, .data (Ty.int .i64) (wrap64 (v0.2.1 + (1 : Int))))], [(16, .arr (Ty.int .i64) (v0.2.2.take (maxI (wrap64 ((v0.2.2.length : Int) - (2 : Int))) (0 : Int)).toNat ++ [(3 : Int)]))]⟩ : St) K))) ((0 ≤ (0 : Int)) ∧ ((0 : Int) ≤ (maxI (wrap64 ((v0.2.2.length : Int) - (2 : Int))) (0 : Int))) ∧ ((maxI (wrap64 ((v0.2.2.length : Int) - (2 : Int))) (0 : Int)) ≤ (v0.2.2.length : Int)) ∧ ((maxI (wrap64 ((v0.2.2.length : Int) - (2 : Int))) (0 : Int)) = (maxI (wrap64 ((v0.2.2.length : Int) - (2 : Int))) (0 : Int))) ∧ ((0 : Int) = 0) ∧ (((maxI (wrap64 ((v0.2.2.length : Int) - (2 : Int))) (0 : Int)).toNat + [(3 : Int)].length) * 8 ≤ lim) ∧ (∃ m_, m_ < m ∧ (L53 columns e) 0 m_ (⟨[(0, .data (Ty.sl TColumn) columns), (1, .data (Ty.sl TPart) e), (5, .own 16 none), (6, .data Ty.bool false), (7, .data (Ty.int .i64) (wrap64 (v0.2.1 + (1 : Int))))], [(16, .arr (Ty.int .i64) (v0.2.2.take (maxI (wrap64 ((v0.2.2.length : Int) - (2 : Int))) (0 : Int)).toNat ++ [(3 : Int)]))]⟩ : St) K))) (cond (decide ((nth (t := TPart) e v0.2.1).1 = (7 : Int))) (cond ((decide ((0 : Int) < (v0.2.2.length : Int))) == true) ((0 ≤ wrap64 ((v0.2.2.length : Int) - (1 : Int))) ∧ (wrap64 ((v0.2.2.length : Int) - (1 : Int)) < (v0.2.2.length : Int)) ∧ (∃ m_, m_ < m ∧ (L53 columns e) 0 m_ (⟨[(0, .data (Ty.sl TColumn) columns), (1, .data (Ty.sl TPart) e), (5, .own 16 none), (6, .data Ty.bool (decide ((nth (t := (Ty.int .i64)) v0.2.2 (wrap64 ((v0.2.2.length : Int) - (1 : Int)))) = (3 : Int)))), (7, .data (Ty.int .i64) (wrap64 (v0.2.1 + (1 : Int))))], [(16, .arr (Ty.int .i64) v0.2.2)]⟩ : St) K)) ((∃ m_, m_ < m ∧ (L53 columns e) 0 m_ (⟨[(0, .data (Ty.sl TColumn) columns), (1, .data (Ty.sl TPart) e), (5, .own 16 none), (6, .data Ty.bool false), (7, .data (Ty.int .i64) (wrap64 (v0.2.1 + (1 : Int))))], [(16, .arr (Ty.int .i64) v0.2.2)]⟩ : St) K))) (cond (decide ((nth (t := TPart) e v0.2.1).1 = (8 : Int))) ((0 ≤ (0 : Int)) ∧ ((0 : Int) ≤ (maxI (wrap64 ((v0.2.2.length : Int) - (1 : Int))) (0 : Int))) ∧ ((maxI (wrap64 ((v0.2.2.length : Int) - (1 : Int))) (0 : Int)) ≤ (v0.2.2.length : Int)) ∧ ((maxI (wrap64 ((v0.2.2.length : Int) - (1 : Int))) (0 : Int)) = (maxI (wrap64 ((v0.2.2.length : Int) - (1 : Int))) (0 : Int))) ∧ ((0 : Int) = 0) ∧ (((maxI (wrap64 ((v0.2.2.length : Int) - (1 : Int))) (0 : Int)).toNat + [(3 : Int)].length) * 8 ≤ lim) ∧ (∃ m_, m_ < m ∧ (L53 columns e) 0 m_ (⟨[(0, .data (Ty.sl TColumn) columns), (1, .data (Ty.sl TPart) e), (5, .own 16 none), (6, .data Ty.bool (decide ((0 : Int) < (v0.2.2.length : Int)))), (7, .data (Ty.int .i64) (wrap64 (v0.2.1 + (1 : Int))))], [(16, .arr (Ty.int .i64) (v0.2.2.take (maxI (wrap64 ((v0.2.2.length : Int) - (1 : Int))) (0 : Int)).toNat ++ [(3 : Int)]))]⟩ : St) K)) ((∃ m_, m_ < m ∧ (L53 columns e) 0 m_ (⟨[(0, .data (Ty.sl TColumn) columns), (1, .data (Ty.sl TPart) e), (5, .own 16 none), (6, .data Ty.bool false), (7, .data (Ty.int .i64) (wrap64 (v0.2.1 + (1 : Int))))], [(16, .arr (Ty.int .i64) v0.2.2)]⟩ : St) K)))))))))))) (K (.exit 0) (⟨[(5, .own 16 none), (6, .data Ty.bool v0.1)], [(16, .arr (Ty.int .i64) v0.2.2)]⟩ : St))) (K (.exit 0) (⟨[(5, .own 16 none), (6, .data Ty.bool v0.1)], [(16, .arr (Ty.int .i64) v0.2.2)]⟩ : St))) := by kernel_rfl
theorem con53_ok : ConOk P 53 c53 := by
  refine con_okR (fn := Go.Proofs.Tryz.f53) (code := bodyOf Go.Proofs.Tryz.f53) (tab_ok tab_check cmp_check) consOk53 mixed Go.Proofs.Tryz.func53 rfl rfl fun args hp K h0 => ?_
  obtain ⟨a0, a1, rfl, rfl, h1⟩ := args2_elim h0
  obtain ⟨columns, rfl, h2⟩ := withD_elim h1
  obtain ⟨e, rfl, h3⟩ := withD_elim h2
  obtain ⟨h_columns, h_e, hK⟩ := h3
  have h : ok (F.spec_ExprKind columns e) (fun r => K (.data (Ty.int .i64) r) []) := ok_of_eq (F.spec_ExprKind_eq columns e h_columns h_e) hK
  refine ⟨⟨show (2 : Nat) ≤ 46 by decide, show (2 : Nat) ≤ 1000000 by decide⟩, ann53, (L53 columns e), (.dat (Ty.int .i64)), (loopsN1 (i0 := 0) (by kernel_rfl) ?_), ?_⟩
  · clear h
    intro m_ s_ K_ h
    obtain ⟨hc0, v0, rfl, hv0, h⟩ := (show LP53_0 columns e m_ s_ K_ from h)
    rw [lvc53_0 columns e v0 _ K_]
    exact (loopW_step h (fun m1 hm0 h => (ok_cond h (fun b_10529 h => (ok_cond h (fun b_10530 h => ⟨(ok_guard h).1, have g_10531 := (ok_guard h).1; have h := (ok_guard h).2; ⟨(ok_guard h).1, have g_10532 := (ok_guard h).1; have h := (ok_guard h).2; (ok_cond h (fun b_20533 h => (ok_cond h (fun b_20534 h => (ok_cond h (fun b_20535 h => (ok_cond h (fun b_20536 h => (ok_cond h (fun b_20537 h => (loopW_next (fun m hm => (show LP53_0 columns e m _ _ from ⟨hc0, hm⟩)) hm0 (false, wrap64 (v0.2.1 + (1 : Int)), v0.2.2) rfl trivial (have h := ok_ret h; h))) (fun b_20537 h => (cond_f (bnt (bet b_20533)) (cond_f (bnt (bet b_20535)) (ok_cond h (fun b_20545 h => (ok_cond h (fun b_20546 h => ⟨(ok_guard h).1, have g_20547 := (ok_guard h).1; have h := (ok_guard h).2; ⟨(ok_guard h).1, have g_20548 := (ok_guard h).1; have h := (ok_guard h).2; (ok_cond h (fun b_20549 h => ⟨(ok_guard h).1, have g_20550 := (ok_guard h).1; have h := (ok_guard h).2; ⟨(ok_guard h).1, have g_20551 := (ok_guard h).1; have h := (ok_guard h).2; ⟨(Int.natCast_nonneg 0), ⟨(ok_guard h).1, have g_20552 := (ok_guard h).1; have h := (ok_guard h).2; ⟨(ok_guard h).1, have g_20553 := (ok_guard h).1; have h := (ok_guard h).2; ⟨rfl, ⟨rfl, ⟨(ok_guard h).1, have g_20554 := (ok_guard h).1; have h := (ok_guard h).2; (loopW_next (fun m hm => (show LP53_0 columns e m _ _ from ⟨hc0, hm⟩)) hm0 ((decide ((nth (t := (Ty.int .i64)) v0.2.2 (wrap64 ((v0.2.2.length : Int) - (2 : Int)))) = (1 : Int))), wrap64 (v0.2.1 + (1 : Int)), (v0.2.2.take (maxI (wrap64 ((v0.2.2.length : Int) - (2 : Int))) (0 : Int)).toNat ++ [(1 : Int)])) rfl trivial (have h := ok_ret h; h))⟩⟩⟩⟩⟩⟩⟩⟩) (fun b_20549 h => ⟨(Int.natCast_nonneg 0), ⟨(ok_guard h).1, have g_20555 := (ok_guard h).1; have h := (ok_guard h).2; ⟨(ok_guard h).1, have g_20556 := (ok_guard h).1; have h := (ok_guard h).2; ⟨rfl, ⟨rfl, ⟨(ok_guard h).1, have g_20557 := (ok_guard h).1; have h := (ok_guard h).2; (loopW_next (fun m hm => (show LP53_0 columns e m _ _ from ⟨hc0, hm⟩)) hm0 (false, wrap64 (v0.2.1 + (1 : Int)), (v0.2.2.take (maxI (wrap64 ((v0.2.2.length : Int) - (2 : Int))) (0 : Int)).toNat ++ [(1 : Int)])) rfl trivial (have h := ok_ret h; h))⟩⟩⟩⟩⟩⟩))⟩⟩) (fun b_20546 h => ⟨(Int.natCast_nonneg 0), ⟨(ok_guard h).1, have g_20558 := (ok_guard h).1; have h := (ok_guard h).2; ⟨(ok_guard h).1, have g_20559 := (ok_guard h).1; have h := (ok_guard h).2; ⟨rfl, ⟨rfl, ⟨(ok_guard h).1, have g_20560 := (ok_guard h).1; have h := (ok_guard h).2; (loopW_next (fun m hm => (show LP53_0 columns e m _ _ from ⟨hc0, hm⟩)) hm0 (false, wrap64 (v0.2.1 + (1 : Int)), (v0.2.2.take (maxI (wrap64 ((v0.2.2.length : Int) - (2 : Int))) (0 : Int)).toNat ++ [(1 : Int)])) rfl trivial (have h := ok_ret h; h))⟩⟩⟩⟩⟩⟩))) (fun b_20545 h => (cond_f (bnt (bet b_20536)) (ok_cond h (fun b_20577 h => (cond_t b_20577 (ok_cond h (fun b_20579 h => ⟨(ok_guard h).1, have g_20580 := (ok_guard h).1; have h := (ok_guard h).2; ⟨(ok_guard h).1, have g_20581 := (ok_guard h).1; have h := (ok_guard h).2; (ok_cond h (fun b_20582 h => ⟨(ok_guard h).1, have g_20583 := (ok_guard h).1; have h := (ok_guard h).2; ⟨(ok_guard h).1, have g_20584 := (ok_guard h).1; have h := (ok_guard h).2; ⟨(Int.natCast_nonneg 0), ⟨(ok_guard h).1, have g_20585 := (ok_guard h).1; have h := (ok_guard h).2; ⟨(ok_guard h).1, have g_20586 := (ok_guard h).1; have h := (ok_guard h).2; ⟨rfl, ⟨rfl, ⟨(ok_guard h).1, have g_20587 := (ok_guard h).1; have h := (ok_guard h).2; (loopW_next (fun m hm => (show LP53_0 columns e m _ _ from ⟨hc0, hm⟩)) hm0 ((decide ((nth (t := (Ty.int .i64)) v0.2.2 (wrap64 ((v0.2.2.length : Int) - (2 : Int)))) = (3 : Int))), wrap64 (v0.2.1 + (1 : Int)), (v0.2.2.take (maxI (wrap64 ((v0.2.2.length : Int) - (2 : Int))) (0 : Int)).toNat ++ [(3 : Int)])) rfl trivial (have h := ok_ret h; h))⟩⟩⟩⟩⟩⟩⟩⟩) (fun b_20582 h => ⟨(Int.natCast_nonneg 0), ⟨(ok_guard h).1, have g_20588 := (ok_guard h).1; have h := (ok_guard h).2; ⟨(ok_guard h).1, have g_20589 := (ok_guard h).1; have h := (ok_guard h).2; ⟨rfl, ⟨rfl, ⟨(ok_guard h).1, have g_20590 := (ok_guard h).1; have h := (ok_guard h).2; (loopW_next (fun m hm => (show LP53_0 columns e m _ _ from ⟨hc0, hm⟩)) hm0 (false, wrap64 (v0.2.1 + (1 : Int)), (v0.2.2.take (maxI (wrap64 ((v0.2.2.length : Int) - (2 : Int))) (0 : Int)).toNat ++ [(3 : Int)])) rfl trivial (have h := ok_ret h; h))⟩⟩⟩⟩⟩⟩))⟩⟩) (fun b_20579 h => ⟨(Int.natCast_nonneg 0), ⟨(ok_guard h).1, have g_20591 := (ok_guard h).1; have h := (ok_guard h).2; ⟨(ok_guard h).1, have g_20592 := (ok_guard h).1; have h := (ok_guard h).2; ⟨rfl, ⟨rfl, ⟨(ok_guard h).1, have g_20593 := (ok_guard h).1; have h := (ok_guard h).2; (loopW_next (fun m hm => (show LP53_0 columns e m _ _ from ⟨hc0, hm⟩)) hm0 (false, wrap64 (v0.2.1 + (1 : Int)), (v0.2.2.take (maxI (wrap64 ((v0.2.2.length : Int) - (2 : Int))) (0 : Int)).toNat ++ [(3 : Int)])) rfl trivial (have h := ok_ret h; h))⟩⟩⟩⟩⟩⟩)))) (fun b_20577 h => (ok_cond h (fun b_20602 h => (ok_cond h (fun b_20603 h => ⟨(ok_guard h).1, have g_20604 := (ok_guard h).1; have h := (ok_guard h).2; ⟨(ok_guard h).1, have g_20605 := (ok_guard h).1; have h := (ok_guard h).2; (ok_cond h (fun b_20606 h => ⟨(ok_guard h).1, have g_20607 := (ok_guard h).1; have h := (ok_guard h).2; ⟨(ok_guard h).1, have g_20608 := (ok_guard h).1; have h := (ok_guard h).2; ⟨(Int.natCast_nonneg 0), ⟨(ok_guard h).1, have g_20609 := (ok_guard h).1; have h := (ok_guard h).2; ⟨(ok_guard h).1, have g_20610 := (ok_guard h).1; have h := (ok_guard h).2; ⟨rfl, ⟨rfl, ⟨(ok_guard h).1, have g_20611 := (ok_guard h).1; have h := (ok_guard h).2; (loopW_next (fun m hm => (show LP53_0 columns e m _ _ from ⟨hc0, hm⟩)) hm0 ((decide ((nth (t := (Ty.int .i64)) v0.2.2 (wrap64 ((v0.2.2.length : Int) - (2 : Int)))) = (3 : Int))), wrap64 (v0.2.1 + (1 : Int)), (v0.2.2.take (maxI (wrap64 ((v0.2.2.length : Int) - (2 : Int))) (0 : Int)).toNat ++ [(3 : Int)])) rfl trivial (have h := ok_ret h; h))⟩⟩⟩⟩⟩⟩⟩⟩) (fun b_20606 h => ⟨(Int.natCast_nonneg 0), ⟨(ok_guard h).1, have g_20612 := (ok_guard h).1; have h := (ok_guard h).2; ⟨(ok_guard h).1, have g_20613 := (ok_guard h).1; have h := (ok_guard h).2; ⟨rfl, ⟨rfl, ⟨(ok_guard h).1, have g_20614 := (ok_guard h).1; have h := (ok_guard h).2; (loopW_next (fun m hm => (show LP53_0 columns e m _ _ from ⟨hc0, hm⟩)) hm0 (false, wrap64 (v0.2.1 + (1 : Int)), (v0.2.2.take (maxI (wrap64 ((v0.2.2.length : Int) - (2 : Int))) (0 : Int)).toNat ++ [(3 : Int)])) rfl trivial (have h := ok_ret h; h))⟩⟩⟩⟩⟩⟩))⟩⟩) (fun b_20603 h => ⟨(Int.natCast_nonneg 0), ⟨(ok_guard h).1, have g_20615 := (ok_guard h).1; have h := (ok_guard h).2; ⟨(ok_guard h).1, have g_20616 := (ok_guard h).1; have h := (ok_guard h).2; ⟨rfl, ⟨rfl, ⟨(ok_guard h).1, have g_20617 := (ok_guard h).1; have h := (ok_guard h).2; (loopW_next (fun m hm => (show LP53_0 columns e m _ _ from ⟨hc0, hm⟩)) hm0 (false, wrap64 (v0.2.1 + (1 : Int)), (v0.2.2.take (maxI (wrap64 ((v0.2.2.length : Int) - (2 : Int))) (0 : Int)).toNat ++ [(3 : Int)])) rfl trivial (have h := ok_ret h; h))⟩⟩⟩⟩⟩⟩))) (fun b_20602 h => (ok_cond h (fun b_20618 h => (ok_cond h (fun b_20619 h => ⟨(ok_guard h).1, have g_20620 := (ok_guard h).1; have h := (ok_guard h).2; ⟨(ok_guard h).1, have g_20621 := (ok_guard h).1; have h := (ok_guard h).2; (loopW_next (fun m hm => (show LP53_0 columns e m _ _ from ⟨hc0, hm⟩)) hm0 ((decide ((nth (t := (Ty.int .i64)) v0.2.2 (wrap64 ((v0.2.2.length : Int) - (1 : Int)))) = (3 : Int))), wrap64 (v0.2.1 + (1 : Int)), v0.2.2) rfl trivial (have h := ok_ret h; h))⟩⟩) (fun b_20619 h => (loopW_next (fun m hm => (show LP53_0 columns e m _ _ from ⟨hc0, hm⟩)) hm0 (false, wrap64 (v0.2.1 + (1 : Int)), v0.2.2) rfl trivial (have h := ok_ret h; h))))) (fun b_20618 h => (ok_cond h (fun b_20622 h => ⟨(Int.natCast_nonneg 0), ⟨(ok_guard h).1, have g_20623 := (ok_guard h).1; have h := (ok_guard h).2; ⟨(ok_guard h).1, have g_20624 := (ok_guard h).1; have h := (ok_guard h).2; ⟨rfl, ⟨rfl, ⟨(ok_guard h).1, have g_20625 := (ok_guard h).1; have h := (ok_guard h).2; (loopW_next (fun m hm => (show LP53_0 columns e m _ _ from ⟨hc0, hm⟩)) hm0 ((decide ((0 : Int) < (v0.2.2.length : Int))), wrap64 (v0.2.1 + (1 : Int)), (v0.2.2.take (maxI (wrap64 ((v0.2.2.length : Int) - (1 : Int))) (0 : Int)).toNat ++ [(3 : Int)])) rfl trivial (have h := ok_ret h; h))⟩⟩⟩⟩⟩⟩) (fun b_20622 h => (loopW_next (fun m hm => (show LP53_0 columns e m _ _ from ⟨hc0, hm⟩)) hm0 (false, wrap64 (v0.2.1 + (1 : Int)), v0.2.2) rfl trivial (have h := ok_ret h; h)))))))))))))))))) (fun b_20536 h => (cond_f (bnt (bet b_20533)) (cond_f (bnt (bet b_20535)) (cond_f (dec_ne (bnf (bef b_20536)) (by decide)) (cond_t (bnf (bef b_20536)) (ok_cond h (fun b_20650 h => ⟨(ok_guard h).1, have g_20651 := (ok_guard h).1; have h := (ok_guard h).2; ⟨(ok_guard h).1, have g_20652 := (ok_guard h).1; have h := (ok_guard h).2; ⟨(ok_guard h).1, have g_20653 := (ok_guard h).1; have h := (ok_guard h).2; ⟨(ok_guard h).1, have g_20654 := (ok_guard h).1; have h := (ok_guard h).2; (ok_cond h (fun b_20655 h => ⟨(Int.natCast_nonneg 0), ⟨(ok_guard h).1, have g_20656 := (ok_guard h).1; have h := (ok_guard h).2; ⟨(ok_guard h).1, have g_20657 := (ok_guard h).1; have h := (ok_guard h).2; ⟨rfl, ⟨rfl, ⟨(ok_guard h).1, have g_20658 := (ok_guard h).1; have h := (ok_guard h).2; (loopW_next (fun m hm => (show LP53_0 columns e m _ _ from ⟨hc0, hm⟩)) hm0 ((M.inR (((nth (t := TPart) e v0.2.1).2).1) (1 : Int) (4 : Int)), wrap64 (v0.2.1 + (1 : Int)), (v0.2.2.take (maxI (wrap64 ((v0.2.2.length : Int) - (2 : Int))) (0 : Int)).toNat ++ [(3 : Int)])) rfl trivial (have h := ok_ret h; h))⟩⟩⟩⟩⟩⟩) (fun b_20655 h => ⟨(Int.natCast_nonneg 0), ⟨(ok_guard h).1, have g_20659 := (ok_guard h).1; have h := (ok_guard h).2; ⟨(ok_guard h).1, have g_20660 := (ok_guard h).1; have h := (ok_guard h).2; ⟨rfl, ⟨rfl, ⟨(ok_guard h).1, have g_20661 := (ok_guard h).1; have h := (ok_guard h).2; (loopW_next (fun m hm => (show LP53_0 columns e m _ _ from ⟨hc0, hm⟩)) hm0 (false, wrap64 (v0.2.1 + (1 : Int)), (v0.2.2.take (maxI (wrap64 ((v0.2.2.length : Int) - (2 : Int))) (0 : Int)).toNat ++ [(3 : Int)])) rfl trivial (have h := ok_ret h; h))⟩⟩⟩⟩⟩⟩))⟩⟩⟩⟩) (fun b_20650 h => ⟨(Int.natCast_nonneg 0), ⟨(ok_guard h).1, have g_20662 := (ok_guard h).1; have h := (ok_guard h).2; ⟨(ok_guard h).1, have g_20663 := (ok_guard h).1; have h := (ok_guard h).2; ⟨rfl, ⟨rfl, ⟨(ok_guard h).1, have g_20664 := (ok_guard h).1; have h := (ok_guard h).2; (loopW_next (fun m hm => (show LP53_0 columns e m _ _ from ⟨hc0, hm⟩)) hm0 (false, wrap64 (v0.2.1 + (1 : Int)), (v0.2.2.take (maxI (wrap64 ((v0.2.2.length : Int) - (2 : Int))) (0 : Int)).toNat ++ [(3 : Int)])) rfl trivial (have h := ok_ret h; h))⟩⟩⟩⟩⟩⟩))))))))) (fun b_20535 h => (cond_f (bnt (bet b_20533)) (cond_t (bnf (bef b_20535)) (ok_cond h (fun b_20719 h => (loopW_next (fun m hm => (show LP53_0 columns e m _ _ from ⟨hc0, hm⟩)) hm0 (false, wrap64 (v0.2.1 + (1 : Int)), v0.2.2) rfl trivial (have h := ok_ret h; h))) (fun b_20719 h => ⟨(inR_lo (bnf b_20719)), ⟨(inR_hi (bnf b_20719)), ⟨(ok_guard h).1, have g_20720 := (ok_guard h).1; have h := (ok_guard h).2; (loopW_next (fun m hm => (show LP53_0 columns e m _ _ from ⟨hc0, hm⟩)) hm0 (true, wrap64 (v0.2.1 + (1 : Int)), (v0.2.2 ++ [(nth (t := TColumn) columns (((nth (t := TPart) e v0.2.1).2).1)).1])) rfl trivial (have h := ok_ret h; h))⟩⟩⟩))))))) (fun b_20534 h => (loopW_next (fun m hm => (show LP53_0 columns e m _ _ from ⟨hc0, hm⟩)) hm0 (false, wrap64 (v0.2.1 + (1 : Int)), v0.2.2) rfl trivial (have h := ok_ret h; h))))) (fun b_20533 h => (cond_t (uet (unt (dec_ne (bnf (bef b_20533)) (by decide)))) (cond_t (uet (unt (dec_ne (bnf (bef b_20533)) (by decide)))) (ok_cond h (fun b_20804 h => (loopW_next (fun m hm => (show LP53_0 columns e m _ _ from ⟨hc0, hm⟩)) hm0 (false, wrap64 (v0.2.1 + (1 : Int)), v0.2.2) rfl trivial (have h := ok_ret h; h))) (fun b_20804 h => (cond_t (bnf (bef b_20533)) ⟨(sm_nth h_e v0.2.1).2.2.1, (ok_cond h (fun b_20806 h => (ok_cond h (fun b_20807 h => (loopW_next (fun m hm => (show LP53_0 columns e m _ _ from ⟨hc0, hm⟩)) hm0 (false, wrap64 (v0.2.1 + (1 : Int)), v0.2.2) rfl trivial (have h := ok_ret h; h))) (fun b_20807 h => ⟨(ok_guard h).1, have g_20808 := (ok_guard h).1; have h := (ok_guard h).2; (loopW_next (fun m hm => (show LP53_0 columns e m _ _ from ⟨hc0, hm⟩)) hm0 (true, wrap64 (v0.2.1 + (1 : Int)), (v0.2.2 ++ [((((nth (t := TPart) e v0.2.1).2).2).1).1])) rfl trivial (have h := ok_ret h; h))⟩))) (fun b_20806 h => (loopW_next (fun m hm => (show LP53_0 columns e m _ _ from ⟨hc0, hm⟩)) hm0 (false, wrap64 (v0.2.1 + (1 : Int)), v0.2.2) rfl trivial (have h := ok_ret h; h))))⟩)))))))⟩⟩) (fun b_10530 h => ((have h := ok_ret h; h) trivial)))) (fun b_10529 h => ((have h := ok_ret h; h) trivial)))))
  · rw [vc53 columns e K]
    exact ⟨h_columns, (ok_cond h (fun b_1 h => (ok_cond h (fun b_2 h => (have h := ok_ret h; h)) (fun b_2 h => (loopW_start (fun m hm => ⟨trivial, hm⟩) (true, (0 : Int), []) rfl trivial (ok_bind h (fun e0 h hv0 => (ok_cond h (fun b_21069 h => (ok_cond h (fun b_21070 h => (have h := ok_ret h; h)) (fun b_21070 h => ⟨(Int.natCast_nonneg 0), ⟨(ok_guard h).1, have g_21071 := (ok_guard h).1; have h := (ok_guard h).2; (have h := ok_ret h; h)⟩⟩))) (fun b_21069 h => (have h := ok_ret h; h))))))))) (fun b_1 h => (have h := ok_ret h; h)))⟩

/-! 24: loop.example/tablehouse/spec.BondOk -/
def c24 : Con := ⟨[.dat (Ty.sl TTable), .dat TBond], fun args hp K => args2 (fun a0 a1 => withD (Ty.sl TTable) a0 fun tables => withD TBond a1 fun b => (Sm (Ty.sl TTable) tables) ∧ (Sm TBond b) ∧ K (.data Ty.bool (M.tablesOk tables && M.bondOk tables b)) []) args hp⟩
def cons24 : Cons := [(50, c50), (51, c51), (52, c52), (53, c53)]
def inl24 : List (Nat × Inl) := []
@[reducible] def C24 : Ctx := ⟨tab, fun t => memN t cmps, cons24, 158, inl24, 0⟩
theorem consOk24 : ConsOk P C24 := by
  refine consOk_cons (enter_ok (fn := Go.Proofs.Tryz.f50) Go.Proofs.Tryz.func50 (by kernel_rfl) rfl) con50_ok ?_
  refine consOk_cons (enter_ok (fn := Go.Proofs.Tryz.f51) Go.Proofs.Tryz.func51 (by kernel_rfl) rfl) con51_ok ?_
  refine consOk_cons (enter_ok (fn := Go.Proofs.Tryz.f52) Go.Proofs.Tryz.func52 (by kernel_rfl) rfl) con52_ok ?_
  refine consOk_cons (enter_ok (fn := Go.Proofs.Tryz.f53) Go.Proofs.Tryz.func53 (by kernel_rfl) rfl) con53_ok ?_
  exact consOk_nil
def ann24 : Nat → List Dir
  | 0 => [.fixRow 3 TBond, .keep [0, 3]]
  | 1 => [.keep [0, 3, 18]]
  | 2 => [.keep [4]]
  | 3 => [.keep [0, 3, 5]]
  | 4 => [.keep [0, 3, 5, 26]]
  | 5 => [.keep [0, 3, 5, 26, 27]]
  | 6 => [.keep [4]]
  | 7 => [.keep [0, 3, 5, 26, 55]]
  | 8 => [.keep [4]]
  | 9 => [.keep [0, 3, 5, 84]]
  | 10 => [.keep [0, 3, 5, 126]]
  | 11 => [.keep [4]]
  | 12 => [.keep [0, 3, 5, 6]]
  | 13 => [.keep [0, 3, 5, 6, 131]]
  | 14 => [.keep [0, 3, 5, 6]]
  | 15 => [.keep [0, 3, 5, 6, 157]]
  | 16 => [.keep [4]]
  | 17 => [.keep [4]]
  | 18 => [.keep [4]]
  | 100001 => [.keep []]
  | _ => []
@[reducible] def LP24_1 (tables : (List (TTable).D)) (b : (TBond).D) (m : Nat) (st_ : St) (K : X → St → Prop) : Prop := (True) ∧ LoopI (fun (i1 : Int) (v1 : Unit) => (⟨[(0, .data (Ty.sl TTable) tables), (3, .adr TBond b), (5, .data (Ty.sl TColumn) ((nth (t := TTable) tables b.2.1).1)), (6, .data (Ty.int .i64) i1)], []⟩ : St)) (0 : Int) (b.2.2.1.length : Int) (F.spec_BondOk_l1 tables b) (fun v1 : Unit => True) (outD (fun v1 : Unit => True → K (.exit 1) (⟨[], []⟩ : St)) (fun q1 : Unit => K .ret (⟨[(4, .data Ty.bool false)], []⟩ : St))) m st_
def L24 (tables : (List (TTable).D)) (b : (TBond).D) : Loops := fun id m st_ K => match id with
  | 1 => LP24_1 tables b m st_ K
  | _ => False
theorem vc24 (tables : (List (TTable).D)) (b : (TBond).D) (K : AV → Hp → Prop) : awp C24 (L24 tables b) ann24 (bodyOf Go.Proofs.Tryz.f24) ⟨argEnv 0 [.data (Ty.sl TTable) tables, .data TBond b], []⟩ (outK tab Go.Proofs.Tryz.f24.results.toList (hasBox []) (resK (.dat Ty.bool) K)) =
  ((Sm (Ty.sl TTable) tables) ∧ cond ((!(M.tablesOk tables)) == false) (cond (!(M.inR b.2.1 (0 : Int) (wrap64 ((tables.length : Int) - (1 : Int))))) (K (.data Ty.bool false) []) ((0 ≤ b.2.1) ∧ (b.2.1 < (tables.length : Int)) ∧ cond (decide (b.1 = (1 : Int))) ((Sm (Ty.sl TColumn) ((nth (t := TTable) tables b.2.1).1)) ∧ (Sm (Ty.sl (Ty.int .i64)) b.2.2.1) ∧ cond ((M.listOk ((nth (t := TTable) tables b.2.1).1) b.2.2.1) == true) (cond ((decide (b.2.2.2.1 = (0 : Int))) == true) (cond ((decide ((b.2.2.2.2.1.length : Int) = (0 : Int))) == true) (cond ((!b.2.2.2.2.2.1) == true) (K (.data Ty.bool (decide ((b.2.2.2.2.2.2.1.length : Int) = (0 : Int)))) []) (K (.data Ty.bool false) [])) (K (.data Ty.bool false) [])) (K (.data Ty.bool false) [])) (K (.data Ty.bool false) [])) (cond (decide (b.1 = (3 : Int))) ((Sm (Ty.sl TColumn) ((nth (t := TTable) tables b.2.1).1)) ∧ (Sm (Ty.sl TPart) b.2.2.2.2.2.2.1) ∧ cond ((decide ((M.exprKind ((nth (t := TTable) tables b.2.1).1) b.2.2.2.2.2.2.1) = (3 : Int))) == true) (cond ((decide ((b.2.2.1.length : Int) = (0 : Int))) == true) (cond ((decide (b.2.2.2.1 = (0 : Int))) == true) (cond ((decide ((b.2.2.2.2.1.length : Int) = (0 : Int))) == true) (K (.data Ty.bool (!b.2.2.2.2.2.1)) []) (K (.data Ty.bool false) [])) (K (.data Ty.bool false) [])) (K (.data Ty.bool false) [])) (K (.data Ty.bool false) [])) (cond (decide (b.1 = (2 : Int))) (cond ((!(M.inR b.2.2.2.1 (0 : Int) (wrap64 ((tables.length : Int) - (1 : Int))))) == false) ((Sm (Ty.sl TColumn) ((nth (t := TTable) tables b.2.1).1)) ∧ (Sm (Ty.sl (Ty.int .i64)) b.2.2.1) ∧ cond ((!(M.listOk ((nth (t := TTable) tables b.2.1).1) b.2.2.1)) == false) ((0 ≤ b.2.2.2.1) ∧ (b.2.2.2.1 < (tables.length : Int)) ∧ (Sm (Ty.sl TColumn) ((nth (t := TTable) tables b.2.2.2.1).1)) ∧ (Sm (Ty.sl (Ty.int .i64)) b.2.2.2.2.1) ∧ cond ((!(M.listOk ((nth (t := TTable) tables b.2.2.2.1).1) b.2.2.2.2.1)) == false) (cond ((!decide ((b.2.2.1.length : Int) = (b.2.2.2.2.1.length : Int))) == false) (cond (decide ((0 : Int) < (b.2.2.2.2.2.2.1.length : Int))) (K (.data Ty.bool false) []) ((∃ m_, (True) ∧ LoopI (fun (i1 : Int) (v1 : Unit) => (⟨[(0, .data (Ty.sl TTable) tables), (3, .adr TBond b), (5, .data (Ty.sl TColumn) ((nth (t := TTable) tables b.2.1).1)), (6, .data (Ty.int .i64) i1)], []⟩ : St)) (0 : Int) (b.2.2.1.length : Int) (F.spec_BondOk_l1 tables b) (fun v1 : Unit => True) (outD (fun v1 : Unit => True → K (.data Ty.bool true) []) (fun q1 : Unit => K (.data Ty.bool false) [])) m_ (⟨[(0, .data (Ty.sl TTable) tables), (3, .adr TBond b), (5, .data (Ty.sl TColumn) ((nth (t := TTable) tables b.2.1).1)), (6, .data (Ty.int .i64) (0 : Int))], []⟩ : St)))) (K (.data Ty.bool false) [])) (K (.data Ty.bool false) [])) (K (.data Ty.bool false) [])) (K (.data Ty.bool false) [])) (K (.data Ty.bool false) []))))) (K (.data Ty.bool false) [])) := by kernel_rfl
theorem lvc24_0 (tables : (List (TTable).D)) (b : (TBond).D)  (i1 : Int) (v1 : Unit) (m : Nat) (K : X → St → Prop) : awp C24 (L24 tables b) ann24 (loopAt (bodyOf Go.Proofs.Tryz.f24) 0) (⟨[(0, .data (Ty.sl TTable) tables), (3, .adr TBond b), (5, .data (Ty.sl TColumn) ((nth (t := TTable) tables b.2.1).1)), (6, .data (Ty.int .i64) i1)], []⟩ : St) (thenW (fun s' => ∃ m', m' < m ∧ (L24 tables b) 1 m' s' K) (exitN 1 (ann24 (behind 1)) K)) =
  (cond (decide (i1 < (b.2.2.1.length : Int))) ((0 ≤ i1) ∧ (i1 < (b.2.2.1.length : Int)) ∧ (0 ≤ (nth (t := (Ty.int .i64)) b.2.2.1 i1)) ∧ ((nth (t := (Ty.int .i64)) b.2.2.1 i1) < (((nth (t := TTable) tables b.2.1).1).length : Int)) ∧ (0 ≤ b.2.2.2.1) ∧ (b.2.2.2.1 < (tables.length : Int)) ∧ (0 ≤ i1) ∧ (i1 < (b.2.2.2.2.1.length : Int)) ∧ (0 ≤ (nth (t := (Ty.int .i64)) b.2.2.2.2.1 i1)) ∧ ((nth (t := (Ty.int .i64)) b.2.2.2.2.1 i1) < (((nth (t := TTable) tables b.2.2.2.1).1).length : Int)) ∧ cond (!decide ((nth (t := TColumn) ((nth (t := TTable) tables b.2.1).1) (nth (t := (Ty.int .i64)) b.2.2.1 i1)).1 = (nth (t := TColumn) ((nth (t := TTable) tables b.2.2.2.1).1) (nth (t := (Ty.int .i64)) b.2.2.2.2.1 i1)).1)) (K .ret (⟨[(4, .data Ty.bool false)], []⟩ : St)) ((∃ m_, m_ < m ∧ (L24 tables b) 1 m_ (⟨[(0, .data (Ty.sl TTable) tables), (3, .adr TBond b), (5, .data (Ty.sl TColumn) ((nth (t := TTable) tables b.2.1).1)), (6, .data (Ty.int .i64) (wrap64 (i1 + (1 : Int))))], []⟩ : St) K))) (K (.exit 1) (⟨[], []⟩ : St))) := by kernel_rfl
theorem con24_ok : ConOk P 24 c24 := by
  refine con_okR (fn := Go.Proofs.Tryz.f24) (code := bodyOf Go.Proofs.Tryz.f24) (tab_ok tab_check cmp_check) consOk24 mixed Go.Proofs.Tryz.func24 rfl rfl fun args hp K h0 => ?_
  obtain ⟨a0, a1, rfl, rfl, h1⟩ := args2_elim h0
  obtain ⟨tables, rfl, h2⟩ := withD_elim h1
  obtain ⟨b, rfl, h3⟩ := withD_elim h2
  obtain ⟨h_tables, h_b, hK⟩ := h3
  have h : ok (F.spec_BondOk tables b) (fun r => K (.data Ty.bool r) []) := ok_of_eq (F.spec_BondOk_eq tables b h_tables h_b) hK
  refine ⟨⟨show (2 : Nat) ≤ 158 by decide, show (2 : Nat) ≤ 1000000 by decide⟩, ann24, (L24 tables b), (.dat Ty.bool), (loopsN1 (i0 := 1) (by kernel_rfl) ?_), ?_⟩
  · clear h
    intro m_ s_ K_ h
    obtain ⟨hc1, i1, v1, rfl, hl1, rfl, hv1, h⟩ := (show LP24_1 tables b m_ s_ K_ from h)
    rw [lvc24_0 tables b i1 v1 _ K_]
    exact (loopI_step h (fun ht1 h => ⟨hl1, ⟨ht1, ⟨(ok_guard h).1, have g_41 := (ok_guard h).1; have h := (ok_guard h).2; ⟨(ok_guard h).1, have g_42 := (ok_guard h).1; have h := (ok_guard h).2; ⟨(ok_guard h).1, have g_43 := (ok_guard h).1; have h := (ok_guard h).2; ⟨(ok_guard h).1, have g_44 := (ok_guard h).1; have h := (ok_guard h).2; ⟨hl1, ⟨(ok_guard h).1, have g_45 := (ok_guard h).1; have h := (ok_guard h).2; ⟨(ok_guard h).1, have g_46 := (ok_guard h).1; have h := (ok_guard h).2; ⟨(ok_guard h).1, have g_47 := (ok_guard h).1; have h := (ok_guard h).2; (ok_cond h (fun b_48 h => (have h := ok_ret h; h)) (fun b_48 h => (loopI_next (fun m hm => (show LP24_1 tables b m _ _ from ⟨hc1, hm⟩)) () rfl hl1 low0 ht1 (sm_len h_b.2.2.1) trivial (have h := ok_ret h; h))))⟩⟩⟩⟩⟩⟩⟩⟩⟩⟩) (fun h => (h trivial)))
  · rw [vc24 tables b K]
    exact ⟨h_tables, (ok_cond h (fun b_1 h => (ok_cond h (fun b_2 h => (have h := ok_ret h; h)) (fun b_2 h => ⟨(inR_lo (bnf b_2)), ⟨(inR_hi (bnf b_2)), (ok_cond h (fun b_3 h => ⟨(sm_nth h_tables b.2.1).1, ⟨h_b.2.2.1, (ok_cond h (fun b_4 h => (ok_cond h (fun b_5 h => (ok_cond h (fun b_6 h => (ok_cond h (fun b_7 h => (have h := ok_ret h; h)) (fun b_7 h => (have h := ok_ret h; h)))) (fun b_6 h => (have h := ok_ret h; h)))) (fun b_5 h => (have h := ok_ret h; h)))) (fun b_4 h => (have h := ok_ret h; h)))⟩⟩) (fun b_3 h => (ok_cond h (fun b_8 h => ⟨(sm_nth h_tables b.2.1).1, ⟨h_b.2.2.2.2.2.2.1, (ok_cond h (fun b_9 h => (ok_cond h (fun b_10 h => (ok_cond h (fun b_11 h => (ok_cond h (fun b_12 h => (have h := ok_ret h; h)) (fun b_12 h => (have h := ok_ret h; h)))) (fun b_11 h => (have h := ok_ret h; h)))) (fun b_10 h => (have h := ok_ret h; h)))) (fun b_9 h => (have h := ok_ret h; h)))⟩⟩) (fun b_8 h => (ok_cond h (fun b_13 h => (ok_cond h (fun b_14 h => ⟨(sm_nth h_tables b.2.1).1, ⟨h_b.2.2.1, (ok_cond h (fun b_15 h => ⟨(inR_lo (bnf (bgt b_14))), ⟨(inR_hi (bnf (bgt b_14))), ⟨(sm_nth h_tables b.2.2.2.1).1, ⟨h_b.2.2.2.2.1, (ok_cond h (fun b_16 h => (ok_cond h (fun b_17 h => (ok_cond h (fun b_18 h => (have h := ok_ret h; h)) (fun b_18 h => (loopI_start (fun m hm => ⟨trivial, hm⟩) (0 : Int) () rfl (Int.natCast_nonneg 0) trivial (ok_then h (fun v1 h hv1 => (have h := ok_ret h; h)) (fun q1 h => (have h := ok_ret h; h))))))) (fun b_17 h => (have h := ok_ret h; h)))) (fun b_16 h => (have h := ok_ret h; h)))⟩⟩⟩⟩) (fun b_15 h => (have h := ok_ret h; h)))⟩⟩) (fun b_14 h => (have h := ok_ret h; h)))) (fun b_13 h => (have h := ok_ret h; h)))))))⟩⟩))) (fun b_1 h => (have h := ok_ret h; h)))⟩

/-! 55: loop.example/tablehouse/spec.ValueOf -/
def c55 : Con := ⟨[.dat (Ty.int .i64)], fun args hp K => args1 (fun a0 => withD (Ty.int .i64) a0 fun truth => (∀ r : (TValue).D, r = (M.valueOf truth) → K (.data TValue r) [])) args hp⟩
def cons55 : Cons := []
def inl55 : List (Nat × Inl) := []
@[reducible] def C55 : Ctx := ⟨tab, fun t => memN t cmps, cons55, 12, inl55, 0⟩
theorem consOk55 : ConsOk P C55 := by
  exact consOk_nil
def ann55 : Nat → List Dir
  | 0 => [.keep [0, 2]]
  | 1 => [.keep [0, 2, 8]]
  | 2 => [.keep [2]]
  | 3 => [.keep [2]]
  | _ => []
def L55 (truth : Int) : Loops := fun id m st_ K => match id with
  | _ => False
theorem vc55 (truth : Int) (K : AV → Hp → Prop) : awp C55 (L55 truth) ann55 (bodyOf Go.Proofs.Tryz.f55) ⟨argEnv 0 [.data (Ty.int .i64) truth], []⟩ (outK tab Go.Proofs.Tryz.f55.results.toList (hasBox []) (resK (.dat TValue) K)) =
  (cond ((decide (truth = (0 : Int))) == false) (cond (decide (truth = (1 : Int))) (K (.data TValue ((3 : Int), (truth, ((⟨#[]⟩ : ByteArray), ())))) []) (K (.data TValue ((0 : Int), ((0 : Int), ((⟨#[]⟩ : ByteArray), ())))) [])) (K (.data TValue ((3 : Int), (truth, ((⟨#[]⟩ : ByteArray), ())))) [])) := by kernel_rfl
theorem con55_ok : ConOk P 55 c55 := by
  refine con_okR (fn := Go.Proofs.Tryz.f55) (code := bodyOf Go.Proofs.Tryz.f55) (tab_ok tab_check cmp_check) consOk55 mixed Go.Proofs.Tryz.func55 rfl rfl fun args hp K h0 => ?_
  obtain ⟨a0, rfl, rfl, h1⟩ := args1_elim h0
  obtain ⟨truth, rfl, h2⟩ := withD_elim h1
  have hK := h2
  have h : ok (F.spec_ValueOf truth) (fun r => K (.data TValue r) []) := ok_of_eq (F.spec_ValueOf_eq truth) (hK _ rfl)
  refine ⟨⟨show (1 : Nat) ≤ 12 by decide, show (1 : Nat) ≤ 1000000 by decide⟩, ann55, (L55 truth), (.dat TValue), (no_loops (by kernel_rfl)), ?_⟩
  · rw [vc55 truth K]
    exact (ok_cond h (fun b_1 h => (ok_cond h (fun b_2 h => (have h := ok_ret h; h)) (fun b_2 h => (have h := ok_ret h; h)))) (fun b_1 h => (have h := ok_ret h; h)))

/-! 111: loop.example/tablehouse/spec.l4Sum -/
def c111 : Con := ⟨[.dat TValue, .dat TValue], fun args hp K => args2 (fun a0 a1 => withD TValue a0 fun a => withD TValue a1 fun b => (Sm TValue a) ∧ (Sm TValue b) ∧ (∀ r : (TValue).D, r = (M.sum a b) → K (.data TValue r) [])) args hp⟩
def cons111 : Cons := [(51, c51)]
def inl111 : List (Nat × Inl) := []
@[reducible] def C111 : Ctx := ⟨tab, fun t => memN t cmps, cons111, 27, inl111, 0⟩
theorem consOk111 : ConsOk P C111 := by
  refine consOk_cons (enter_ok (fn := Go.Proofs.Tryz.f51) Go.Proofs.Tryz.func51 (by kernel_rfl) rfl) con51_ok ?_
  exact consOk_nil
def ann111 : Nat → List Dir
  | 0 => [.fixRow 2 TValue, .fixRow 3 TValue, .keep [2, 3, 4]]
  | 1 => [.keep [2, 3, 4, 5]]
  | 2 => [.keep [4, 5, 23]]
  | 3 => [.keep [4]]
  | 4 => [.keep [4]]
  | _ => []
def L111 (a : (TValue).D) (b : (TValue).D) : Loops := fun id m st_ K => match id with
  | _ => False
theorem vc111 (a : (TValue).D) (b : (TValue).D) (K : AV → Hp → Prop) : awp C111 (L111 a b) ann111 (bodyOf Go.Proofs.Tryz.f111) ⟨argEnv 0 [.data TValue a, .data TValue b], []⟩ (outK tab Go.Proofs.Tryz.f111.results.toList (hasBox []) (resK (.dat TValue) K)) =
  (cond ((decide (a.1 = (0 : Int))) == false) (cond ((decide (b.1 = (0 : Int))) == false) (cond (!(M.inR (wrap64 (a.2.1 + b.2.1)) (-9999 : Int) (9999 : Int))) (K (.data TValue ((0 : Int), ((0 : Int), ((⟨#[]⟩ : ByteArray), ())))) []) (K (.data TValue ((1 : Int), (wrap64 (a.2.1 + b.2.1), ((⟨#[]⟩ : ByteArray), ())))) [])) (K (.data TValue ((0 : Int), ((0 : Int), ((⟨#[]⟩ : ByteArray), ())))) [])) (K (.data TValue ((0 : Int), ((0 : Int), ((⟨#[]⟩ : ByteArray), ())))) [])) := by kernel_rfl
theorem con111_ok : ConOk P 111 c111 := by
  refine con_okR (fn := Go.Proofs.Tryz.f111) (code := bodyOf Go.Proofs.Tryz.f111) (tab_ok tab_check cmp_check) consOk111 mixed Go.Proofs.Tryz.func111 rfl rfl fun args hp K h0 => ?_
  obtain ⟨a0, a1, rfl, rfl, h1⟩ := args2_elim h0
  obtain ⟨a, rfl, h2⟩ := withD_elim h1
  obtain ⟨b, rfl, h3⟩ := withD_elim h2
  obtain ⟨h_a, h_b, hK⟩ := h3
  have h : ok (F.spec_l4Sum a b) (fun r => K (.data TValue r) []) := ok_of_eq (F.spec_l4Sum_eq a b h_a h_b) (hK _ rfl)
  refine ⟨⟨show (2 : Nat) ≤ 27 by decide, show (2 : Nat) ≤ 1000000 by decide⟩, ann111, (L111 a b), (.dat TValue), (no_loops (by kernel_rfl)), ?_⟩
  · rw [vc111 a b K]
    exact (ok_cond h (fun b_1 h => (ok_cond h (fun b_2 h => (ok_cond h (fun b_3 h => (have h := ok_ret h; h)) (fun b_3 h => (have h := ok_ret h; h)))) (fun b_2 h => (have h := ok_ret h; h)))) (fun b_1 h => (have h := ok_ret h; h)))

/-! 117: loop.example/tablehouse/spec.l2Bool -/
def c117 : Con := ⟨[.dat Ty.bool], fun args hp K => args1 (fun a0 => withD Ty.bool a0 fun b => K (.data (Ty.int .i64) (M.bool b)) []) args hp⟩
def cons117 : Cons := []
def inl117 : List (Nat × Inl) := []
@[reducible] def C117 : Ctx := ⟨tab, fun t => memN t cmps, cons117, 4, inl117, 0⟩
theorem consOk117 : ConsOk P C117 := by
  exact consOk_nil
def ann117 : Nat → List Dir
  | 0 => [.keep [0]]
  | 1 => [.keep [3]]
  | 2 => [.keep [2]]
  | 3 => [.keep [2]]
  | _ => []
def L117 (b : Bool) : Loops := fun id m st_ K => match id with
  | _ => False
theorem vc117 (b : Bool) (K : AV → Hp → Prop) : awp C117 (L117 b) ann117 (bodyOf Go.Proofs.Tryz.f117) ⟨argEnv 0 [.data Ty.bool b], []⟩ (outK tab Go.Proofs.Tryz.f117.results.toList (hasBox []) (resK (.dat (Ty.int .i64)) K)) =
  (cond b (K (.data (Ty.int .i64) (1 : Int)) []) (K (.data (Ty.int .i64) (0 : Int)) [])) := by kernel_rfl
theorem con117_ok : ConOk P 117 c117 := by
  refine con_okR (fn := Go.Proofs.Tryz.f117) (code := bodyOf Go.Proofs.Tryz.f117) (tab_ok tab_check cmp_check) consOk117 mixed Go.Proofs.Tryz.func117 rfl rfl fun args hp K h0 => ?_
  obtain ⟨a0, rfl, rfl, h1⟩ := args1_elim h0
  obtain ⟨b, rfl, h2⟩ := withD_elim h1
  have hK := h2
  have h : ok (F.spec_l2Bool b) (fun r => K (.data (Ty.int .i64) r) []) := ok_of_eq (F.spec_l2Bool_eq b) hK
  refine ⟨⟨show (1 : Nat) ≤ 4 by decide, show (1 : Nat) ≤ 1000000 by decide⟩, ann117, (L117 b), (.dat (Ty.int .i64)), (no_loops (by kernel_rfl)), ?_⟩
  · rw [vc117 b K]
    exact (ok_cond h (fun b_1 h => (have h := ok_ret h; h)) (fun b_1 h => (have h := ok_ret h; h)))

/-! 160: loop.example/tablehouse/spec.l1Less -/
def c160 : Con := ⟨[.dat (Ty.int .i64), .dat (Ty.int .i64)], fun args hp K => args2 (fun a0 a1 => withD (Ty.int .i64) a0 fun a => withD (Ty.int .i64) a1 fun b => K (.data (Ty.int .i64) (M.less a b)) []) args hp⟩
def cons160 : Cons := []
def inl160 : List (Nat × Inl) := []
@[reducible] def C160 : Ctx := ⟨tab, fun t => memN t cmps, cons160, 8, inl160, 0⟩
theorem consOk160 : ConsOk P C160 := by
  exact consOk_nil
def ann160 : Nat → List Dir
  | 0 => [.keep [0, 1]]
  | 1 => [.keep [7]]
  | 2 => [.keep [4]]
  | 3 => [.keep [4]]
  | _ => []
def L160 (a : Int) (b : Int) : Loops := fun id m st_ K => match id with
  | _ => False
theorem vc160 (a : Int) (b : Int) (K : AV → Hp → Prop) : awp C160 (L160 a b) ann160 (bodyOf Go.Proofs.Tryz.f160) ⟨argEnv 0 [.data (Ty.int .i64) a, .data (Ty.int .i64) b], []⟩ (outK tab Go.Proofs.Tryz.f160.results.toList (hasBox []) (resK (.dat (Ty.int .i64)) K)) =
  (cond (decide (a < b)) (K (.data (Ty.int .i64) (1 : Int)) []) (K (.data (Ty.int .i64) (0 : Int)) [])) := by kernel_rfl
theorem con160_ok : ConOk P 160 c160 := by
  refine con_okR (fn := Go.Proofs.Tryz.f160) (code := bodyOf Go.Proofs.Tryz.f160) (tab_ok tab_check cmp_check) consOk160 mixed Go.Proofs.Tryz.func160 rfl rfl fun args hp K h0 => ?_
  obtain ⟨a0, a1, rfl, rfl, h1⟩ := args2_elim h0
  obtain ⟨a, rfl, h2⟩ := withD_elim h1
  obtain ⟨b, rfl, h3⟩ := withD_elim h2
  have hK := h3
  have h : ok (F.spec_l1Less a b) (fun r => K (.data (Ty.int .i64) r) []) := ok_of_eq (F.spec_l1Less_eq a b) hK
  refine ⟨⟨show (2 : Nat) ≤ 8 by decide, show (2 : Nat) ≤ 1000000 by decide⟩, ann160, (L160 a b), (.dat (Ty.int .i64)), (no_loops (by kernel_rfl)), ?_⟩
  · rw [vc160 a b K]
    exact (ok_cond h (fun b_1 h => (have h := ok_ret h; h)) (fun b_1 h => (have h := ok_ret h; h)))

/-! 161: loop.example/tablehouse/spec.l1Cmp -/
def c161 : Con := ⟨[.dat Ty.str, .dat Ty.str], fun args hp K => args2 (fun a0 a1 => withD Ty.str a0 fun a => withD Ty.str a1 fun b => (Sm Ty.str a) ∧ (Sm Ty.str b) ∧ K (.data (Ty.int .i64) (M.cmpS a b)) []) args hp⟩
def cons161 : Cons := []
def inl161 : List (Nat × Inl) := []
@[reducible] def C161 : Ctx := ⟨tab, fun t => memN t cmps, cons161, 11, inl161, 0⟩
theorem consOk161 : ConsOk P C161 := by
  exact consOk_nil
def ann161 : Nat → List Dir
  | 0 => [.keep [0, 1]]
  | 1 => [.keep [0, 1, 7]]
  | 2 => [.keep [4]]
  | 3 => [.keep [10]]
  | 4 => [.keep [4]]
  | 5 => [.keep [4]]
  | _ => []
def L161 (a : ByteArray) (b : ByteArray) : Loops := fun id m st_ K => match id with
  | _ => False
theorem vc161 (a : ByteArray) (b : ByteArray) (K : AV → Hp → Prop) : awp C161 (L161 a b) ann161 (bodyOf Go.Proofs.Tryz.f161) ⟨argEnv 0 [.data Ty.str a, .data Ty.str b], []⟩ (outK tab Go.Proofs.Tryz.f161.results.toList (hasBox []) (resK (.dat (Ty.int .i64)) K)) =
  (cond (Op.bytesLess a.toList b.toList) (K (.data (Ty.int .i64) (-1 : Int)) []) (cond (!(Op.bytesLess a.toList b.toList || decide (a = b))) (K (.data (Ty.int .i64) (1 : Int)) []) (K (.data (Ty.int .i64) (0 : Int)) []))) := by kernel_rfl
theorem con161_ok : ConOk P 161 c161 := by
  refine con_okR (fn := Go.Proofs.Tryz.f161) (code := bodyOf Go.Proofs.Tryz.f161) (tab_ok tab_check cmp_check) consOk161 mixed Go.Proofs.Tryz.func161 rfl rfl fun args hp K h0 => ?_
  obtain ⟨a0, a1, rfl, rfl, h1⟩ := args2_elim h0
  obtain ⟨a, rfl, h2⟩ := withD_elim h1
  obtain ⟨b, rfl, h3⟩ := withD_elim h2
  obtain ⟨h_a, h_b, hK⟩ := h3
  have h : ok (F.spec_l1Cmp a b) (fun r => K (.data (Ty.int .i64) r) []) := ok_of_eq (F.spec_l1Cmp_eq a b h_a h_b) hK
  refine ⟨⟨show (2 : Nat) ≤ 11 by decide, show (2 : Nat) ≤ 1000000 by decide⟩, ann161, (L161 a b), (.dat (Ty.int .i64)), (no_loops (by kernel_rfl)), ?_⟩
  · rw [vc161 a b K]
    exact (ok_cond h (fun b_1 h => (have h := ok_ret h; h)) (fun b_1 h => (ok_cond h (fun b_2 h => (have h := ok_ret h; h)) (fun b_2 h => (have h := ok_ret h; h)))))

/-! 140: loop.example/tablehouse/spec.ValueOrder -/
def c140 : Con := ⟨[.dat TValue, .dat TValue], fun args hp K => args2 (fun a0 a1 => withD TValue a0 fun a => withD TValue a1 fun b => (Sm TValue a) ∧ (Sm TValue b) ∧ K (.data (Ty.int .i64) (M.valueOrder a b)) []) args hp⟩
def cons140 : Cons := [(110, c110), (160, c160), (161, c161)]
def inl140 : List (Nat × Inl) := []
@[reducible] def C140 : Ctx := ⟨tab, fun t => memN t cmps, cons140, 44, inl140, 0⟩
theorem consOk140 : ConsOk P C140 := by
  refine consOk_cons (enter_ok (fn := Go.Proofs.Tryz.f110) Go.Proofs.Tryz.func110 (by kernel_rfl) rfl) con110_ok ?_
  refine consOk_cons (enter_ok (fn := Go.Proofs.Tryz.f160) Go.Proofs.Tryz.func160 (by kernel_rfl) rfl) con160_ok ?_
  refine consOk_cons (enter_ok (fn := Go.Proofs.Tryz.f161) Go.Proofs.Tryz.func161 (by kernel_rfl) rfl) con161_ok ?_
  exact consOk_nil
def ann140 : Nat → List Dir
  | 0 => [.fixRow 2 TValue, .fixRow 3 TValue, .keep [2, 3]]
  | 1 => [.keep [2, 3, 12]]
  | 2 => [.keep [4]]
  | 3 => [.keep [2, 3, 13]]
  | 4 => [.keep [4]]
  | 5 => [.keep [2, 3, 26]]
  | 6 => [.keep [4]]
  | 7 => [.keep [4]]
  | _ => []
def L140 (a : (TValue).D) (b : (TValue).D) : Loops := fun id m st_ K => match id with
  | _ => False
theorem vc140 (a : (TValue).D) (b : (TValue).D) (K : AV → Hp → Prop) : awp C140 (L140 a b) ann140 (bodyOf Go.Proofs.Tryz.f140) ⟨argEnv 0 [.data TValue a, .data TValue b], []⟩ (outK tab Go.Proofs.Tryz.f140.results.toList (hasBox []) (resK (.dat (Ty.int .i64)) K)) =
  ((Sm TValue a) ∧ cond ((!(M.valueOk a)) == false) ((Sm TValue b) ∧ cond (!(M.valueOk b)) (K (.data (Ty.int .i64) (0 : Int)) []) (cond (!decide (a.1 = b.1)) (K (.data (Ty.int .i64) (wrap64 (wrap64 ((2 : Int) * (M.less b.1 a.1)) - (1 : Int)))) []) (cond (!decide (a.2.1 = b.2.1)) (K (.data (Ty.int .i64) (wrap64 (wrap64 ((2 : Int) * (M.less b.2.1 a.2.1)) - (1 : Int)))) []) ((Sm Ty.str a.2.2.1) ∧ (Sm Ty.str b.2.2.1) ∧ K (.data (Ty.int .i64) (M.cmpS a.2.2.1 b.2.2.1)) [])))) (K (.data (Ty.int .i64) (0 : Int)) [])) := by kernel_rfl
theorem con140_ok : ConOk P 140 c140 := by
  refine con_okR (fn := Go.Proofs.Tryz.f140) (code := bodyOf Go.Proofs.Tryz.f140) (tab_ok tab_check cmp_check) consOk140 mixed Go.Proofs.Tryz.func140 rfl rfl fun args hp K h0 => ?_
  obtain ⟨a0, a1, rfl, rfl, h1⟩ := args2_elim h0
  obtain ⟨a, rfl, h2⟩ := withD_elim h1
  obtain ⟨b, rfl, h3⟩ := withD_elim h2
  obtain ⟨h_a, h_b, hK⟩ := h3
  have h : ok (F.spec_ValueOrder a b) (fun r => K (.data (Ty.int .i64) r) []) := ok_of_eq (F.spec_ValueOrder_eq a b h_a h_b) hK
  refine ⟨⟨show (2 : Nat) ≤ 44 by decide, show (2 : Nat) ≤ 1000000 by decide⟩, ann140, (L140 a b), (.dat (Ty.int .i64)), (no_loops (by kernel_rfl)), ?_⟩
  · rw [vc140 a b K]
    exact ⟨h_a, (ok_cond h (fun b_1 h => ⟨h_b, (ok_cond h (fun b_2 h => (have h := ok_ret h; h)) (fun b_2 h => (ok_cond h (fun b_3 h => (have h := ok_ret h; h)) (fun b_3 h => (ok_cond h (fun b_4 h => (have h := ok_ret h; h)) (fun b_4 h => ⟨h_a.2.2.1, ⟨h_b.2.2.1, (have h := ok_ret h; h)⟩⟩))))))⟩) (fun b_1 h => (have h := ok_ret h; h)))⟩

/-! 112: loop.example/tablehouse/spec.Compare -/
def c112 : Con := ⟨[.dat (Ty.int .i64), .dat TValue, .dat TValue], fun args hp K => args3 (fun a0 a1 a2 => withD (Ty.int .i64) a0 fun kind => withD TValue a1 fun a => withD TValue a2 fun b => (Sm TValue a) ∧ (Sm TValue b) ∧ K (.data (Ty.int .i64) (M.compare kind a b)) []) args hp⟩
def cons112 : Cons := [(51, c51), (110, c110), (117, c117), (140, c140)]
def inl112 : List (Nat × Inl) := []
@[reducible] def C112 : Ctx := ⟨tab, fun t => memN t cmps, cons112, 65, inl112, 0⟩
theorem consOk112 : ConsOk P C112 := by
  refine consOk_cons (enter_ok (fn := Go.Proofs.Tryz.f51) Go.Proofs.Tryz.func51 (by kernel_rfl) rfl) con51_ok ?_
  refine consOk_cons (enter_ok (fn := Go.Proofs.Tryz.f110) Go.Proofs.Tryz.func110 (by kernel_rfl) rfl) con110_ok ?_
  refine consOk_cons (enter_ok (fn := Go.Proofs.Tryz.f117) Go.Proofs.Tryz.func117 (by kernel_rfl) rfl) con117_ok ?_
  refine consOk_cons (enter_ok (fn := Go.Proofs.Tryz.f140) Go.Proofs.Tryz.func140 (by kernel_rfl) rfl) con140_ok ?_
  exact consOk_nil
def ann112 : Nat → List Dir
  | 0 => [.fixRow 4 TValue, .fixRow 5 TValue, .keep [0, 4, 5]]
  | 1 => [.keep [0, 4, 5, 7]]
  | 2 => [.keep [6]]
  | 3 => [.keep [0, 4, 5, 21]]
  | 4 => [.keep [6]]
  | 5 => [.keep [0, 4, 5, 30]]
  | 6 => [.keep [6]]
  | 7 => [.keep [0, 4, 5, 36]]
  | 8 => [.keep [6]]
  | 9 => [.keep [0, 4, 5, 44]]
  | 10 => [.keep [6]]
  | 11 => [.keep [4, 5, 52]]
  | 12 => [.keep [6]]
  | 13 => [.keep [6]]
  | _ => []
def L112 (kind : Int) (a : (TValue).D) (b : (TValue).D) : Loops := fun id m st_ K => match id with
  | _ => False
theorem vc112 (kind : Int) (a : (TValue).D) (b : (TValue).D) (K : AV → Hp → Prop) : awp C112 (L112 kind a b) ann112 (bodyOf Go.Proofs.Tryz.f112) ⟨argEnv 0 [.data (Ty.int .i64) kind, .data TValue a, .data TValue b], []⟩ (outK tab Go.Proofs.Tryz.f112.results.toList (hasBox []) (resK (.dat (Ty.int .i64)) K)) =
  (cond ((!(M.inR kind (1 : Int) (4 : Int))) == false) ((Sm TValue a) ∧ cond ((!(M.valueOk a)) == false) ((Sm TValue b) ∧ cond (!(M.valueOk b)) (K (.data (Ty.int .i64) (-1 : Int)) []) (cond ((decide (a.1 = (0 : Int))) == false) (cond (decide (b.1 = (0 : Int))) (K (.data (Ty.int .i64) (2 : Int)) []) (cond (!decide (a.1 = b.1)) (K (.data (Ty.int .i64) (-1 : Int)) []) (cond (decide (kind = (1 : Int))) ((Sm TValue a) ∧ (Sm TValue b) ∧ K (.data (Ty.int .i64) (M.bool (decide ((M.valueOrder a b) = (0 : Int))))) []) (cond (decide (kind = (2 : Int))) ((Sm TValue a) ∧ (Sm TValue b) ∧ K (.data (Ty.int .i64) (M.bool (!decide ((M.valueOrder a b) = (0 : Int))))) []) (cond (decide (kind = (3 : Int))) ((Sm TValue a) ∧ (Sm TValue b) ∧ K (.data (Ty.int .i64) (M.bool (decide ((M.valueOrder a b) < (0 : Int))))) []) ((Sm TValue a) ∧ (Sm TValue b) ∧ K (.data (Ty.int .i64) (M.bool (decide ((M.valueOrder a b) ≤ (0 : Int))))) [])))))) (K (.data (Ty.int .i64) (2 : Int)) []))) (K (.data (Ty.int .i64) (-1 : Int)) [])) (K (.data (Ty.int .i64) (-1 : Int)) [])) := by kernel_rfl
theorem con112_ok : ConOk P 112 c112 := by
  refine con_okR (fn := Go.Proofs.Tryz.f112) (code := bodyOf Go.Proofs.Tryz.f112) (tab_ok tab_check cmp_check) consOk112 mixed Go.Proofs.Tryz.func112 rfl rfl fun args hp K h0 => ?_
  obtain ⟨a0, a1, a2, rfl, rfl, h1⟩ := args3_elim h0
  obtain ⟨kind, rfl, h2⟩ := withD_elim h1
  obtain ⟨a, rfl, h3⟩ := withD_elim h2
  obtain ⟨b, rfl, h4⟩ := withD_elim h3
  obtain ⟨h_a, h_b, hK⟩ := h4
  have h : ok (F.spec_Compare kind a b) (fun r => K (.data (Ty.int .i64) r) []) := ok_of_eq (F.spec_Compare_eq kind a b h_a h_b) hK
  refine ⟨⟨show (3 : Nat) ≤ 65 by decide, show (3 : Nat) ≤ 1000000 by decide⟩, ann112, (L112 kind a b), (.dat (Ty.int .i64)), (no_loops (by kernel_rfl)), ?_⟩
  · rw [vc112 kind a b K]
    exact (ok_cond h (fun b_1 h => ⟨h_a, (ok_cond h (fun b_2 h => ⟨h_b, (ok_cond h (fun b_3 h => (have h := ok_ret h; h)) (fun b_3 h => (ok_cond h (fun b_4 h => (ok_cond h (fun b_5 h => (have h := ok_ret h; h)) (fun b_5 h => (ok_cond h (fun b_6 h => (have h := ok_ret h; h)) (fun b_6 h => (ok_cond h (fun b_7 h => ⟨h_a, ⟨h_b, (have h := ok_ret h; h)⟩⟩) (fun b_7 h => (ok_cond h (fun b_8 h => ⟨h_a, ⟨h_b, (have h := ok_ret h; h)⟩⟩) (fun b_8 h => (ok_cond h (fun b_9 h => ⟨h_a, ⟨h_b, (have h := ok_ret h; h)⟩⟩) (fun b_9 h => ⟨h_a, ⟨h_b, (have h := ok_ret h; h)⟩⟩))))))))))) (fun b_4 h => (have h := ok_ret h; h)))))⟩) (fun b_2 h => (have h := ok_ret h; h)))⟩) (fun b_1 h => (have h := ok_ret h; h)))

/-! 141: loop.example/tablehouse/spec.TruthOk -/
def c141 : Con := ⟨[.dat (Ty.int .i64)], fun args hp K => args1 (fun a0 => withD (Ty.int .i64) a0 fun n => K (.data Ty.bool (M.inR n 0 2)) []) args hp⟩
def cons141 : Cons := [(51, c51)]
def inl141 : List (Nat × Inl) := []
@[reducible] def C141 : Ctx := ⟨tab, fun t => memN t cmps, cons141, 5, inl141, 0⟩
theorem consOk141 : ConsOk P C141 := by
  refine consOk_cons (enter_ok (fn := Go.Proofs.Tryz.f51) Go.Proofs.Tryz.func51 (by kernel_rfl) rfl) con51_ok ?_
  exact consOk_nil
def ann141 : Nat → List Dir
  | 0 => [.keep [0]]
  | 1 => [.keep [2]]
  | _ => []
def L141 (n : Int) : Loops := fun id m st_ K => match id with
  | _ => False
theorem vc141 (n : Int) (K : AV → Hp → Prop) : awp C141 (L141 n) ann141 (bodyOf Go.Proofs.Tryz.f141) ⟨argEnv 0 [.data (Ty.int .i64) n], []⟩ (outK tab Go.Proofs.Tryz.f141.results.toList (hasBox []) (resK (.dat Ty.bool) K)) =
  (K (.data Ty.bool (M.inR n (0 : Int) (2 : Int))) []) := by kernel_rfl
theorem con141_ok : ConOk P 141 c141 := by
  refine con_okR (fn := Go.Proofs.Tryz.f141) (code := bodyOf Go.Proofs.Tryz.f141) (tab_ok tab_check cmp_check) consOk141 mixed Go.Proofs.Tryz.func141 rfl rfl fun args hp K h0 => ?_
  obtain ⟨a0, rfl, rfl, h1⟩ := args1_elim h0
  obtain ⟨n, rfl, h2⟩ := withD_elim h1
  have hK := h2
  have h : ok (F.spec_TruthOk n) (fun r => K (.data Ty.bool r) []) := ok_of_eq (F.spec_TruthOk_eq n) hK
  refine ⟨⟨show (1 : Nat) ≤ 5 by decide, show (1 : Nat) ≤ 1000000 by decide⟩, ann141, (L141 n), (.dat Ty.bool), (no_loops (by kernel_rfl)), ?_⟩
  · rw [vc141 n K]
    exact (have h := ok_ret h; h)

/-! 142: loop.example/tablehouse/spec.l2Sure -/
def c142 : Con := ⟨[.dat (Ty.int .i64)], fun args hp K => args1 (fun a0 => withD (Ty.int .i64) a0 fun n => (M.inR n 0 2 = true) ∧ K (.data (Ty.int .i64) (M.sure n)) []) args hp⟩
def cons142 : Cons := []
def inl142 : List (Nat × Inl) := []
@[reducible] def C142 : Ctx := ⟨tab, fun t => memN t cmps, cons142, 7, inl142, 0⟩
theorem consOk142 : ConsOk P C142 := by
  exact consOk_nil
def ann142 : Nat → List Dir
  | 0 => [.keep [0]]
  | 1 => [.keep [2]]
  | _ => []
def L142 (n : Int) : Loops := fun id m st_ K => match id with
  | _ => False
theorem vc142 (n : Int) (K : AV → Hp → Prop) : awp C142 (L142 n) ann142 (bodyOf Go.Proofs.Tryz.f142) ⟨argEnv 0 [.data (Ty.int .i64) n], []⟩ (outK tab Go.Proofs.Tryz.f142.results.toList (hasBox []) (resK (.dat (Ty.int .i64)) K)) =
  ((0 ≤ n) ∧ (n < ([(0 : Int), (2 : Int), (1 : Int)].length : Int)) ∧ K (.data (Ty.int .i64) (nth (t := (Ty.int .i64)) [(0 : Int), (2 : Int), (1 : Int)] n)) []) := by kernel_rfl
theorem con142_ok : ConOk P 142 c142 := by
  refine con_okR (fn := Go.Proofs.Tryz.f142) (code := bodyOf Go.Proofs.Tryz.f142) (tab_ok tab_check cmp_check) consOk142 mixed Go.Proofs.Tryz.func142 rfl rfl fun args hp K h0 => ?_
  obtain ⟨a0, rfl, rfl, h1⟩ := args1_elim h0
  obtain ⟨n, rfl, h2⟩ := withD_elim h1
  obtain ⟨p0, hK⟩ := h2
  have h : ok (F.spec_l2Sure n) (fun r => K (.data (Ty.int .i64) r) []) := ok_of_eq (F.spec_l2Sure_eq n p0) hK
  refine ⟨⟨show (1 : Nat) ≤ 7 by decide, show (1 : Nat) ≤ 1000000 by decide⟩, ann142, (L142 n), (.dat (Ty.int .i64)), (no_loops (by kernel_rfl)), ?_⟩
  · rw [vc142 n K]
    exact ⟨(ok_guard h).1, have g_1 := (ok_guard h).1; have h := (ok_guard h).2; ⟨(ok_guard h).1, have g_2 := (ok_guard h).1; have h := (ok_guard h).2; (have h := ok_ret h; h)⟩⟩

/-! 113: loop.example/tablehouse/spec.AndOf -/
def c113 : Con := ⟨[.dat (Ty.int .i64), .dat (Ty.int .i64)], fun args hp K => args2 (fun a0 a1 => withD (Ty.int .i64) a0 fun a => withD (Ty.int .i64) a1 fun b => K (.data (Ty.int .i64) (M.andOf a b)) []) args hp⟩
def cons113 : Cons := [(141, c141), (142, c142)]
def inl113 : List (Nat × Inl) := []
@[reducible] def C113 : Ctx := ⟨tab, fun t => memN t cmps, cons113, 19, inl113, 0⟩
theorem consOk113 : ConsOk P C113 := by
  refine consOk_cons (enter_ok (fn := Go.Proofs.Tryz.f141) Go.Proofs.Tryz.func141 (by kernel_rfl) rfl) con141_ok ?_
  refine consOk_cons (enter_ok (fn := Go.Proofs.Tryz.f142) Go.Proofs.Tryz.func142 (by kernel_rfl) rfl) con142_ok ?_
  exact consOk_nil
def ann113 : Nat → List Dir
  | 0 => [.keep [0, 1]]
  | 1 => [.keep [0, 1, 12]]
  | 2 => [.keep [4]]
  | 3 => [.keep [4]]
  | _ => []
def L113 (a : Int) (b : Int) : Loops := fun id m st_ K => match id with
  | _ => False
theorem vc113 (a : Int) (b : Int) (K : AV → Hp → Prop) : awp C113 (L113 a b) ann113 (bodyOf Go.Proofs.Tryz.f113) ⟨argEnv 0 [.data (Ty.int .i64) a, .data (Ty.int .i64) b], []⟩ (outK tab Go.Proofs.Tryz.f113.results.toList (hasBox []) (resK (.dat (Ty.int .i64)) K)) =
  (cond ((!(M.inR a 0 2)) == false) (cond (!(M.inR b 0 2)) (K (.data (Ty.int .i64) (-1 : Int)) []) ((M.inR a 0 2 = true) ∧ (M.inR b 0 2 = true) ∧ (M.inR (minI (M.sure a) (M.sure b)) 0 2 = true) ∧ K (.data (Ty.int .i64) (M.sure (minI (M.sure a) (M.sure b)))) [])) (K (.data (Ty.int .i64) (-1 : Int)) [])) := by kernel_rfl
theorem con113_ok : ConOk P 113 c113 := by
  refine con_okR (fn := Go.Proofs.Tryz.f113) (code := bodyOf Go.Proofs.Tryz.f113) (tab_ok tab_check cmp_check) consOk113 mixed Go.Proofs.Tryz.func113 rfl rfl fun args hp K h0 => ?_
  obtain ⟨a0, a1, rfl, rfl, h1⟩ := args2_elim h0
  obtain ⟨a, rfl, h2⟩ := withD_elim h1
  obtain ⟨b, rfl, h3⟩ := withD_elim h2
  have hK := h3
  have h : ok (F.spec_AndOf a b) (fun r => K (.data (Ty.int .i64) r) []) := ok_of_eq (F.spec_AndOf_eq a b) hK
  refine ⟨⟨show (2 : Nat) ≤ 19 by decide, show (2 : Nat) ≤ 1000000 by decide⟩, ann113, (L113 a b), (.dat (Ty.int .i64)), (no_loops (by kernel_rfl)), ?_⟩
  · rw [vc113 a b K]
    exact (ok_cond h (fun b_1 h => (ok_cond h (fun b_2 h => (have h := ok_ret h; h)) (fun b_2 h => ⟨(bnf (bgt b_1)), ⟨(bnf b_2), ⟨(ok_guard h).1, have g_3 := (ok_guard h).1; have h := (ok_guard h).2; (have h := ok_ret h; h)⟩⟩⟩))) (fun b_1 h => (have h := ok_ret h; h)))

/-! 114: loop.example/tablehouse/spec.TruthOf -/
def c114 : Con := ⟨[.dat TValue], fun args hp K => args1 (fun a0 => withD TValue a0 fun v => (Sm TValue v) ∧ K (.data (Ty.int .i64) (M.truthOf v)) []) args hp⟩
def cons114 : Cons := [(110, c110)]
def inl114 : List (Nat × Inl) := []
@[reducible] def C114 : Ctx := ⟨tab, fun t => memN t cmps, cons114, 23, inl114, 0⟩
theorem consOk114 : ConsOk P C114 := by
  refine consOk_cons (enter_ok (fn := Go.Proofs.Tryz.f110) Go.Proofs.Tryz.func110 (by kernel_rfl) rfl) con110_ok ?_
  exact consOk_nil
def ann114 : Nat → List Dir
  | 0 => [.fixRow 1 TValue, .keep [1]]
  | 1 => [.keep [1, 3]]
  | 2 => [.keep [2]]
  | 3 => [.keep [1, 17]]
  | 4 => [.keep [2]]
  | 5 => [.keep [2]]
  | _ => []
def L114 (v : (TValue).D) : Loops := fun id m st_ K => match id with
  | _ => False
theorem vc114 (v : (TValue).D) (K : AV → Hp → Prop) : awp C114 (L114 v) ann114 (bodyOf Go.Proofs.Tryz.f114) ⟨argEnv 0 [.data TValue v], []⟩ (outK tab Go.Proofs.Tryz.f114.results.toList (hasBox []) (resK (.dat (Ty.int .i64)) K)) =
  ((Sm TValue v) ∧ cond ((!(M.valueOk v)) == false) (cond ((decide (v.1 = (1 : Int))) == false) (cond (decide (v.1 = (2 : Int))) (K (.data (Ty.int .i64) (-1 : Int)) []) (cond (decide (v.1 = (0 : Int))) (K (.data (Ty.int .i64) (2 : Int)) []) (K (.data (Ty.int .i64) v.2.1) []))) (K (.data (Ty.int .i64) (-1 : Int)) [])) (K (.data (Ty.int .i64) (-1 : Int)) [])) := by kernel_rfl
theorem con114_ok : ConOk P 114 c114 := by
  refine con_okR (fn := Go.Proofs.Tryz.f114) (code := bodyOf Go.Proofs.Tryz.f114) (tab_ok tab_check cmp_check) consOk114 mixed Go.Proofs.Tryz.func114 rfl rfl fun args hp K h0 => ?_
  obtain ⟨a0, rfl, rfl, h1⟩ := args1_elim h0
  obtain ⟨v, rfl, h2⟩ := withD_elim h1
  obtain ⟨h_v, hK⟩ := h2
  have h : ok (F.spec_TruthOf v) (fun r => K (.data (Ty.int .i64) r) []) := ok_of_eq (F.spec_TruthOf_eq v h_v) hK
  refine ⟨⟨show (1 : Nat) ≤ 23 by decide, show (1 : Nat) ≤ 1000000 by decide⟩, ann114, (L114 v), (.dat (Ty.int .i64)), (no_loops (by kernel_rfl)), ?_⟩
  · rw [vc114 v K]
    exact ⟨h_v, (ok_cond h (fun b_1 h => (ok_cond h (fun b_2 h => (ok_cond h (fun b_3 h => (have h := ok_ret h; h)) (fun b_3 h => (ok_cond h (fun b_4 h => (have h := ok_ret h; h)) (fun b_4 h => (have h := ok_ret h; h)))))) (fun b_2 h => (have h := ok_ret h; h)))) (fun b_1 h => (have h := ok_ret h; h)))⟩

/-! 115: loop.example/tablehouse/spec.OrOf -/
def c115 : Con := ⟨[.dat (Ty.int .i64), .dat (Ty.int .i64)], fun args hp K => args2 (fun a0 a1 => withD (Ty.int .i64) a0 fun a => withD (Ty.int .i64) a1 fun b => K (.data (Ty.int .i64) (M.orOf a b)) []) args hp⟩
def cons115 : Cons := [(141, c141), (142, c142)]
def inl115 : List (Nat × Inl) := []
@[reducible] def C115 : Ctx := ⟨tab, fun t => memN t cmps, cons115, 19, inl115, 0⟩
theorem consOk115 : ConsOk P C115 := by
  refine consOk_cons (enter_ok (fn := Go.Proofs.Tryz.f141) Go.Proofs.Tryz.func141 (by kernel_rfl) rfl) con141_ok ?_
  refine consOk_cons (enter_ok (fn := Go.Proofs.Tryz.f142) Go.Proofs.Tryz.func142 (by kernel_rfl) rfl) con142_ok ?_
  exact consOk_nil
def ann115 : Nat → List Dir
  | 0 => [.keep [0, 1]]
  | 1 => [.keep [0, 1, 12]]
  | 2 => [.keep [4]]
  | 3 => [.keep [4]]
  | _ => []
def L115 (a : Int) (b : Int) : Loops := fun id m st_ K => match id with
  | _ => False
theorem vc115 (a : Int) (b : Int) (K : AV → Hp → Prop) : awp C115 (L115 a b) ann115 (bodyOf Go.Proofs.Tryz.f115) ⟨argEnv 0 [.data (Ty.int .i64) a, .data (Ty.int .i64) b], []⟩ (outK tab Go.Proofs.Tryz.f115.results.toList (hasBox []) (resK (.dat (Ty.int .i64)) K)) =
  (cond ((!(M.inR a 0 2)) == false) (cond (!(M.inR b 0 2)) (K (.data (Ty.int .i64) (-1 : Int)) []) ((M.inR a 0 2 = true) ∧ (M.inR b 0 2 = true) ∧ (M.inR (maxI (M.sure a) (M.sure b)) 0 2 = true) ∧ K (.data (Ty.int .i64) (M.sure (maxI (M.sure a) (M.sure b)))) [])) (K (.data (Ty.int .i64) (-1 : Int)) [])) := by kernel_rfl
theorem con115_ok : ConOk P 115 c115 := by
  refine con_okR (fn := Go.Proofs.Tryz.f115) (code := bodyOf Go.Proofs.Tryz.f115) (tab_ok tab_check cmp_check) consOk115 mixed Go.Proofs.Tryz.func115 rfl rfl fun args hp K h0 => ?_
  obtain ⟨a0, a1, rfl, rfl, h1⟩ := args2_elim h0
  obtain ⟨a, rfl, h2⟩ := withD_elim h1
  obtain ⟨b, rfl, h3⟩ := withD_elim h2
  have hK := h3
  have h : ok (F.spec_OrOf a b) (fun r => K (.data (Ty.int .i64) r) []) := ok_of_eq (F.spec_OrOf_eq a b) hK
  refine ⟨⟨show (2 : Nat) ≤ 19 by decide, show (2 : Nat) ≤ 1000000 by decide⟩, ann115, (L115 a b), (.dat (Ty.int .i64)), (no_loops (by kernel_rfl)), ?_⟩
  · rw [vc115 a b K]
    exact (ok_cond h (fun b_1 h => (ok_cond h (fun b_2 h => (have h := ok_ret h; h)) (fun b_2 h => ⟨(bnf (bgt b_1)), ⟨(bnf b_2), ⟨(ok_guard h).1, have g_3 := (ok_guard h).1; have h := (ok_guard h).2; (have h := ok_ret h; h)⟩⟩⟩))) (fun b_1 h => (have h := ok_ret h; h)))

/-! 116: loop.example/tablehouse/spec.NotOf -/
def c116 : Con := ⟨[.dat (Ty.int .i64)], fun args hp K => args1 (fun a0 => withD (Ty.int .i64) a0 fun a => K (.data (Ty.int .i64) (M.notOf a)) []) args hp⟩
def cons116 : Cons := [(141, c141), (142, c142)]
def inl116 : List (Nat × Inl) := []
@[reducible] def C116 : Ctx := ⟨tab, fun t => memN t cmps, cons116, 10, inl116, 0⟩
theorem consOk116 : ConsOk P C116 := by
  refine consOk_cons (enter_ok (fn := Go.Proofs.Tryz.f141) Go.Proofs.Tryz.func141 (by kernel_rfl) rfl) con141_ok ?_
  refine consOk_cons (enter_ok (fn := Go.Proofs.Tryz.f142) Go.Proofs.Tryz.func142 (by kernel_rfl) rfl) con142_ok ?_
  exact consOk_nil
def ann116 : Nat → List Dir
  | 0 => [.keep [0]]
  | 1 => [.keep [0, 5]]
  | 2 => [.keep [2]]
  | 3 => [.keep [2]]
  | _ => []
def L116 (a : Int) : Loops := fun id m st_ K => match id with
  | _ => False
theorem vc116 (a : Int) (K : AV → Hp → Prop) : awp C116 (L116 a) ann116 (bodyOf Go.Proofs.Tryz.f116) ⟨argEnv 0 [.data (Ty.int .i64) a], []⟩ (outK tab Go.Proofs.Tryz.f116.results.toList (hasBox []) (resK (.dat (Ty.int .i64)) K)) =
  (cond (!(M.inR a 0 2)) (K (.data (Ty.int .i64) (-1 : Int)) []) ((M.inR a 0 2 = true) ∧ (M.inR (wrap64 ((2 : Int) - (M.sure a))) 0 2 = true) ∧ K (.data (Ty.int .i64) (M.sure (wrap64 ((2 : Int) - (M.sure a))))) [])) := by kernel_rfl
theorem con116_ok : ConOk P 116 c116 := by
  refine con_okR (fn := Go.Proofs.Tryz.f116) (code := bodyOf Go.Proofs.Tryz.f116) (tab_ok tab_check cmp_check) consOk116 mixed Go.Proofs.Tryz.func116 rfl rfl fun args hp K h0 => ?_
  obtain ⟨a0, rfl, rfl, h1⟩ := args1_elim h0
  obtain ⟨a, rfl, h2⟩ := withD_elim h1
  have hK := h2
  have h : ok (F.spec_NotOf a) (fun r => K (.data (Ty.int .i64) r) []) := ok_of_eq (F.spec_NotOf_eq a) hK
  refine ⟨⟨show (1 : Nat) ≤ 10 by decide, show (1 : Nat) ≤ 1000000 by decide⟩, ann116, (L116 a), (.dat (Ty.int .i64)), (no_loops (by kernel_rfl)), ?_⟩
  · rw [vc116 a K]
    exact (ok_cond h (fun b_1 h => (have h := ok_ret h; h)) (fun b_1 h => ⟨(bnf b_1), ⟨(ok_guard h).1, have g_2 := (ok_guard h).1; have h := (ok_guard h).2; (have h := ok_ret h; h)⟩⟩))

/-! 81: loop.example/tablehouse/spec.l4Do, in place -/
def cons81 : Cons := [(55, c55), (111, c111), (112, c112), (113, c113), (114, c114), (115, c115), (116, c116), (117, c117)]
@[reducible] def C81 : Ctx := ⟨tab, fun t => memN t cmps, cons81, 145, [], 200000⟩
theorem consOk81 : ConsOk P C81 := by
  refine consOk_cons (enter_ok (fn := Go.Proofs.Tryz.f55) Go.Proofs.Tryz.func55 (by kernel_rfl) rfl) con55_ok ?_
  refine consOk_cons (enter_ok (fn := Go.Proofs.Tryz.f111) Go.Proofs.Tryz.func111 (by kernel_rfl) rfl) con111_ok ?_
  refine consOk_cons (enter_ok (fn := Go.Proofs.Tryz.f112) Go.Proofs.Tryz.func112 (by kernel_rfl) rfl) con112_ok ?_
  refine consOk_cons (enter_ok (fn := Go.Proofs.Tryz.f113) Go.Proofs.Tryz.func113 (by kernel_rfl) rfl) con113_ok ?_
  refine consOk_cons (enter_ok (fn := Go.Proofs.Tryz.f114) Go.Proofs.Tryz.func114 (by kernel_rfl) rfl) con114_ok ?_
  refine consOk_cons (enter_ok (fn := Go.Proofs.Tryz.f115) Go.Proofs.Tryz.func115 (by kernel_rfl) rfl) con115_ok ?_
  refine consOk_cons (enter_ok (fn := Go.Proofs.Tryz.f116) Go.Proofs.Tryz.func116 (by kernel_rfl) rfl) con116_ok ?_
  refine consOk_cons (enter_ok (fn := Go.Proofs.Tryz.f117) Go.Proofs.Tryz.func117 (by kernel_rfl) rfl) con117_ok ?_
  exact consOk_nil
def T81 : Inl := inlT C81 (fun _ => []) (bodyOf Go.Proofs.Tryz.f81) Go.Proofs.Tryz.f81.results.toList
theorem inlOk81 : InlOk P 81 T81 := inl_ok (fn := Go.Proofs.Tryz.f81) (code := bodyOf Go.Proofs.Tryz.f81) (tab_ok tab_check cmp_check) consOk81 mixed Go.Proofs.Tryz.func81 rfl rfl (by kernel_rfl)

end Go.AE
