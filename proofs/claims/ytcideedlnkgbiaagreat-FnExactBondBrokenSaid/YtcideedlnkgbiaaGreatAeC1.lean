/- Contracts. -/
import Derived.Test.YtcideedlnkgbiaaGreatAeSeat
import Derived.Test.YtcideedlnkgbiaaGreatAeEq
import Derived.Test.YtcideedlnkgbiaaGreatAeInl
import Derived.Test.YtcideedlnkgbiaaGreatAeC0
namespace Go.AE
open Go Go.RowKit
set_option maxRecDepth 100000
set_option linter.unusedVariables false

/-! 54: loop.example/tablehouse/spec.l4Value -/
def c54 : Con := ⟨[.dat (Ty.sl TValue), .dat (Ty.sl TPart)], fun args hp K => args2 (fun a0 a1 => withD (Ty.sl TValue) a0 fun row => withD (Ty.sl TPart) a1 fun e => (Sm (Ty.sl TValue) row) ∧ (Sm (Ty.sl TPart) e) ∧ (M.exprSafe row.length e) ∧ (∀ r : (TValue).D, r = (M.exprValue row e) → K (.data TValue r) [])) args hp⟩
def cons54 : Cons := []
def inl54 : List (Nat × Inl) := [(81, T81)]
@[reducible] def C54 : Ctx := ⟨tab, fun t => memN t cmps, cons54, 24, inl54, 0⟩
theorem consOk54 : ConsOk P C54 := by
  refine consOk_inl (enter_ok (fn := Go.Proofs.Tryz.f81) Go.Proofs.Tryz.func81 (by kernel_rfl) rfl) inlOk81 ?_
  exact consOk_nil
def ann54 : Nat → List Dir
  | 0 => [.keep [0, 1, 4]]
  | 1 => [.keep [0, 1, 4, 5]]
  | 2 => [.keep [0, 1, 4, 5, 6]]
  | 3 => [.keep [0, 1, 4, 5, 6, 11]]
  | 4 => [.keep [0, 1, 4, 5, 6]]
  | 5 => [.keep [0, 1, 4, 5, 6]]
  | 6 => [.keep [4]]
  | 100000 => [.keep [4, 5]]
  | _ => []
@[reducible] def LP54_0 (row : (List (TValue).D)) (e : (List (TPart).D)) (m : Nat) (st_ : St) (K : X → St → Prop) : Prop := (True) ∧ LoopE (t := TPart) (fun (i0 : Int) (v0 : (List (TValue).D)) => (⟨[(0, .data (Ty.sl TValue) row), (1, .data (Ty.sl TPart) e), (4, .ptr 4 0), (5, .own 7 none), (6, .data (Ty.int .i64) i0)], [(4, .box [.data (Ty.int .i64) (0 : Int), .data (Ty.int .i64) (0 : Int), .data Ty.str (⟨#[]⟩ : ByteArray)]), (7, .arr TValue v0)]⟩ : St)) e (F.spec_l4Value_l0 row e) (fun v0 : (List (TValue).D) => True) (outD (fun v0 : (List (TValue).D) => True → K (.exit 0) (⟨[(4, .ptr 4 0), (5, .own 7 none)], [(4, .box [.data (Ty.int .i64) (0 : Int), .data (Ty.int .i64) (0 : Int), .data Ty.str (⟨#[]⟩ : ByteArray)]), (7, .arr TValue v0)]⟩ : St)) (fun _ => False)) m st_
def L54 (row : (List (TValue).D)) (e : (List (TPart).D)) : Loops := fun id m st_ K => match id with
  | 0 => LP54_0 row e m st_ K
  | _ => False
theorem vc54 (row : (List (TValue).D)) (e : (List (TPart).D)) (K : AV → Hp → Prop) : awp C54 (L54 row e) ann54 (bodyOf Go.Proofs.Tryz.f54) ⟨argEnv 0 [.data (Ty.sl TValue) row, .data (Ty.sl TPart) e], []⟩ (outK tab Go.Proofs.Tryz.f54.results.toList (hasBox []) (resK (.dat TValue) K)) =
  ((∃ m_, (True) ∧ LoopE (t := TPart) (fun (i0 : Int) (v0 : (List (TValue).D)) => (⟨[(0, .data (Ty.sl TValue) row), (1, .data (Ty.sl TPart) e), (4, .ptr 4 0), (5, .own 7 none), (6, .data (Ty.int .i64) i0)], [(4, .box [.data (Ty.int .i64) (0 : Int), .data (Ty.int .i64) (0 : Int), .data Ty.str (⟨#[]⟩ : ByteArray)]), (7, .arr TValue v0)]⟩ : St)) e (F.spec_l4Value_l0 row e) (fun v0 : (List (TValue).D) => True) (outD (fun v0 : (List (TValue).D) => True → (0 ≤ (0 : Int)) ∧ ((0 : Int) < (v0.length : Int)) ∧ K (.data TValue (nth (t := TValue) v0 (0 : Int))) []) (fun _ => False)) m_ (⟨[(0, .data (Ty.sl TValue) row), (1, .data (Ty.sl TPart) e), (4, .ptr 4 0), (5, .own 7 none), (6, .data (Ty.int .i64) (0 : Int))], [(4, .box [.data (Ty.int .i64) (0 : Int), .data (Ty.int .i64) (0 : Int), .data Ty.str (⟨#[]⟩ : ByteArray)]), (7, .arr TValue [])]⟩ : St))) := by kernel_rfl
theorem lvc54_0 (row : (List (TValue).D)) (e : (List (TPart).D))  (i0 : Int) (v0 : (List (TValue).D)) (m : Nat) (K : X → St → Prop) : awp C54 (L54 row e) ann54 (loopAt (bodyOf Go.Proofs.Tryz.f54) 0) (⟨[(0, .data (Ty.sl TValue) row), (1, .data (Ty.sl TPart) e), (4, .ptr 4 0), (5, .own 7 none), (6, .data (Ty.int .i64) i0)], [(4, .box [.data (Ty.int .i64) (0 : Int), .data (Ty.int .i64) (0 : Int), .data Ty.str (⟨#[]⟩ : ByteArray)]), (7, .arr TValue v0)]⟩ : St) (thenW (fun s' => ∃ m', m' < m ∧ (L54 row e) 0 m' s' K) (exitN 0 (ann54 (behind 0)) K)) =
  (cond (decide (i0 < (e.length : Int))) ((0 ≤ i0) ∧ (i0 < (e.length : Int)) ∧ cond (decide ((nth (t := TPart) e i0).1 = (1 : Int))) (((v0.length + [(((nth (t := TPart) e i0).2).2).1].length) * 32 ≤ lim) ∧ (∃ m_, m_ < m ∧ (L54 row e) 0 m_ (⟨[(0, .data (Ty.sl TValue) row), (1, .data (Ty.sl TPart) e), (4, .ptr 4 0), (5, .own 7 none), (6, .data (Ty.int .i64) (wrap64 (i0 + (1 : Int))))], [(4, .box [.data (Ty.int .i64) (0 : Int), .data (Ty.int .i64) (0 : Int), .data Ty.str (⟨#[]⟩ : ByteArray)]), (7, .arr TValue (v0 ++ [(((nth (t := TPart) e i0).2).2).1]))]⟩ : St) K)) (cond (decide ((nth (t := TPart) e i0).1 = (2 : Int))) ((0 ≤ ((nth (t := TPart) e i0).2).1) ∧ (((nth (t := TPart) e i0).2).1 < (row.length : Int)) ∧ ((v0.length + [(nth (t := TValue) row (((nth (t := TPart) e i0).2).1))].length) * 32 ≤ lim) ∧ (∃ m_, m_ < m ∧ (L54 row e) 0 m_ (⟨[(0, .data (Ty.sl TValue) row), (1, .data (Ty.sl TPart) e), (4, .ptr 4 0), (5, .own 7 none), (6, .data (Ty.int .i64) (wrap64 (i0 + (1 : Int))))], [(4, .box [.data (Ty.int .i64) (0 : Int), .data (Ty.int .i64) (0 : Int), .data Ty.str (⟨#[]⟩ : ByteArray)]), (7, .arr TValue (v0 ++ [(nth (t := TValue) row (((nth (t := TPart) e i0).2).1))]))]⟩ : St) K)) (cond (decide ((nth (t := TPart) e i0).1 = (3 : Int))) ((0 ≤ (0 : Int)) ∧ ((0 : Int) ≤ wrap64 ((v0.length : Int) - (2 : Int))) ∧ (wrap64 ((v0.length : Int) - (2 : Int)) ≤ (v0.length : Int)) ∧ (wrap64 ((v0.length : Int) - (2 : Int)) = wrap64 ((v0.length : Int) - (2 : Int))) ∧ (0 ≤ wrap64 ((v0.length : Int) - (2 : Int))) ∧ (wrap64 ((v0.length : Int) - (2 : Int)) < (v0.length : Int)) ∧ (0 ≤ wrap64 ((v0.length : Int) - (1 : Int))) ∧ (wrap64 ((v0.length : Int) - (1 : Int)) < (v0.length : Int)) ∧ (Sm TValue (nth (t := TValue) v0 (wrap64 ((v0.length : Int) - (2 : Int))))) ∧ (Sm TValue (nth (t := TValue) v0 (wrap64 ((v0.length : Int) - (1 : Int))))) ∧ (∀ r_1008_14 : (TValue).D, r_1008_14 = (M.sum (nth (t := TValue) v0 (wrap64 ((v0.length : Int) - (2 : Int)))) (nth (t := TValue) v0 (wrap64 ((v0.length : Int) - (1 : Int))))) → ((0 : Int) = 0) ∧ (((wrap64 ((v0.length : Int) - (2 : Int))).toNat + [r_1008_14].length) * 32 ≤ lim) ∧ (∃ m_, m_ < m ∧ (L54 row e) 0 m_ (⟨[(0, .data (Ty.sl TValue) row), (1, .data (Ty.sl TPart) e), (4, .ptr 4 0), (5, .own 7 none), (6, .data (Ty.int .i64) (wrap64 (i0 + (1 : Int))))], [(4, .box [.data (Ty.int .i64) (0 : Int), .data (Ty.int .i64) (0 : Int), .data Ty.str (⟨#[]⟩ : ByteArray)]), (7, .arr TValue (v0.take (wrap64 ((v0.length : Int) - (2 : Int))).toNat ++ [r_1008_14]))]⟩ : St) K))) (cond (decide ((nth (t := TPart) e i0).1 = (4 : Int))) ((0 ≤ (0 : Int)) ∧ ((0 : Int) ≤ wrap64 ((v0.length : Int) - (2 : Int))) ∧ (wrap64 ((v0.length : Int) - (2 : Int)) ≤ (v0.length : Int)) ∧ (wrap64 ((v0.length : Int) - (2 : Int)) = wrap64 ((v0.length : Int) - (2 : Int))) ∧ (0 ≤ wrap64 ((v0.length : Int) - (2 : Int))) ∧ (wrap64 ((v0.length : Int) - (2 : Int)) < (v0.length : Int)) ∧ (0 ≤ wrap64 ((v0.length : Int) - (1 : Int))) ∧ (wrap64 ((v0.length : Int) - (1 : Int)) < (v0.length : Int)) ∧ (Sm TValue (nth (t := TValue) v0 (wrap64 ((v0.length : Int) - (2 : Int))))) ∧ (Sm TValue (nth (t := TValue) v0 (wrap64 ((v0.length : Int) - (1 : Int))))) ∧ (∀ r_1010_17 : (TValue).D, r_1010_17 = (M.valueOf (M.compare (((nth (t := TPart) e i0).2).1) (nth (t := TValue) v0 (wrap64 ((v0.length : Int) - (2 : Int)))) (nth (t := TValue) v0 (wrap64 ((v0.length : Int) - (1 : Int)))))) → ((0 : Int) = 0) ∧ (((wrap64 ((v0.length : Int) - (2 : Int))).toNat + [r_1010_17].length) * 32 ≤ lim) ∧ (∃ m_, m_ < m ∧ (L54 row e) 0 m_ (⟨[(0, .data (Ty.sl TValue) row), (1, .data (Ty.sl TPart) e), (4, .ptr 4 0), (5, .own 7 none), (6, .data (Ty.int .i64) (wrap64 (i0 + (1 : Int))))], [(4, .box [.data (Ty.int .i64) (0 : Int), .data (Ty.int .i64) (0 : Int), .data Ty.str (⟨#[]⟩ : ByteArray)]), (7, .arr TValue (v0.take (wrap64 ((v0.length : Int) - (2 : Int))).toNat ++ [r_1010_17]))]⟩ : St) K))) (cond (decide ((nth (t := TPart) e i0).1 = (5 : Int))) ((0 ≤ (0 : Int)) ∧ ((0 : Int) ≤ wrap64 ((v0.length : Int) - (2 : Int))) ∧ (wrap64 ((v0.length : Int) - (2 : Int)) ≤ (v0.length : Int)) ∧ (wrap64 ((v0.length : Int) - (2 : Int)) = wrap64 ((v0.length : Int) - (2 : Int))) ∧ (0 ≤ wrap64 ((v0.length : Int) - (2 : Int))) ∧ (wrap64 ((v0.length : Int) - (2 : Int)) < (v0.length : Int)) ∧ (0 ≤ wrap64 ((v0.length : Int) - (1 : Int))) ∧ (wrap64 ((v0.length : Int) - (1 : Int)) < (v0.length : Int)) ∧ (Sm TValue (nth (t := TValue) v0 (wrap64 ((v0.length : Int) - (2 : Int))))) ∧ (Sm TValue (nth (t := TValue) v0 (wrap64 ((v0.length : Int) - (1 : Int))))) ∧ (∀ r_1012_17 : (TValue).D, r_1012_17 = (M.valueOf (M.andOf (M.truthOf (nth (t := TValue) v0 (wrap64 ((v0.length : Int) - (2 : Int))))) (M.truthOf (nth (t := TValue) v0 (wrap64 ((v0.length : Int) - (1 : Int))))))) → ((0 : Int) = 0) ∧ (((wrap64 ((v0.length : Int) - (2 : Int))).toNat + [r_1012_17].length) * 32 ≤ lim) ∧ (∃ m_, m_ < m ∧ (L54 row e) 0 m_ (⟨[(0, .data (Ty.sl TValue) row), (1, .data (Ty.sl TPart) e), (4, .ptr 4 0), (5, .own 7 none), (6, .data (Ty.int .i64) (wrap64 (i0 + (1 : Int))))], [(4, .box [.data (Ty.int .i64) (0 : Int), .data (Ty.int .i64) (0 : Int), .data Ty.str (⟨#[]⟩ : ByteArray)]), (7, .arr TValue (v0.take (wrap64 ((v0.length : Int) - (2 : Int))).toNat ++ [r_1012_17]))]⟩ : St) K))) (cond (decide ((nth (t := TPart) e i0).1 = (6 : Int))) ((0 ≤ (0 : Int)) ∧ ((0 : Int) ≤ wrap64 ((v0.length : Int) - (2 : Int))) ∧ (wrap64 ((v0.length : Int) - (2 : Int)) ≤ (v0.length : Int)) ∧ (wrap64 ((v0.length : Int) - (2 : Int)) = wrap64 ((v0.length : Int) - (2 : Int))) ∧ (0 ≤ wrap64 ((v0.length : Int) - (2 : Int))) ∧ (wrap64 ((v0.length : Int) - (2 : Int)) < (v0.length : Int)) ∧ (0 ≤ wrap64 ((v0.length : Int) - (1 : Int))) ∧ (wrap64 ((v0.length : Int) - (1 : Int)) < (v0.length : Int)) ∧ (Sm TValue (nth (t := TValue) v0 (wrap64 ((v0.length : Int) - (2 : Int))))) ∧ (Sm TValue (nth (t := TValue) v0 (wrap64 ((v0.length : Int) - (1 : Int))))) ∧ (∀ r_1014_17 : (TValue).D, r_1014_17 = (M.valueOf (M.orOf (M.truthOf (nth (t := TValue) v0 (wrap64 ((v0.length : Int) - (2 : Int))))) (M.truthOf (nth (t := TValue) v0 (wrap64 ((v0.length : Int) - (1 : Int))))))) → ((0 : Int) = 0) ∧ (((wrap64 ((v0.length : Int) - (2 : Int))).toNat + [r_1014_17].length) * 32 ≤ lim) ∧ (∃ m_, m_ < m ∧ (L54 row e) 0 m_ (⟨[(0, .data (Ty.sl TValue) row), (1, .data (Ty.sl TPart) e), (4, .ptr 4 0), (5, .own 7 none), (6, .data (Ty.int .i64) (wrap64 (i0 + (1 : Int))))], [(4, .box [.data (Ty.int .i64) (0 : Int), .data (Ty.int .i64) (0 : Int), .data Ty.str (⟨#[]⟩ : ByteArray)]), (7, .arr TValue (v0.take (wrap64 ((v0.length : Int) - (2 : Int))).toNat ++ [r_1014_17]))]⟩ : St) K))) (cond (decide ((nth (t := TPart) e i0).1 = (7 : Int))) ((0 ≤ (0 : Int)) ∧ ((0 : Int) ≤ wrap64 ((v0.length : Int) - (1 : Int))) ∧ (wrap64 ((v0.length : Int) - (1 : Int)) ≤ (v0.length : Int)) ∧ (wrap64 ((v0.length : Int) - (1 : Int)) = wrap64 ((v0.length : Int) - (1 : Int))) ∧ (0 ≤ wrap64 ((v0.length : Int) - (1 : Int))) ∧ (wrap64 ((v0.length : Int) - (1 : Int)) < (v0.length : Int)) ∧ (Sm TValue (nth (t := TValue) v0 (wrap64 ((v0.length : Int) - (1 : Int))))) ∧ (∀ r_1016_11 : (TValue).D, r_1016_11 = (M.valueOf (M.notOf (M.truthOf (nth (t := TValue) v0 (wrap64 ((v0.length : Int) - (1 : Int))))))) → ((0 : Int) = 0) ∧ (((wrap64 ((v0.length : Int) - (1 : Int))).toNat + [r_1016_11].length) * 32 ≤ lim) ∧ (∃ m_, m_ < m ∧ (L54 row e) 0 m_ (⟨[(0, .data (Ty.sl TValue) row), (1, .data (Ty.sl TPart) e), (4, .ptr 4 0), (5, .own 7 none), (6, .data (Ty.int .i64) (wrap64 (i0 + (1 : Int))))], [(4, .box [.data (Ty.int .i64) (0 : Int), .data (Ty.int .i64) (0 : Int), .data Ty.str (⟨#[]⟩ : ByteArray)]), (7, .arr TValue (v0.take (wrap64 ((v0.length : Int) - (1 : Int))).toNat ++ [r_1016_11]))]⟩ : St) K))) ((0 ≤ (0 : Int)) ∧ ((0 : Int) ≤ wrap64 ((v0.length : Int) - (1 : Int))) ∧ (wrap64 ((v0.length : Int) - (1 : Int)) ≤ (v0.length : Int)) ∧ (wrap64 ((v0.length : Int) - (1 : Int)) = wrap64 ((v0.length : Int) - (1 : Int))) ∧ (0 ≤ wrap64 ((v0.length : Int) - (1 : Int))) ∧ (wrap64 ((v0.length : Int) - (1 : Int)) < (v0.length : Int)) ∧ (∀ r_1017_12 : (TValue).D, r_1017_12 = (M.valueOf (M.bool (decide ((nth (t := TValue) v0 (wrap64 ((v0.length : Int) - (1 : Int)))).1 = (0 : Int))))) → ((0 : Int) = 0) ∧ (((wrap64 ((v0.length : Int) - (1 : Int))).toNat + [r_1017_12].length) * 32 ≤ lim) ∧ (∃ m_, m_ < m ∧ (L54 row e) 0 m_ (⟨[(0, .data (Ty.sl TValue) row), (1, .data (Ty.sl TPart) e), (4, .ptr 4 0), (5, .own 7 none), (6, .data (Ty.int .i64) (wrap64 (i0 + (1 : Int))))], [(4, .box [.data (Ty.int .i64) (0 : Int), .data (Ty.int .i64) (0 : Int), .data Ty.str (⟨#[]⟩ : ByteArray)]), (7, .arr TValue (v0.take (wrap64 ((v0.length : Int) - (1 : Int))).toNat ++ [r_1017_12]))]⟩ : St) K)))))))))) (K (.exit 0) (⟨[(4, .ptr 4 0), (5, .own 7 none)], [(4, .box [.data (Ty.int .i64) (0 : Int), .data (Ty.int .i64) (0 : Int), .data Ty.str (⟨#[]⟩ : ByteArray)]), (7, .arr TValue v0)]⟩ : St))) := by kernel_rfl
theorem con54_ok : ConOk P 54 c54 := by
  refine con_okR (fn := Go.Proofs.Tryz.f54) (code := bodyOf Go.Proofs.Tryz.f54) (tab_ok tab_check cmp_check) consOk54 mixed Go.Proofs.Tryz.func54 rfl rfl fun args hp K h0 => ?_
  obtain ⟨a0, a1, rfl, rfl, h1⟩ := args2_elim h0
  obtain ⟨row, rfl, h2⟩ := withD_elim h1
  obtain ⟨e, rfl, h3⟩ := withD_elim h2
  obtain ⟨h_row, h_e, p0, hK⟩ := h3
  have h : ok (F.spec_l4Value row e) (fun r => K (.data TValue r) []) := ok_of_eq (F.spec_l4Value_eq row e h_row h_e p0) (hK _ rfl)
  refine ⟨⟨show (2 : Nat) ≤ 24 by decide, show (2 : Nat) ≤ 1000000 by decide⟩, ann54, (L54 row e), (.dat TValue), (loopsN1 (i0 := 0) (by kernel_rfl) ?_), ?_⟩
  · clear h
    intro m_ s_ K_ h
    obtain ⟨hc0, i0, v0, rfl, hl0, rfl, hv0, h⟩ := (show LP54_0 row e m_ s_ K_ from h)
    rw [lvc54_0 row e i0 v0 _ K_]
    exact (loopE_step (t := TPart) hl0 h (fun ht0 h => ⟨hl0, ⟨ht0, (ok_cond h (fun b_30112 h => ⟨(ok_guard h).1, have g_30113 := (ok_guard h).1; have h := (ok_guard h).2; (loopE_next (t := TPart) (fun m hm => (show LP54_0 row e m _ _ from ⟨hc0, hm⟩)) (v0 ++ [(((nth (t := TPart) e i0).2).2).1]) rfl hl0 ht0 (sm_len h_e) trivial (have h := ok_ret h; h))⟩) (fun b_30112 h => (ok_cond h (fun b_30114 h => ⟨(ok_guard h).1, have g_30115 := (ok_guard h).1; have h := (ok_guard h).2; ⟨(ok_guard h).1, have g_30116 := (ok_guard h).1; have h := (ok_guard h).2; ⟨(ok_guard h).1, have g_30117 := (ok_guard h).1; have h := (ok_guard h).2; (loopE_next (t := TPart) (fun m hm => (show LP54_0 row e m _ _ from ⟨hc0, hm⟩)) (v0 ++ [(nth (t := TValue) row (((nth (t := TPart) e i0).2).1))]) rfl hl0 ht0 (sm_len h_e) trivial (have h := ok_ret h; h))⟩⟩⟩) (fun b_30114 h => (ok_cond h (fun b_30118 h => ⟨(Int.natCast_nonneg 0), ⟨(ok_guard h).1, have g_30119 := (ok_guard h).1; have h := (ok_guard h).2; ⟨(ok_guard h).1, have g_30120 := (ok_guard h).1; have h := (ok_guard h).2; ⟨rfl, ⟨(ok_guard h).1, have g_30121 := (ok_guard h).1; have h := (ok_guard h).2; ⟨(ok_guard h).1, have g_30122 := (ok_guard h).1; have h := (ok_guard h).2; ⟨(ok_guard h).1, have g_30123 := (ok_guard h).1; have h := (ok_guard h).2; ⟨(ok_guard h).1, have g_30124 := (ok_guard h).1; have h := (ok_guard h).2; ⟨(ok_guard h).1, have g_30125 := (ok_guard h).1; have h := (ok_guard h).2; ⟨(ok_guard h).1, have g_30126 := (ok_guard h).1; have h := (ok_guard h).2; (fun r_1008_14 e_r_1008_14 => have h := ok_let h r_1008_14 e_r_1008_14; ⟨rfl, ⟨(ok_guard h).1, have g_30127 := (ok_guard h).1; have h := (ok_guard h).2; (loopE_next (t := TPart) (fun m hm => (show LP54_0 row e m _ _ from ⟨hc0, hm⟩)) (v0.take (wrap64 ((v0.length : Int) - (2 : Int))).toNat ++ [r_1008_14]) rfl hl0 ht0 (sm_len h_e) trivial (have h := ok_ret h; h))⟩⟩)⟩⟩⟩⟩⟩⟩⟩⟩⟩⟩) (fun b_30118 h => (ok_cond h (fun b_30128 h => ⟨(Int.natCast_nonneg 0), ⟨(ok_guard h).1, have g_30129 := (ok_guard h).1; have h := (ok_guard h).2; ⟨(ok_guard h).1, have g_30130 := (ok_guard h).1; have h := (ok_guard h).2; ⟨rfl, ⟨(ok_guard h).1, have g_30131 := (ok_guard h).1; have h := (ok_guard h).2; ⟨(ok_guard h).1, have g_30132 := (ok_guard h).1; have h := (ok_guard h).2; ⟨(ok_guard h).1, have g_30133 := (ok_guard h).1; have h := (ok_guard h).2; ⟨(ok_guard h).1, have g_30134 := (ok_guard h).1; have h := (ok_guard h).2; ⟨(ok_guard h).1, have g_30135 := (ok_guard h).1; have h := (ok_guard h).2; ⟨(ok_guard h).1, have g_30136 := (ok_guard h).1; have h := (ok_guard h).2; (fun r_1010_17 e_r_1010_17 => have h := ok_let h r_1010_17 e_r_1010_17; ⟨rfl, ⟨(ok_guard h).1, have g_30137 := (ok_guard h).1; have h := (ok_guard h).2; (loopE_next (t := TPart) (fun m hm => (show LP54_0 row e m _ _ from ⟨hc0, hm⟩)) (v0.take (wrap64 ((v0.length : Int) - (2 : Int))).toNat ++ [r_1010_17]) rfl hl0 ht0 (sm_len h_e) trivial (have h := ok_ret h; h))⟩⟩)⟩⟩⟩⟩⟩⟩⟩⟩⟩⟩) (fun b_30128 h => (ok_cond h (fun b_30138 h => ⟨(Int.natCast_nonneg 0), ⟨(ok_guard h).1, have g_30139 := (ok_guard h).1; have h := (ok_guard h).2; ⟨(ok_guard h).1, have g_30140 := (ok_guard h).1; have h := (ok_guard h).2; ⟨rfl, ⟨(ok_guard h).1, have g_30141 := (ok_guard h).1; have h := (ok_guard h).2; ⟨(ok_guard h).1, have g_30142 := (ok_guard h).1; have h := (ok_guard h).2; ⟨(ok_guard h).1, have g_30143 := (ok_guard h).1; have h := (ok_guard h).2; ⟨(ok_guard h).1, have g_30144 := (ok_guard h).1; have h := (ok_guard h).2; ⟨(ok_guard h).1, have g_30145 := (ok_guard h).1; have h := (ok_guard h).2; ⟨(ok_guard h).1, have g_30146 := (ok_guard h).1; have h := (ok_guard h).2; (fun r_1012_17 e_r_1012_17 => have h := ok_let h r_1012_17 e_r_1012_17; ⟨rfl, ⟨(ok_guard h).1, have g_30147 := (ok_guard h).1; have h := (ok_guard h).2; (loopE_next (t := TPart) (fun m hm => (show LP54_0 row e m _ _ from ⟨hc0, hm⟩)) (v0.take (wrap64 ((v0.length : Int) - (2 : Int))).toNat ++ [r_1012_17]) rfl hl0 ht0 (sm_len h_e) trivial (have h := ok_ret h; h))⟩⟩)⟩⟩⟩⟩⟩⟩⟩⟩⟩⟩) (fun b_30138 h => (ok_cond h (fun b_30148 h => ⟨(Int.natCast_nonneg 0), ⟨(ok_guard h).1, have g_30149 := (ok_guard h).1; have h := (ok_guard h).2; ⟨(ok_guard h).1, have g_30150 := (ok_guard h).1; have h := (ok_guard h).2; ⟨rfl, ⟨(ok_guard h).1, have g_30151 := (ok_guard h).1; have h := (ok_guard h).2; ⟨(ok_guard h).1, have g_30152 := (ok_guard h).1; have h := (ok_guard h).2; ⟨(ok_guard h).1, have g_30153 := (ok_guard h).1; have h := (ok_guard h).2; ⟨(ok_guard h).1, have g_30154 := (ok_guard h).1; have h := (ok_guard h).2; ⟨(ok_guard h).1, have g_30155 := (ok_guard h).1; have h := (ok_guard h).2; ⟨(ok_guard h).1, have g_30156 := (ok_guard h).1; have h := (ok_guard h).2; (fun r_1014_17 e_r_1014_17 => have h := ok_let h r_1014_17 e_r_1014_17; ⟨rfl, ⟨(ok_guard h).1, have g_30157 := (ok_guard h).1; have h := (ok_guard h).2; (loopE_next (t := TPart) (fun m hm => (show LP54_0 row e m _ _ from ⟨hc0, hm⟩)) (v0.take (wrap64 ((v0.length : Int) - (2 : Int))).toNat ++ [r_1014_17]) rfl hl0 ht0 (sm_len h_e) trivial (have h := ok_ret h; h))⟩⟩)⟩⟩⟩⟩⟩⟩⟩⟩⟩⟩) (fun b_30148 h => (ok_cond h (fun b_30158 h => ⟨(Int.natCast_nonneg 0), ⟨(ok_guard h).1, have g_30159 := (ok_guard h).1; have h := (ok_guard h).2; ⟨(ok_guard h).1, have g_30160 := (ok_guard h).1; have h := (ok_guard h).2; ⟨rfl, ⟨(ok_guard h).1, have g_30161 := (ok_guard h).1; have h := (ok_guard h).2; ⟨(ok_guard h).1, have g_30162 := (ok_guard h).1; have h := (ok_guard h).2; ⟨(ok_guard h).1, have g_30163 := (ok_guard h).1; have h := (ok_guard h).2; (fun r_1016_11 e_r_1016_11 => have h := ok_let h r_1016_11 e_r_1016_11; ⟨rfl, ⟨(ok_guard h).1, have g_30164 := (ok_guard h).1; have h := (ok_guard h).2; (loopE_next (t := TPart) (fun m hm => (show LP54_0 row e m _ _ from ⟨hc0, hm⟩)) (v0.take (wrap64 ((v0.length : Int) - (1 : Int))).toNat ++ [r_1016_11]) rfl hl0 ht0 (sm_len h_e) trivial (have h := ok_ret h; h))⟩⟩)⟩⟩⟩⟩⟩⟩⟩) (fun b_30158 h => ⟨(Int.natCast_nonneg 0), ⟨(ok_guard h).1, have g_30165 := (ok_guard h).1; have h := (ok_guard h).2; ⟨(ok_guard h).1, have g_30166 := (ok_guard h).1; have h := (ok_guard h).2; ⟨rfl, ⟨(ok_guard h).1, have g_30167 := (ok_guard h).1; have h := (ok_guard h).2; ⟨(ok_guard h).1, have g_30168 := (ok_guard h).1; have h := (ok_guard h).2; (fun r_1017_12 e_r_1017_12 => have h := ok_let h r_1017_12 e_r_1017_12; ⟨rfl, ⟨(ok_guard h).1, have g_30169 := (ok_guard h).1; have h := (ok_guard h).2; (loopE_next (t := TPart) (fun m hm => (show LP54_0 row e m _ _ from ⟨hc0, hm⟩)) (v0.take (wrap64 ((v0.length : Int) - (1 : Int))).toNat ++ [r_1017_12]) rfl hl0 ht0 (sm_len h_e) trivial (have h := ok_ret h; h))⟩⟩)⟩⟩⟩⟩⟩⟩))))))))))))))⟩⟩) (fun h => (h trivial)))
  · rw [vc54 row e K]
    exact (loopE_start (t := TPart) (fun m hm => ⟨trivial, hm⟩) [] rfl trivial (ok_then h (fun v0 h hv0 => ⟨(Int.natCast_nonneg 0), ⟨(ok_guard h).1, have g_30170 := (ok_guard h).1; have h := (ok_guard h).2; (have h := ok_ret h; h)⟩⟩) (fun _ h => h.elim)))

/-! 56: loop.example/tablehouse/spec.l6Taken -/
def c56 : Con := ⟨[.dat (Ty.sl TValue), .dat (Ty.sl (Ty.int .i64))], fun args hp K => args2 (fun a0 a1 => withD (Ty.sl TValue) a0 fun row => withD (Ty.sl (Ty.int .i64)) a1 fun list => (Sm (Ty.sl TValue) row) ∧ (Sm (Ty.sl (Ty.int .i64)) list) ∧ (M.inRow row list) ∧ (∀ r : (List (TValue).D), r = (M.taken row list) → K (.own 0 none) [(0, .arr TValue r)])) args hp⟩
def cons56 : Cons := []
def inl56 : List (Nat × Inl) := []
@[reducible] def C56 : Ctx := ⟨tab, fun t => memN t cmps, cons56, 25, inl56, 0⟩
theorem consOk56 : ConsOk P C56 := by
  exact consOk_nil
def ann56 : Nat → List Dir
  | 0 => [.keep [0, 1]]
  | 1 => [.keep [0, 1, 5]]
  | 2 => [.keep [0, 1, 5, 6]]
  | 3 => [.keep [0, 1, 5, 6, 11]]
  | 4 => [.keep [0, 1, 5, 6]]
  | 5 => [.keep [0, 1, 5, 6]]
  | 6 => [.keep [4]]
  | 100000 => [.keep [5]]
  | _ => []
@[reducible] def LP56_0 (row : (List (TValue).D)) (list : (List Int)) (m : Nat) (st_ : St) (K : X → St → Prop) : Prop := (True) ∧ LoopE (t := (Ty.int .i64)) (fun (i0 : Int) (v0 : (List (TValue).D)) => (⟨[(0, .data (Ty.sl TValue) row), (1, .data (Ty.sl (Ty.int .i64)) list), (5, .own 7 none), (6, .data (Ty.int .i64) i0)], [(7, .arr TValue v0)]⟩ : St)) list (F.spec_l6Taken_l0 row list) (fun v0 : (List (TValue).D) => True) (outD (fun v0 : (List (TValue).D) => True → K (.exit 0) (⟨[(5, .own 7 none)], [(7, .arr TValue v0)]⟩ : St)) (fun _ => False)) m st_
def L56 (row : (List (TValue).D)) (list : (List Int)) : Loops := fun id m st_ K => match id with
  | 0 => LP56_0 row list m st_ K
  | _ => False
theorem vc56 (row : (List (TValue).D)) (list : (List Int)) (K : AV → Hp → Prop) : awp C56 (L56 row list) ann56 (bodyOf Go.Proofs.Tryz.f56) ⟨argEnv 0 [.data (Ty.sl TValue) row, .data (Ty.sl (Ty.int .i64)) list], []⟩ (outK tab Go.Proofs.Tryz.f56.results.toList (hasBox []) (resK .raw K)) =
  ((∃ m_, (True) ∧ LoopE (t := (Ty.int .i64)) (fun (i0 : Int) (v0 : (List (TValue).D)) => (⟨[(0, .data (Ty.sl TValue) row), (1, .data (Ty.sl (Ty.int .i64)) list), (5, .own 7 none), (6, .data (Ty.int .i64) i0)], [(7, .arr TValue v0)]⟩ : St)) list (F.spec_l6Taken_l0 row list) (fun v0 : (List (TValue).D) => True) (outD (fun v0 : (List (TValue).D) => True → K (.own 0 none) [(0, .arr TValue v0)]) (fun _ => False)) m_ (⟨[(0, .data (Ty.sl TValue) row), (1, .data (Ty.sl (Ty.int .i64)) list), (5, .own 7 none), (6, .data (Ty.int .i64) (0 : Int))], [(7, .arr TValue [])]⟩ : St))) := by kernel_rfl
theorem lvc56_0 (row : (List (TValue).D)) (list : (List Int))  (i0 : Int) (v0 : (List (TValue).D)) (m : Nat) (K : X → St → Prop) : awp C56 (L56 row list) ann56 (loopAt (bodyOf Go.Proofs.Tryz.f56) 0) (⟨[(0, .data (Ty.sl TValue) row), (1, .data (Ty.sl (Ty.int .i64)) list), (5, .own 7 none), (6, .data (Ty.int .i64) i0)], [(7, .arr TValue v0)]⟩ : St) (thenW (fun s' => ∃ m', m' < m ∧ (L56 row list) 0 m' s' K) (exitN 0 (ann56 (behind 0)) K)) =
  (cond (decide (i0 < (list.length : Int))) ((0 ≤ i0) ∧ (i0 < (list.length : Int)) ∧ (0 ≤ (nth (t := (Ty.int .i64)) list i0)) ∧ ((nth (t := (Ty.int .i64)) list i0) < (row.length : Int)) ∧ ((v0.length + [(nth (t := TValue) row (nth (t := (Ty.int .i64)) list i0))].length) * 32 ≤ lim) ∧ (∃ m_, m_ < m ∧ (L56 row list) 0 m_ (⟨[(0, .data (Ty.sl TValue) row), (1, .data (Ty.sl (Ty.int .i64)) list), (5, .own 7 none), (6, .data (Ty.int .i64) (wrap64 (i0 + (1 : Int))))], [(7, .arr TValue (v0 ++ [(nth (t := TValue) row (nth (t := (Ty.int .i64)) list i0))]))]⟩ : St) K)) (K (.exit 0) (⟨[(5, .own 7 none)], [(7, .arr TValue v0)]⟩ : St))) := by kernel_rfl
theorem con56_ok : ConOk P 56 c56 := by
  refine con_okR (fn := Go.Proofs.Tryz.f56) (code := bodyOf Go.Proofs.Tryz.f56) (tab_ok tab_check cmp_check) consOk56 mixed Go.Proofs.Tryz.func56 rfl rfl fun args hp K h0 => ?_
  obtain ⟨a0, a1, rfl, rfl, h1⟩ := args2_elim h0
  obtain ⟨row, rfl, h2⟩ := withD_elim h1
  obtain ⟨list, rfl, h3⟩ := withD_elim h2
  obtain ⟨h_row, h_list, p0, hK⟩ := h3
  have h : ok (F.spec_l6Taken row list) (fun r => K (.own 0 none) [(0, .arr TValue r)]) := ok_of_eq (F.spec_l6Taken_eq row list h_row h_list p0) (hK _ rfl)
  refine ⟨⟨show (2 : Nat) ≤ 25 by decide, show (2 : Nat) ≤ 1000000 by decide⟩, ann56, (L56 row list), .raw, (loopsN1 (i0 := 0) (by kernel_rfl) ?_), ?_⟩
  · clear h
    intro m_ s_ K_ h
    obtain ⟨hc0, i0, v0, rfl, hl0, rfl, hv0, h⟩ := (show LP56_0 row list m_ s_ K_ from h)
    rw [lvc56_0 row list i0 v0 _ K_]
    exact (loopE_step (t := (Ty.int .i64)) hl0 h (fun ht0 h => ⟨hl0, ⟨ht0, ⟨(ok_guard h).1, have g_17 := (ok_guard h).1; have h := (ok_guard h).2; ⟨(ok_guard h).1, have g_18 := (ok_guard h).1; have h := (ok_guard h).2; ⟨(ok_guard h).1, have g_19 := (ok_guard h).1; have h := (ok_guard h).2; (loopE_next (t := (Ty.int .i64)) (fun m hm => (show LP56_0 row list m _ _ from ⟨hc0, hm⟩)) (v0 ++ [(nth (t := TValue) row (nth (t := (Ty.int .i64)) list i0))]) rfl hl0 ht0 (sm_len h_list) trivial (have h := ok_ret h; h))⟩⟩⟩⟩⟩) (fun h => (h trivial)))
  · rw [vc56 row list K]
    exact (loopE_start (t := (Ty.int .i64)) (fun m hm => ⟨trivial, hm⟩) [] rfl trivial (ok_then h (fun v0 h hv0 => (have h := ok_ret h; h)) (fun _ h => h.elim)))

/-! 57: loop.example/tablehouse/spec.l12None -/
def c57 : Con := ⟨[.dat (Ty.sl TValue)], fun args hp K => args1 (fun a0 => withD (Ty.sl TValue) a0 fun values => (Sm (Ty.sl TValue) values) ∧ K (.data Ty.bool (M.hasNone values)) []) args hp⟩
def cons57 : Cons := []
def inl57 : List (Nat × Inl) := []
@[reducible] def C57 : Ctx := ⟨tab, fun t => memN t cmps, cons57, 16, inl57, 0⟩
theorem consOk57 : ConsOk P C57 := by
  exact consOk_nil
def ann57 : Nat → List Dir
  | 0 => [.keep [0]]
  | 1 => [.keep [0, 3]]
  | 2 => [.keep [0, 3, 7]]
  | 3 => [.keep [0, 3]]
  | 4 => [.keep [0, 3, 15]]
  | 5 => [.keep [2]]
  | 6 => [.keep [2]]
  | 100000 => [.keep []]
  | _ => []
@[reducible] def LP57_0 (values : (List (TValue).D)) (m : Nat) (st_ : St) (K : X → St → Prop) : Prop := (True) ∧ LoopE (t := TValue) (fun (i0 : Int) (v0 : Unit) => (⟨[(0, .data (Ty.sl TValue) values), (3, .data (Ty.int .i64) i0)], []⟩ : St)) values (F.spec_l12None_l0 values) (fun v0 : Unit => True) (outD (fun v0 : Unit => True → K (.exit 0) (⟨[], []⟩ : St)) (fun q0 : Unit => K .ret (⟨[(2, .data Ty.bool true)], []⟩ : St))) m st_
def L57 (values : (List (TValue).D)) : Loops := fun id m st_ K => match id with
  | 0 => LP57_0 values m st_ K
  | _ => False
theorem vc57 (values : (List (TValue).D)) (K : AV → Hp → Prop) : awp C57 (L57 values) ann57 (bodyOf Go.Proofs.Tryz.f57) ⟨argEnv 0 [.data (Ty.sl TValue) values], []⟩ (outK tab Go.Proofs.Tryz.f57.results.toList (hasBox []) (resK (.dat Ty.bool) K)) =
  ((∃ m_, (True) ∧ LoopE (t := TValue) (fun (i0 : Int) (v0 : Unit) => (⟨[(0, .data (Ty.sl TValue) values), (3, .data (Ty.int .i64) i0)], []⟩ : St)) values (F.spec_l12None_l0 values) (fun v0 : Unit => True) (outD (fun v0 : Unit => True → K (.data Ty.bool false) []) (fun q0 : Unit => K (.data Ty.bool true) [])) m_ (⟨[(0, .data (Ty.sl TValue) values), (3, .data (Ty.int .i64) (0 : Int))], []⟩ : St))) := by kernel_rfl
theorem lvc57_0 (values : (List (TValue).D))  (i0 : Int) (v0 : Unit) (m : Nat) (K : X → St → Prop) : awp C57 (L57 values) ann57 (loopAt (bodyOf Go.Proofs.Tryz.f57) 0) (⟨[(0, .data (Ty.sl TValue) values), (3, .data (Ty.int .i64) i0)], []⟩ : St) (thenW (fun s' => ∃ m', m' < m ∧ (L57 values) 0 m' s' K) (exitN 0 (ann57 (behind 0)) K)) =
  (cond (decide (i0 < (values.length : Int))) ((0 ≤ i0) ∧ (i0 < (values.length : Int)) ∧ cond (decide ((nth (t := TValue) values i0).1 = (0 : Int))) (K .ret (⟨[(2, .data Ty.bool true)], []⟩ : St)) ((∃ m_, m_ < m ∧ (L57 values) 0 m_ (⟨[(0, .data (Ty.sl TValue) values), (3, .data (Ty.int .i64) (wrap64 (i0 + (1 : Int))))], []⟩ : St) K))) (K (.exit 0) (⟨[], []⟩ : St))) := by kernel_rfl
theorem con57_ok : ConOk P 57 c57 := by
  refine con_okR (fn := Go.Proofs.Tryz.f57) (code := bodyOf Go.Proofs.Tryz.f57) (tab_ok tab_check cmp_check) consOk57 mixed Go.Proofs.Tryz.func57 rfl rfl fun args hp K h0 => ?_
  obtain ⟨a0, rfl, rfl, h1⟩ := args1_elim h0
  obtain ⟨values, rfl, h2⟩ := withD_elim h1
  obtain ⟨h_values, hK⟩ := h2
  have h : ok (F.spec_l12None values) (fun r => K (.data Ty.bool r) []) := ok_of_eq (F.spec_l12None_eq values h_values) hK
  refine ⟨⟨show (1 : Nat) ≤ 16 by decide, show (1 : Nat) ≤ 1000000 by decide⟩, ann57, (L57 values), (.dat Ty.bool), (loopsN1 (i0 := 0) (by kernel_rfl) ?_), ?_⟩
  · clear h
    intro m_ s_ K_ h
    obtain ⟨hc0, i0, v0, rfl, hl0, rfl, hv0, h⟩ := (show LP57_0 values m_ s_ K_ from h)
    rw [lvc57_0 values i0 v0 _ K_]
    exact (loopE_step (t := TValue) hl0 h (fun ht0 h => ⟨hl0, ⟨ht0, (ok_cond h (fun b_9 h => (have h := ok_ret h; h)) (fun b_9 h => (loopE_next (t := TValue) (fun m hm => (show LP57_0 values m _ _ from ⟨hc0, hm⟩)) () rfl hl0 ht0 (sm_len h_values) trivial (have h := ok_ret h; h))))⟩⟩) (fun h => (h trivial)))
  · rw [vc57 values K]
    exact (loopE_start (t := TValue) (fun m hm => ⟨trivial, hm⟩) () rfl trivial (ok_then h (fun v0 h hv0 => (have h := ok_ret h; h)) (fun q0 h => (have h := ok_ret h; h))))

/-! 58: loop.example/tablehouse/spec.l3Same -/
def c58 : Con := ⟨[.dat (Ty.sl TValue), .dat (Ty.sl TValue)], fun args hp K => args2 (fun a0 a1 => withD (Ty.sl TValue) a0 fun a => withD (Ty.sl TValue) a1 fun b => (Sm (Ty.sl TValue) a) ∧ (Sm (Ty.sl TValue) b) ∧ K (.data Ty.bool (decide (a = b))) []) args hp⟩
def cons58 : Cons := []
def inl58 : List (Nat × Inl) := []
@[reducible] def C58 : Ctx := ⟨tab, fun t => memN t cmps, cons58, 26, inl58, 0⟩
theorem consOk58 : ConsOk P C58 := by
  exact consOk_nil
def ann58 : Nat → List Dir
  | 0 => [.keep [0, 1]]
  | 1 => [.keep [0, 1, 10]]
  | 2 => [.keep [4]]
  | 3 => [.keep [0, 1, 5]]
  | 4 => [.keep [0, 1, 5, 14]]
  | 5 => [.keep [0, 1, 5]]
  | 6 => [.keep [0, 1, 5, 25]]
  | 7 => [.keep [4]]
  | 8 => [.keep [4]]
  | 100000 => [.keep []]
  | _ => []
@[reducible] def LP58_0 (a : (List (TValue).D)) (b : (List (TValue).D)) (m : Nat) (st_ : St) (K : X → St → Prop) : Prop := (True) ∧ LoopI (fun (i0 : Int) (v0 : Unit) => (⟨[(0, .data (Ty.sl TValue) a), (1, .data (Ty.sl TValue) b), (5, .data (Ty.int .i64) i0)], []⟩ : St)) (0 : Int) (a.length : Int) (F.spec_l3Same_l0 a b) (fun v0 : Unit => True) (outD (fun v0 : Unit => True → K (.exit 0) (⟨[], []⟩ : St)) (fun q0 : Unit => K .ret (⟨[(4, .data Ty.bool false)], []⟩ : St))) m st_
def L58 (a : (List (TValue).D)) (b : (List (TValue).D)) : Loops := fun id m st_ K => match id with
  | 0 => LP58_0 a b m st_ K
  | _ => False
theorem vc58 (a : (List (TValue).D)) (b : (List (TValue).D)) (K : AV → Hp → Prop) : awp C58 (L58 a b) ann58 (bodyOf Go.Proofs.Tryz.f58) ⟨argEnv 0 [.data (Ty.sl TValue) a, .data (Ty.sl TValue) b], []⟩ (outK tab Go.Proofs.Tryz.f58.results.toList (hasBox []) (resK (.dat Ty.bool) K)) =
  (cond (!decide ((a.length : Int) = (b.length : Int))) (K (.data Ty.bool false) []) ((∃ m_, (True) ∧ LoopI (fun (i0 : Int) (v0 : Unit) => (⟨[(0, .data (Ty.sl TValue) a), (1, .data (Ty.sl TValue) b), (5, .data (Ty.int .i64) i0)], []⟩ : St)) (0 : Int) (a.length : Int) (F.spec_l3Same_l0 a b) (fun v0 : Unit => True) (outD (fun v0 : Unit => True → K (.data Ty.bool true) []) (fun q0 : Unit => K (.data Ty.bool false) [])) m_ (⟨[(0, .data (Ty.sl TValue) a), (1, .data (Ty.sl TValue) b), (5, .data (Ty.int .i64) (0 : Int))], []⟩ : St)))) := by kernel_rfl
theorem lvc58_0 (a : (List (TValue).D)) (b : (List (TValue).D))  (i0 : Int) (v0 : Unit) (m : Nat) (K : X → St → Prop) : awp C58 (L58 a b) ann58 (loopAt (bodyOf Go.Proofs.Tryz.f58) 0) (⟨[(0, .data (Ty.sl TValue) a), (1, .data (Ty.sl TValue) b), (5, .data (Ty.int .i64) i0)], []⟩ : St) (thenW (fun s' => ∃ m', m' < m ∧ (L58 a b) 0 m' s' K) (exitN 0 (ann58 (behind 0)) K)) =
  (cond (decide (i0 < (a.length : Int))) ((0 ≤ i0) ∧ (i0 < (a.length : Int)) ∧ (0 ≤ i0) ∧ (i0 < (b.length : Int)) ∧ cond (!(Ty.beq TValue (nth (t := TValue) a i0) (nth (t := TValue) b i0))) (K .ret (⟨[(4, .data Ty.bool false)], []⟩ : St)) ((∃ m_, m_ < m ∧ (L58 a b) 0 m_ (⟨[(0, .data (Ty.sl TValue) a), (1, .data (Ty.sl TValue) b), (5, .data (Ty.int .i64) (wrap64 (i0 + (1 : Int))))], []⟩ : St) K))) (K (.exit 0) (⟨[], []⟩ : St))) := by kernel_rfl
theorem con58_ok : ConOk P 58 c58 := by
  refine con_okR (fn := Go.Proofs.Tryz.f58) (code := bodyOf Go.Proofs.Tryz.f58) (tab_ok tab_check cmp_check) consOk58 mixed Go.Proofs.Tryz.func58 rfl rfl fun args hp K h0 => ?_
  obtain ⟨a0, a1, rfl, rfl, h1⟩ := args2_elim h0
  obtain ⟨a, rfl, h2⟩ := withD_elim h1
  obtain ⟨b, rfl, h3⟩ := withD_elim h2
  obtain ⟨h_a, h_b, hK⟩ := h3
  have h : ok (F.spec_l3Same a b) (fun r => K (.data Ty.bool r) []) := ok_of_eq (F.spec_l3Same_eq a b h_a h_b) hK
  refine ⟨⟨show (2 : Nat) ≤ 26 by decide, show (2 : Nat) ≤ 1000000 by decide⟩, ann58, (L58 a b), (.dat Ty.bool), (loopsN1 (i0 := 0) (by kernel_rfl) ?_), ?_⟩
  · clear h
    intro m_ s_ K_ h
    obtain ⟨hc0, i0, v0, rfl, hl0, rfl, hv0, h⟩ := (show LP58_0 a b m_ s_ K_ from h)
    rw [lvc58_0 a b i0 v0 _ K_]
    exact (loopI_step h (fun ht0 h => ⟨hl0, ⟨ht0, ⟨hl0, ⟨(ok_guard h).1, have g_12 := (ok_guard h).1; have h := (ok_guard h).2; (ok_cond h (fun b_13 h => (have h := ok_ret h; h)) (fun b_13 h => (loopI_next (fun m hm => (show LP58_0 a b m _ _ from ⟨hc0, hm⟩)) () rfl hl0 low0 ht0 (sm_len h_a) trivial (have h := ok_ret h; h))))⟩⟩⟩⟩) (fun h => (h trivial)))
  · rw [vc58 a b K]
    exact (ok_cond h (fun b_1 h => (have h := ok_ret h; h)) (fun b_1 h => (loopI_start (fun m hm => ⟨trivial, hm⟩) (0 : Int) () rfl (Int.natCast_nonneg 0) trivial (ok_then h (fun v0 h hv0 => (have h := ok_ret h; h)) (fun q0 h => (have h := ok_ret h; h))))))

/-! 25: loop.example/tablehouse/spec.l12Broken -/
def c25 : Con := ⟨[.dat (Ty.sl TTable), .dat TBond], fun args hp K => args2 (fun a0 a1 => withD (Ty.sl TTable) a0 fun tables => withD TBond a1 fun b => (Sm (Ty.sl TTable) tables) ∧ (Sm TBond b) ∧ ((M.tablesOk tables && M.bondOk tables b) = true) ∧ K (.data (Ty.int .i64) (M.broken tables b)) []) args hp⟩
def cons25 : Cons := [(54, c54), (55, c55), (56, c56), (57, c57), (58, c58)]
def inl25 : List (Nat × Inl) := []
@[reducible] def C25 : Ctx := ⟨tab, fun t => memN t cmps, cons25, 110, inl25, 0⟩
theorem consOk25 : ConsOk P C25 := by
  refine consOk_cons (enter_ok (fn := Go.Proofs.Tryz.f54) Go.Proofs.Tryz.func54 (by kernel_rfl) rfl) con54_ok ?_
  refine consOk_cons (enter_ok (fn := Go.Proofs.Tryz.f55) Go.Proofs.Tryz.func55 (by kernel_rfl) rfl) con55_ok ?_
  refine consOk_cons (enter_ok (fn := Go.Proofs.Tryz.f56) Go.Proofs.Tryz.func56 (by kernel_rfl) rfl) con56_ok ?_
  refine consOk_cons (enter_ok (fn := Go.Proofs.Tryz.f57) Go.Proofs.Tryz.func57 (by kernel_rfl) rfl) con57_ok ?_
  refine consOk_cons (enter_ok (fn := Go.Proofs.Tryz.f58) Go.Proofs.Tryz.func58 (by kernel_rfl) rfl) con58_ok ?_
  exact consOk_nil
def ann25 : Nat → List Dir
  | 0 => [.fixRow 3 TBond, .keep [0, 3]]
  | 1 => [.keep [0, 3, 5]]
  | 2 => [.keep [0, 3, 5, 6]]
  | 3 => [.keep [0, 3, 5, 6, 21]]
  | 4 => [.keep [0, 3, 5, 6]]
  | 5 => [.keep [0, 3, 5, 6, 25]]
  | 6 => [.keep [0, 3, 5, 6, 25, 26]]
  | 7 => [.keep [0, 3, 5, 6, 36]]
  | 8 => [.keep [4]]
  | 9 => [.keep [0, 3, 5, 6, 25, 38]]
  | 10 => [.keep [0, 3, 5, 6, 7]]
  | 11 => [.freeze 46, .keep [0, 3, 5, 6, 7, 8]]
  | 12 => [.keep [0, 3, 5, 6, 7, 8, 54]]
  | 13 => [.keep [0, 3, 5, 6, 7, 8]]
  | 14 => [.keep [0, 3, 5, 6, 7, 8, 65]]
  | 15 => [.keep [4]]
  | 16 => [.keep [0, 3, 5, 6, 67]]
  | 17 => [.keep [0, 3, 5, 6, 9]]
  | 18 => [.keep [0, 3, 5, 6, 9, 10]]
  | 19 => [.keep [0, 3, 5, 6, 9, 10, 11]]
  | 20 => [.keep [0, 3, 5, 6, 9, 10, 11, 90]]
  | 21 => [.keep [0, 3, 5, 6, 9, 10, 11]]
  | 22 => [.keep [0, 3, 5, 6, 9, 10, 11]]
  | 23 => [.keep [0, 3, 5, 6, 108]]
  | 24 => [.keep [4]]
  | 25 => [.keep [4]]
  | 100000 => [.keep []]
  | 100003 => [.keep [0, 3, 5, 6]]
  | 100005 => [.keep [0, 3, 5, 6, 10]]
  | _ => []
@[reducible] def LP25_0 (tables : (List (TTable).D)) (b : (TBond).D) (m : Nat) (st_ : St) (K : X → St → Prop) : Prop := (True) ∧ LoopI (fun (i0 : Int) (v0 : Unit) => (⟨[(0, .data (Ty.sl TTable) tables), (3, .adr TBond b), (5, .data (Ty.sl (Ty.sl TValue)) (((nth (t := TTable) tables b.2.1).2).1)), (6, .data (Ty.int .i64) i0)], []⟩ : St)) (0 : Int) ((((nth (t := TTable) tables b.2.1).2).1).length : Int) (F.spec_l12Broken_l0 tables b) (fun v0 : Unit => True) (outD (fun v0 : Unit => True → K (.exit 0) (⟨[], []⟩ : St)) (fun q0 : Int => K .ret (⟨[(4, .data (Ty.int .i64) q0)], []⟩ : St))) m st_
@[reducible] def LP25_3 (tables : (List (TTable).D)) (b : (TBond).D) (m : Nat) (st_ : St) (K : X → St → Prop) : Prop := ∃ c3_0 : Int, ∃ c3_1 : (List (TValue).D), (Sm (Ty.sl TValue) c3_1 ∧ True) ∧ LoopW (fun v3 : Int => (⟨[(0, .data (Ty.sl TTable) tables), (3, .adr TBond b), (5, .data (Ty.sl (Ty.sl TValue)) (((nth (t := TTable) tables b.2.1).2).1)), (6, .data (Ty.int .i64) c3_0), (7, .data (Ty.sl TValue) c3_1), (8, .data (Ty.int .i64) v3)], []⟩ : St)) (F.spec_l12Broken_l3 tables b c3_0 c3_1) (fun v3 : Int => True) (outD (fun e3 : Unit => True → K (.exit 3) (⟨[(0, .data (Ty.sl TTable) tables), (3, .adr TBond b), (5, .data (Ty.sl (Ty.sl TValue)) (((nth (t := TTable) tables b.2.1).2).1)), (6, .data (Ty.int .i64) c3_0)], []⟩ : St)) (fun q3 : Unit => K .ret (⟨[(4, .data (Ty.int .i64) c3_0)], []⟩ : St))) m st_
@[reducible] def LP25_5 (tables : (List (TTable).D)) (b : (TBond).D) (m : Nat) (st_ : St) (K : X → St → Prop) : Prop := ∃ c5_0 : Int, ∃ c5_1 : (List (TValue).D), (Sm (Ty.sl TValue) c5_1 ∧ True) ∧ LoopW (fun v5 : Bool × Int => (⟨[(0, .data (Ty.sl TTable) tables), (3, .adr TBond b), (5, .data (Ty.sl (Ty.sl TValue)) (((nth (t := TTable) tables b.2.1).2).1)), (6, .data (Ty.int .i64) c5_0), (9, .data (Ty.sl TValue) c5_1), (10, .data Ty.bool v5.1), (11, .data (Ty.int .i64) v5.2)], []⟩ : St)) (F.spec_l12Broken_l5 tables b c5_0 c5_1) (fun v5 : Bool × Int => True) ((fun e5 : Bool => True → K (.exit 5) (⟨[(0, .data (Ty.sl TTable) tables), (3, .adr TBond b), (5, .data (Ty.sl (Ty.sl TValue)) (((nth (t := TTable) tables b.2.1).2).1)), (6, .data (Ty.int .i64) c5_0), (10, .data Ty.bool e5)], []⟩ : St))) m st_
def L25 (tables : (List (TTable).D)) (b : (TBond).D) : Loops := fun id m st_ K => match id with
  | 0 => LP25_0 tables b m st_ K
  | 3 => LP25_3 tables b m st_ K
  | 5 => LP25_5 tables b m st_ K
  | _ => False
theorem vc25 (tables : (List (TTable).D)) (b : (TBond).D) (K : AV → Hp → Prop) : awp C25 (L25 tables b) ann25 (bodyOf Go.Proofs.Tryz.f25) ⟨argEnv 0 [.data (Ty.sl TTable) tables, .data TBond b], []⟩ (outK tab Go.Proofs.Tryz.f25.results.toList (hasBox []) (resK (.dat (Ty.int .i64)) K)) =
  ((0 ≤ b.2.1) ∧ (b.2.1 < (tables.length : Int)) ∧ (∃ m_, (True) ∧ LoopI (fun (i0 : Int) (v0 : Unit) => (⟨[(0, .data (Ty.sl TTable) tables), (3, .adr TBond b), (5, .data (Ty.sl (Ty.sl TValue)) (((nth (t := TTable) tables b.2.1).2).1)), (6, .data (Ty.int .i64) i0)], []⟩ : St)) (0 : Int) ((((nth (t := TTable) tables b.2.1).2).1).length : Int) (F.spec_l12Broken_l0 tables b) (fun v0 : Unit => True) (outD (fun v0 : Unit => True → K (.data (Ty.int .i64) (-1 : Int)) []) (fun q0 : Int => K (.data (Ty.int .i64) q0) [])) m_ (⟨[(0, .data (Ty.sl TTable) tables), (3, .adr TBond b), (5, .data (Ty.sl (Ty.sl TValue)) (((nth (t := TTable) tables b.2.1).2).1)), (6, .data (Ty.int .i64) (0 : Int))], []⟩ : St))) := by kernel_rfl
theorem lvc25_0 (tables : (List (TTable).D)) (b : (TBond).D)  (i0 : Int) (v0 : Unit) (m : Nat) (K : X → St → Prop) : awp C25 (L25 tables b) ann25 (loopAt (bodyOf Go.Proofs.Tryz.f25) 0) (⟨[(0, .data (Ty.sl TTable) tables), (3, .adr TBond b), (5, .data (Ty.sl (Ty.sl TValue)) (((nth (t := TTable) tables b.2.1).2).1)), (6, .data (Ty.int .i64) i0)], []⟩ : St) (thenW (fun s' => ∃ m', m' < m ∧ (L25 tables b) 0 m' s' K) (exitN 0 (ann25 (behind 0)) K)) =
  (cond (decide (i0 < ((((nth (t := TTable) tables b.2.1).2).1).length : Int))) (cond (decide (b.1 = (3 : Int))) ((0 ≤ i0) ∧ (i0 < ((((nth (t := TTable) tables b.2.1).2).1).length : Int)) ∧ (Sm (Ty.sl TValue) (nth (t := (Ty.sl TValue)) (((nth (t := TTable) tables b.2.1).2).1) i0)) ∧ (Sm (Ty.sl TPart) b.2.2.2.2.2.2.1) ∧ (M.exprSafe (nth (t := (Ty.sl TValue)) (((nth (t := TTable) tables b.2.1).2).1) i0).length b.2.2.2.2.2.2.1) ∧ (∀ r_7_6 : (TValue).D, r_7_6 = (M.exprValue (nth (t := (Ty.sl TValue)) (((nth (t := TTable) tables b.2.1).2).1) i0) b.2.2.2.2.2.2.1) → (∀ r_7_7 : (TValue).D, r_7_7 = (M.valueOf (0 : Int)) → cond (Ty.beq TValue r_7_6 r_7_7) (K .ret (⟨[(4, .data (Ty.int .i64) i0)], []⟩ : St)) ((∃ m_, m_ < m ∧ (L25 tables b) 0 m_ (⟨[(0, .data (Ty.sl TTable) tables), (3, .adr TBond b), (5, .data (Ty.sl (Ty.sl TValue)) (((nth (t := TTable) tables b.2.1).2).1)), (6, .data (Ty.int .i64) (wrap64 (i0 + (1 : Int))))], []⟩ : St) K))))) (cond (decide (b.1 = (1 : Int))) ((0 ≤ i0) ∧ (i0 < ((((nth (t := TTable) tables b.2.1).2).1).length : Int)) ∧ (Sm (Ty.sl TValue) (nth (t := (Ty.sl TValue)) (((nth (t := TTable) tables b.2.1).2).1) i0)) ∧ (Sm (Ty.sl (Ty.int .i64)) b.2.2.1) ∧ (M.inRow (nth (t := (Ty.sl TValue)) (((nth (t := TTable) tables b.2.1).2).1) i0) b.2.2.1) ∧ (∀ r_10_6 : (List (TValue).D), r_10_6 = (M.taken (nth (t := (Ty.sl TValue)) (((nth (t := TTable) tables b.2.1).2).1) i0) b.2.2.1) → (∃ m_, ∃ c3_0 : Int, ∃ c3_1 : (List (TValue).D), (Sm (Ty.sl TValue) c3_1 ∧ True) ∧ LoopW (fun v3 : Int => (⟨[(0, .data (Ty.sl TTable) tables), (3, .adr TBond b), (5, .data (Ty.sl (Ty.sl TValue)) (((nth (t := TTable) tables b.2.1).2).1)), (6, .data (Ty.int .i64) c3_0), (7, .data (Ty.sl TValue) c3_1), (8, .data (Ty.int .i64) v3)], []⟩ : St)) (F.spec_l12Broken_l3 tables b c3_0 c3_1) (fun v3 : Int => True) (outD (fun e3 : Unit => True → (∃ m_, m_ < m ∧ (L25 tables b) 0 m_ (⟨[(0, .data (Ty.sl TTable) tables), (3, .adr TBond b), (5, .data (Ty.sl (Ty.sl TValue)) (((nth (t := TTable) tables b.2.1).2).1)), (6, .data (Ty.int .i64) (wrap64 (c3_0 + (1 : Int))))], []⟩ : St) K)) (fun q3 : Unit => K .ret (⟨[(4, .data (Ty.int .i64) c3_0)], []⟩ : St))) m_ (⟨[(0, .data (Ty.sl TTable) tables), (3, .adr TBond b), (5, .data (Ty.sl (Ty.sl TValue)) (((nth (t := TTable) tables b.2.1).2).1)), (6, .data (Ty.int .i64) i0), (7, .data (Ty.sl TValue) r_10_6), (8, .data (Ty.int .i64) (0 : Int))], []⟩ : St)))) (cond (decide (b.1 = (2 : Int))) ((0 ≤ i0) ∧ (i0 < ((((nth (t := TTable) tables b.2.1).2).1).length : Int)) ∧ (Sm (Ty.sl TValue) (nth (t := (Ty.sl TValue)) (((nth (t := TTable) tables b.2.1).2).1) i0)) ∧ (Sm (Ty.sl (Ty.int .i64)) b.2.2.1) ∧ (M.inRow (nth (t := (Ty.sl TValue)) (((nth (t := TTable) tables b.2.1).2).1) i0) b.2.2.1) ∧ (∀ r_17_6 : (List (TValue).D), r_17_6 = (M.taken (nth (t := (Ty.sl TValue)) (((nth (t := TTable) tables b.2.1).2).1) i0) b.2.2.1) → (Sm (Ty.sl TValue) r_17_6) ∧ (∃ m_, ∃ c5_0 : Int, ∃ c5_1 : (List (TValue).D), (Sm (Ty.sl TValue) c5_1 ∧ True) ∧ LoopW (fun v5 : Bool × Int => (⟨[(0, .data (Ty.sl TTable) tables), (3, .adr TBond b), (5, .data (Ty.sl (Ty.sl TValue)) (((nth (t := TTable) tables b.2.1).2).1)), (6, .data (Ty.int .i64) c5_0), (9, .data (Ty.sl TValue) c5_1), (10, .data Ty.bool v5.1), (11, .data (Ty.int .i64) v5.2)], []⟩ : St)) (F.spec_l12Broken_l5 tables b c5_0 c5_1) (fun v5 : Bool × Int => True) ((fun e5 : Bool => True → cond (!e5) (K .ret (⟨[(4, .data (Ty.int .i64) c5_0)], []⟩ : St)) ((∃ m_, m_ < m ∧ (L25 tables b) 0 m_ (⟨[(0, .data (Ty.sl TTable) tables), (3, .adr TBond b), (5, .data (Ty.sl (Ty.sl TValue)) (((nth (t := TTable) tables b.2.1).2).1)), (6, .data (Ty.int .i64) (wrap64 (c5_0 + (1 : Int))))], []⟩ : St) K)))) m_ (⟨[(0, .data (Ty.sl TTable) tables), (3, .adr TBond b), (5, .data (Ty.sl (Ty.sl TValue)) (((nth (t := TTable) tables b.2.1).2).1)), (6, .data (Ty.int .i64) i0), (9, .data (Ty.sl TValue) r_17_6), (10, .data Ty.bool (M.hasNone r_17_6)), (11, .data (Ty.int .i64) (0 : Int))], []⟩ : St)))) ((∃ m_, m_ < m ∧ (L25 tables b) 0 m_ (⟨[(0, .data (Ty.sl TTable) tables), (3, .adr TBond b), (5, .data (Ty.sl (Ty.sl TValue)) (((nth (t := TTable) tables b.2.1).2).1)), (6, .data (Ty.int .i64) (wrap64 (i0 + (1 : Int))))], []⟩ : St) K))))) (K (.exit 0) (⟨[], []⟩ : St))) := by kernel_rfl
theorem lvc25_1 (tables : (List (TTable).D)) (b : (TBond).D) (c3_0 : Int) (c3_1 : (List (TValue).D)) (v3 : Int) (m : Nat) (K : X → St → Prop) : awp C25 (L25 tables b) ann25 (loopAt (bodyOf Go.Proofs.Tryz.f25) 1) (⟨[(0, .data (Ty.sl TTable) tables), (3, .adr TBond b), (5, .data (Ty.sl (Ty.sl TValue)) (((nth (t := TTable) tables b.2.1).2).1)), (6, .data (Ty.int .i64) c3_0), (7, .data (Ty.sl TValue) c3_1), (8, .data (Ty.int .i64) v3)], []⟩ : St) (thenW (fun s' => ∃ m', m' < m ∧ (L25 tables b) 3 m' s' K) (exitN 3 (ann25 (behind 3)) K)) =
  (cond ((decide (v3 < c3_0)) == true) ((Sm (Ty.sl TValue) c3_1) ∧ cond (!(M.hasNone c3_1)) ((0 ≤ v3) ∧ (v3 < ((((nth (t := TTable) tables b.2.1).2).1).length : Int)) ∧ (Sm (Ty.sl TValue) (nth (t := (Ty.sl TValue)) (((nth (t := TTable) tables b.2.1).2).1) v3)) ∧ (Sm (Ty.sl (Ty.int .i64)) b.2.2.1) ∧ (M.inRow (nth (t := (Ty.sl TValue)) (((nth (t := TTable) tables b.2.1).2).1) v3) b.2.2.1) ∧ (∀ r_14_6 : (List (TValue).D), r_14_6 = (M.taken (nth (t := (Ty.sl TValue)) (((nth (t := TTable) tables b.2.1).2).1) v3) b.2.2.1) → (Sm (Ty.sl TValue) r_14_6) ∧ (Sm (Ty.sl TValue) c3_1) ∧ cond (decide (r_14_6 = c3_1)) (K .ret (⟨[(4, .data (Ty.int .i64) c3_0)], []⟩ : St)) ((∃ m_, m_ < m ∧ (L25 tables b) 3 m_ (⟨[(0, .data (Ty.sl TTable) tables), (3, .adr TBond b), (5, .data (Ty.sl (Ty.sl TValue)) (((nth (t := TTable) tables b.2.1).2).1)), (6, .data (Ty.int .i64) c3_0), (7, .data (Ty.sl TValue) c3_1), (8, .data (Ty.int .i64) (wrap64 (v3 + (1 : Int))))], []⟩ : St) K)))) (K (.exit 3) (⟨[(0, .data (Ty.sl TTable) tables), (3, .adr TBond b), (5, .data (Ty.sl (Ty.sl TValue)) (((nth (t := TTable) tables b.2.1).2).1)), (6, .data (Ty.int .i64) c3_0)], []⟩ : St))) (K (.exit 3) (⟨[(0, .data (Ty.sl TTable) tables), (3, .adr TBond b), (5, .data (Ty.sl (Ty.sl TValue)) (((nth (t := TTable) tables b.2.1).2).1)), (6, .data (Ty.int .i64) c3_0)], []⟩ : St))) := by kernel_rfl
theorem lvc25_2 (tables : (List (TTable).D)) (b : (TBond).D) (c5_0 : Int) (c5_1 : (List (TValue).D)) (v5 : Bool × Int) (m : Nat) (K : X → St → Prop) : awp C25 (L25 tables b) ann25 (loopAt (bodyOf Go.Proofs.Tryz.f25) 2) (⟨[(0, .data (Ty.sl TTable) tables), (3, .adr TBond b), (5, .data (Ty.sl (Ty.sl TValue)) (((nth (t := TTable) tables b.2.1).2).1)), (6, .data (Ty.int .i64) c5_0), (9, .data (Ty.sl TValue) c5_1), (10, .data Ty.bool v5.1), (11, .data (Ty.int .i64) v5.2)], []⟩ : St) (thenW (fun s' => ∃ m', m' < m ∧ (L25 tables b) 5 m' s' K) (exitN 5 (ann25 (behind 5)) K)) =
  ((0 ≤ b.2.2.2.1) ∧ (b.2.2.2.1 < (tables.length : Int)) ∧ cond ((decide (v5.2 < ((((nth (t := TTable) tables b.2.2.2.1).2).1).length : Int))) == true) (cond (!v5.1) ((0 ≤ b.2.2.2.1) ∧ (b.2.2.2.1 < (tables.length : Int)) ∧ (0 ≤ v5.2) ∧ (v5.2 < ((((nth (t := TTable) tables b.2.2.2.1).2).1).length : Int)) ∧ (Sm (Ty.sl TValue) (nth (t := (Ty.sl TValue)) (((nth (t := TTable) tables b.2.2.2.1).2).1) v5.2)) ∧ (Sm (Ty.sl (Ty.int .i64)) b.2.2.2.2.1) ∧ (M.inRow (nth (t := (Ty.sl TValue)) (((nth (t := TTable) tables b.2.2.2.1).2).1) v5.2) b.2.2.2.2.1) ∧ (∀ r_22_11 : (List (TValue).D), r_22_11 = (M.taken (nth (t := (Ty.sl TValue)) (((nth (t := TTable) tables b.2.2.2.1).2).1) v5.2) b.2.2.2.2.1) → (Sm (Ty.sl TValue) r_22_11) ∧ (Sm (Ty.sl TValue) c5_1) ∧ (∃ m_, m_ < m ∧ (L25 tables b) 5 m_ (⟨[(0, .data (Ty.sl TTable) tables), (3, .adr TBond b), (5, .data (Ty.sl (Ty.sl TValue)) (((nth (t := TTable) tables b.2.1).2).1)), (6, .data (Ty.int .i64) c5_0), (9, .data (Ty.sl TValue) c5_1), (10, .data Ty.bool (decide (r_22_11 = c5_1))), (11, .data (Ty.int .i64) (wrap64 (v5.2 + (1 : Int))))], []⟩ : St) K))) (K (.exit 5) (⟨[(0, .data (Ty.sl TTable) tables), (3, .adr TBond b), (5, .data (Ty.sl (Ty.sl TValue)) (((nth (t := TTable) tables b.2.1).2).1)), (6, .data (Ty.int .i64) c5_0), (10, .data Ty.bool v5.1)], []⟩ : St))) (K (.exit 5) (⟨[(0, .data (Ty.sl TTable) tables), (3, .adr TBond b), (5, .data (Ty.sl (Ty.sl TValue)) (((nth (t := TTable) tables b.2.1).2).1)), (6, .data (Ty.int .i64) c5_0), (10, .data Ty.bool v5.1)], []⟩ : St))) := by kernel_rfl
theorem con25_ok : ConOk P 25 c25 := by
  refine con_okR (fn := Go.Proofs.Tryz.f25) (code := bodyOf Go.Proofs.Tryz.f25) (tab_ok tab_check cmp_check) consOk25 mixed Go.Proofs.Tryz.func25 rfl rfl fun args hp K h0 => ?_
  obtain ⟨a0, a1, rfl, rfl, h1⟩ := args2_elim h0
  obtain ⟨tables, rfl, h2⟩ := withD_elim h1
  obtain ⟨b, rfl, h3⟩ := withD_elim h2
  obtain ⟨h_tables, h_b, p0, hK⟩ := h3
  have h : ok (F.spec_l12Broken tables b) (fun r => K (.data (Ty.int .i64) r) []) := ok_of_eq (F.spec_l12Broken_eq tables b h_tables h_b p0) hK
  refine ⟨⟨show (2 : Nat) ≤ 110 by decide, show (2 : Nat) ≤ 1000000 by decide⟩, ann25, (L25 tables b), (.dat (Ty.int .i64)), (loopsN3 (i0 := 0) (i1 := 3) (i2 := 5) (by kernel_rfl) ?_ ?_ ?_), ?_⟩
  · clear h
    intro m_ s_ K_ h
    obtain ⟨hc0, i0, v0, rfl, hl0, rfl, hv0, h⟩ := (show LP25_0 tables b m_ s_ K_ from h)
    rw [lvc25_0 tables b i0 v0 _ K_]
    exact (loopI_step h (fun ht0 h => (ok_cond h (fun b_32 h => ⟨hl0, ⟨ht0, ⟨(sm_nth (sm_nth h_tables b.2.1).2.1 i0), ⟨h_b.2.2.2.2.2.2.1, ⟨(ok_guard h).1, have g_33 := (ok_guard h).1; have h := (ok_guard h).2; (fun r_7_6 e_r_7_6 => have h := ok_let h r_7_6 e_r_7_6; (fun r_7_7 e_r_7_7 => have h := ok_let h r_7_7 e_r_7_7; (ok_cond h (fun b_34 h => (have h := ok_ret h; h)) (fun b_34 h => (loopI_next (fun m hm => (show LP25_0 tables b m _ _ from ⟨hc0, hm⟩)) () rfl hl0 low0 ht0 (sm_len (sm_nth h_tables b.2.1).2.1) trivial (have h := ok_ret h; h))))))⟩⟩⟩⟩⟩) (fun b_32 h => (ok_cond h (fun b_35 h => ⟨hl0, ⟨ht0, ⟨(sm_nth (sm_nth h_tables b.2.1).2.1 i0), ⟨h_b.2.2.1, ⟨(ok_guard h).1, have g_36 := (ok_guard h).1; have h := (ok_guard h).2; (fun r_10_6 e_r_10_6 => have h := ok_let h r_10_6 e_r_10_6; (loopW_start (fun m hm => ⟨i0, r_10_6, ⟨(sm_of_eq e_r_10_6 (M.taken_sm (sm_nth (sm_nth h_tables b.2.1).2.1 i0) h_b.2.2.1)), trivial⟩, hm⟩) (0 : Int) rfl trivial (ok_then h (fun e3 h hv3 => (loopI_next (fun m hm => (show LP25_0 tables b m _ _ from ⟨hc0, hm⟩)) () rfl hl0 low0 ht0 (sm_len (sm_nth h_tables b.2.1).2.1) trivial (have h := ok_ret h; h))) (fun q3 h => (have h := ok_ret h; h)))))⟩⟩⟩⟩⟩) (fun b_35 h => (ok_cond h (fun b_37 h => ⟨hl0, ⟨ht0, ⟨(sm_nth (sm_nth h_tables b.2.1).2.1 i0), ⟨h_b.2.2.1, ⟨(ok_guard h).1, have g_38 := (ok_guard h).1; have h := (ok_guard h).2; (fun r_17_6 e_r_17_6 => have h := ok_let h r_17_6 e_r_17_6; ⟨(sm_of_eq e_r_17_6 (M.taken_sm (sm_nth (sm_nth h_tables b.2.1).2.1 i0) h_b.2.2.1)), (loopW_start (fun m hm => ⟨i0, r_17_6, ⟨(sm_of_eq e_r_17_6 (M.taken_sm (sm_nth (sm_nth h_tables b.2.1).2.1 i0) h_b.2.2.1)), trivial⟩, hm⟩) ((M.hasNone r_17_6), (0 : Int)) rfl trivial (ok_bind h (fun e5 h hv5 => (ok_cond h (fun b_39 h => (have h := ok_ret h; h)) (fun b_39 h => (loopI_next (fun m hm => (show LP25_0 tables b m _ _ from ⟨hc0, hm⟩)) () rfl hl0 low0 ht0 (sm_len (sm_nth h_tables b.2.1).2.1) trivial (have h := ok_ret h; h)))))))⟩)⟩⟩⟩⟩⟩) (fun b_37 h => (loopI_next (fun m hm => (show LP25_0 tables b m _ _ from ⟨hc0, hm⟩)) () rfl hl0 low0 ht0 (sm_len (sm_nth h_tables b.2.1).2.1) trivial (have h := ok_ret h; h))))))))) (fun h => (h trivial)))
  · clear h
    intro m_ s_ K_ h
    obtain ⟨c3_0, c3_1, hc3, v3, rfl, hv3, h⟩ := (show LP25_3 tables b m_ s_ K_ from h)
    rw [lvc25_1 tables b c3_0 c3_1 v3 _ K_]
    exact (loopW_step h (fun m1 hm3 h => (ok_cond h (fun b_13 h => ⟨hc3.1, (ok_cond h (fun b_14 h => ⟨(ok_guard h).1, have g_15 := (ok_guard h).1; have h := (ok_guard h).2; ⟨(ok_guard h).1, have g_16 := (ok_guard h).1; have h := (ok_guard h).2; ⟨(sm_nth (sm_nth h_tables b.2.1).2.1 v3), ⟨h_b.2.2.1, ⟨(ok_guard h).1, have g_17 := (ok_guard h).1; have h := (ok_guard h).2; (fun r_14_6 e_r_14_6 => have h := ok_let h r_14_6 e_r_14_6; ⟨(sm_of_eq e_r_14_6 (M.taken_sm (sm_nth (sm_nth h_tables b.2.1).2.1 v3) h_b.2.2.1)), ⟨hc3.1, (ok_cond h (fun b_18 h => (have h := ok_ret h; h)) (fun b_18 h => (loopW_next (fun m hm => (show LP25_3 tables b m _ _ from ⟨c3_0, c3_1, hc3, hm⟩)) hm3 (wrap64 (v3 + (1 : Int))) rfl trivial (have h := ok_ret h; h))))⟩⟩)⟩⟩⟩⟩⟩) (fun b_14 h => ((have h := ok_ret h; h) trivial)))⟩) (fun b_13 h => ((have h := ok_ret h; h) trivial)))))
  · clear h
    intro m_ s_ K_ h
    obtain ⟨c5_0, c5_1, hc5, v5, rfl, hv5, h⟩ := (show LP25_5 tables b m_ s_ K_ from h)
    rw [lvc25_2 tables b c5_0 c5_1 v5 _ K_]
    exact (loopW_step h (fun m1 hm5 h => ⟨(ok_guard h).1, have g_23 := (ok_guard h).1; have h := (ok_guard h).2; ⟨(ok_guard h).1, have g_24 := (ok_guard h).1; have h := (ok_guard h).2; (ok_cond h (fun b_25 h => (ok_cond h (fun b_26 h => ⟨g_23, ⟨g_24, ⟨(ok_guard h).1, have g_27 := (ok_guard h).1; have h := (ok_guard h).2; ⟨(ok_guard h).1, have g_28 := (ok_guard h).1; have h := (ok_guard h).2; ⟨(sm_nth (sm_nth h_tables b.2.2.2.1).2.1 v5.2), ⟨h_b.2.2.2.2.1, ⟨(ok_guard h).1, have g_29 := (ok_guard h).1; have h := (ok_guard h).2; (fun r_22_11 e_r_22_11 => have h := ok_let h r_22_11 e_r_22_11; ⟨(sm_of_eq e_r_22_11 (M.taken_sm (sm_nth (sm_nth h_tables b.2.2.2.1).2.1 v5.2) h_b.2.2.2.2.1)), ⟨hc5.1, (loopW_next (fun m hm => (show LP25_5 tables b m _ _ from ⟨c5_0, c5_1, hc5, hm⟩)) hm5 ((decide (r_22_11 = c5_1)), wrap64 (v5.2 + (1 : Int))) rfl trivial (have h := ok_ret h; h))⟩⟩)⟩⟩⟩⟩⟩⟩⟩) (fun b_26 h => ((have h := ok_ret h; h) trivial)))) (fun b_25 h => ((have h := ok_ret h; h) trivial)))⟩⟩))
  · rw [vc25 tables b K]
    exact ⟨(ok_guard h).1, have g_1 := (ok_guard h).1; have h := (ok_guard h).2; ⟨(ok_guard h).1, have g_2 := (ok_guard h).1; have h := (ok_guard h).2; (loopI_start (fun m hm => ⟨trivial, hm⟩) (0 : Int) () rfl (Int.natCast_nonneg 0) trivial (ok_then h (fun v0 h hv0 => (have h := ok_ret h; h)) (fun q0 h => (have h := ok_ret h; h))))⟩⟩

/-! 7: loop.example/tablehouse/spec.BondBroken -/
def c7 : Con := ⟨[.dat (Ty.sl TTable), .dat TBond], fun args hp K => args2 (fun a0 a1 => withD (Ty.sl TTable) a0 fun tables => withD TBond a1 fun b => (Sm (Ty.sl TTable) tables) ∧ (Sm TBond b) ∧ K (.data (Ty.int .i64) (M.bondBroken tables b)) []) args hp⟩
def cons7 : Cons := [(24, c24), (25, c25)]
def inl7 : List (Nat × Inl) := []
@[reducible] def C7 : Ctx := ⟨tab, fun t => memN t cmps, cons7, 12, inl7, 0⟩
theorem consOk7 : ConsOk P C7 := by
  refine consOk_cons (enter_ok (fn := Go.Proofs.Tryz.f24) Go.Proofs.Tryz.func24 (by kernel_rfl) rfl) con24_ok ?_
  refine consOk_cons (enter_ok (fn := Go.Proofs.Tryz.f25) Go.Proofs.Tryz.func25 (by kernel_rfl) rfl) con25_ok ?_
  exact consOk_nil
def ann7 : Nat → List Dir
  | 0 => [.fixRow 3 TBond, .keep [0, 3]]
  | 1 => [.keep [0, 3, 8]]
  | 2 => [.keep [4]]
  | 3 => [.keep [4]]
  | _ => []
def L7 (tables : (List (TTable).D)) (b : (TBond).D) : Loops := fun id m st_ K => match id with
  | _ => False
theorem vc7 (tables : (List (TTable).D)) (b : (TBond).D) (K : AV → Hp → Prop) : awp C7 (L7 tables b) ann7 (bodyOf Go.Proofs.Tryz.f7) ⟨argEnv 0 [.data (Ty.sl TTable) tables, .data TBond b], []⟩ (outK tab Go.Proofs.Tryz.f7.results.toList (hasBox []) (resK (.dat (Ty.int .i64)) K)) =
  ((Sm (Ty.sl TTable) tables) ∧ (Sm TBond b) ∧ cond (!(M.tablesOk tables && M.bondOk tables b)) (K (.data (Ty.int .i64) (-2 : Int)) []) ((Sm (Ty.sl TTable) tables) ∧ (Sm TBond b) ∧ ((M.tablesOk tables && M.bondOk tables b) = true) ∧ K (.data (Ty.int .i64) (M.broken tables b)) [])) := by kernel_rfl
theorem con7_ok : ConOk P 7 c7 := by
  refine con_okR (fn := Go.Proofs.Tryz.f7) (code := bodyOf Go.Proofs.Tryz.f7) (tab_ok tab_check cmp_check) consOk7 mixed Go.Proofs.Tryz.func7 rfl rfl fun args hp K h0 => ?_
  obtain ⟨a0, a1, rfl, rfl, h1⟩ := args2_elim h0
  obtain ⟨tables, rfl, h2⟩ := withD_elim h1
  obtain ⟨b, rfl, h3⟩ := withD_elim h2
  obtain ⟨h_tables, h_b, hK⟩ := h3
  have h : ok (F.spec_BondBroken tables b) (fun r => K (.data (Ty.int .i64) r) []) := ok_of_eq (F.spec_BondBroken_eq tables b h_tables h_b) hK
  refine ⟨⟨show (2 : Nat) ≤ 12 by decide, show (2 : Nat) ≤ 1000000 by decide⟩, ann7, (L7 tables b), (.dat (Ty.int .i64)), (no_loops (by kernel_rfl)), ?_⟩
  · rw [vc7 tables b K]
    exact ⟨h_tables, ⟨h_b, (ok_cond h (fun b_1 h => (have h := ok_ret h; h)) (fun b_1 h => ⟨h_tables, ⟨h_b, ⟨(bnf b_1), (have h := ok_ret h; h)⟩⟩⟩))⟩⟩

/-! 82: loop.example/tablehouse/laws.toColumn -/
def c82 : Con := ⟨[.dat TColumn], fun args hp K => args1 (fun a0 => withD TColumn a0 fun x => (∀ r : (TColumn).D, r = (x) → K (.data TColumn r) [])) args hp⟩
def cons82 : Cons := []
def inl82 : List (Nat × Inl) := []
@[reducible] def C82 : Ctx := ⟨tab, fun t => memN t cmps, cons82, 11, inl82, 0⟩
theorem consOk82 : ConsOk P C82 := by
  exact consOk_nil
def ann82 : Nat → List Dir
  | 0 => [.fixRow 1 TColumn, .keep [1, 2]]
  | 1 => [.keep [1, 2, 3]]
  | 2 => [.keep [1, 2, 3]]
  | 3 => [.keep [2, 3]]
  | 4 => [.keep [2]]
  | _ => []
def L82 (x : (TColumn).D) : Loops := fun id m st_ K => match id with
  | _ => False
theorem vc82 (x : (TColumn).D) (K : AV → Hp → Prop) : awp C82 (L82 x) ann82 (bodyOf Go.Proofs.Tryz.f82) ⟨argEnv 0 [.data TColumn x], []⟩ (outK tab Go.Proofs.Tryz.f82.results.toList (hasBox []) (resK (.dat TColumn) K)) =
  (K (.data TColumn x) []) := by kernel_rfl
theorem con82_ok : ConOk P 82 c82 := by
  refine con_okR (fn := Go.Proofs.Tryz.f82) (code := bodyOf Go.Proofs.Tryz.f82) (tab_ok tab_check cmp_check) consOk82 mixed Go.Proofs.Tryz.func82 rfl rfl fun args hp K h0 => ?_
  obtain ⟨a0, rfl, rfl, h1⟩ := args1_elim h0
  obtain ⟨x, rfl, h2⟩ := withD_elim h1
  have hK := h2
  have h : ok (F.laws_toColumn x) (fun r => K (.data TColumn r) []) := ok_of_eq (F.laws_toColumn_eq x) (hK _ rfl)
  refine ⟨⟨show (1 : Nat) ≤ 11 by decide, show (1 : Nat) ≤ 1000000 by decide⟩, ann82, (L82 x), (.dat TColumn), (no_loops (by kernel_rfl)), ?_⟩
  · rw [vc82 x K]
    exact (have h := ok_ret h; h)

/-! 59: loop.example/tablehouse/laws.toColumnS -/
def c59 : Con := ⟨[.dat (Ty.sl TColumn)], fun args hp K => args1 (fun a0 => withD (Ty.sl TColumn) a0 fun x => (Sm (Ty.sl TColumn) x) ∧ (∀ r : (List (TColumn).D), r = (x) → K (.own 0 none) [(0, .arr TColumn r)])) args hp⟩
def cons59 : Cons := [(82, c82)]
def inl59 : List (Nat × Inl) := []
@[reducible] def C59 : Ctx := ⟨tab, fun t => memN t cmps, cons59, 23, inl59, 0⟩
theorem consOk59 : ConsOk P C59 := by
  refine consOk_cons (enter_ok (fn := Go.Proofs.Tryz.f82) Go.Proofs.Tryz.func82 (by kernel_rfl) rfl) con82_ok ?_
  exact consOk_nil
def ann59 : Nat → List Dir
  | 0 => [.keep [0]]
  | 1 => [.keep [0, 3]]
  | 2 => [.keep [0, 3, 4]]
  | 3 => [.keep [0, 3, 4, 11]]
  | 4 => [.keep [0, 3, 4]]
  | 5 => [.keep [0, 3, 4]]
  | 6 => [.keep [2]]
  | 100000 => [.keep [3]]
  | _ => []
@[reducible] def LP59_0 (x : (List (TColumn).D)) (m : Nat) (st_ : St) (K : X → St → Prop) : Prop := (True) ∧ LoopI (fun (i0 : Int) (v0 : (List (TColumn).D)) => (⟨[(0, .data (Ty.sl TColumn) x), (3, .own 7 none), (4, .data (Ty.int .i64) i0)], [(7, .arr TColumn v0)]⟩ : St)) (0 : Int) (x.length : Int) (F.laws_toColumnS_l0 x) (fun v0 : (List (TColumn).D) => True) (outD (fun v0 : (List (TColumn).D) => True → K (.exit 0) (⟨[(3, .own 7 none)], [(7, .arr TColumn v0)]⟩ : St)) (fun _ => False)) m st_
def L59 (x : (List (TColumn).D)) : Loops := fun id m st_ K => match id with
  | 0 => LP59_0 x m st_ K
  | _ => False
theorem vc59 (x : (List (TColumn).D)) (K : AV → Hp → Prop) : awp C59 (L59 x) ann59 (bodyOf Go.Proofs.Tryz.f59) ⟨argEnv 0 [.data (Ty.sl TColumn) x], []⟩ (outK tab Go.Proofs.Tryz.f59.results.toList (hasBox []) (resK .raw K)) =
  (((x.length : Int) = (x.length : Int)) ∧ (0 ≤ (x.length : Int)) ∧ ((x.length : Int) * 16 ≤ (lim : Int)) ∧ (∃ m_, (True) ∧ LoopI (fun (i0 : Int) (v0 : (List (TColumn).D)) => (⟨[(0, .data (Ty.sl TColumn) x), (3, .own 7 none), (4, .data (Ty.int .i64) i0)], [(7, .arr TColumn v0)]⟩ : St)) (0 : Int) (x.length : Int) (F.laws_toColumnS_l0 x) (fun v0 : (List (TColumn).D) => True) (outD (fun v0 : (List (TColumn).D) => True → K (.own 0 none) [(0, .arr TColumn v0)]) (fun _ => False)) m_ (⟨[(0, .data (Ty.sl TColumn) x), (3, .own 7 none), (4, .data (Ty.int .i64) (0 : Int))], [(7, .arr TColumn (List.replicate (x.length : Int).toNat ((0 : Int), (false, ()))))]⟩ : St))) := by kernel_rfl
theorem lvc59_0 (x : (List (TColumn).D))  (i0 : Int) (v0 : (List (TColumn).D)) (m : Nat) (K : X → St → Prop) : awp C59 (L59 x) ann59 (loopAt (bodyOf Go.Proofs.Tryz.f59) 0) (⟨[(0, .data (Ty.sl TColumn) x), (3, .own 7 none), (4, .data (Ty.int .i64) i0)], [(7, .arr TColumn v0)]⟩ : St) (thenW (fun s' => ∃ m', m' < m ∧ (L59 x) 0 m' s' K) (exitN 0 (ann59 (behind 0)) K)) =
  (cond (decide (i0 < (x.length : Int))) ((0 ≤ i0) ∧ (i0 < (x.length : Int)) ∧ (∀ r_5_6 : (TColumn).D, r_5_6 = ((nth (t := TColumn) x i0)) → (0 ≤ i0) ∧ (i0 < (v0.length : Int)) ∧ (∃ m_, m_ < m ∧ (L59 x) 0 m_ (⟨[(0, .data (Ty.sl TColumn) x), (3, .own 7 none), (4, .data (Ty.int .i64) (wrap64 (i0 + (1 : Int))))], [(7, .arr TColumn (v0.set i0.toNat r_5_6))]⟩ : St) K))) (K (.exit 0) (⟨[(3, .own 7 none)], [(7, .arr TColumn v0)]⟩ : St))) := by kernel_rfl
theorem con59_ok : ConOk P 59 c59 := by
  refine con_okR (fn := Go.Proofs.Tryz.f59) (code := bodyOf Go.Proofs.Tryz.f59) (tab_ok tab_check cmp_check) consOk59 mixed Go.Proofs.Tryz.func59 rfl rfl fun args hp K h0 => ?_
  obtain ⟨a0, rfl, rfl, h1⟩ := args1_elim h0
  obtain ⟨x, rfl, h2⟩ := withD_elim h1
  obtain ⟨h_x, hK⟩ := h2
  have h : ok (F.laws_toColumnS x) (fun r => K (.own 0 none) [(0, .arr TColumn r)]) := ok_of_eq (F.laws_toColumnS_eq x h_x) (hK _ rfl)
  refine ⟨⟨show (1 : Nat) ≤ 23 by decide, show (1 : Nat) ≤ 1000000 by decide⟩, ann59, (L59 x), .raw, (loopsN1 (i0 := 0) (by kernel_rfl) ?_), ?_⟩
  · clear h
    intro m_ s_ K_ h
    obtain ⟨hc0, i0, v0, rfl, hl0, rfl, hv0, h⟩ := (show LP59_0 x m_ s_ K_ from h)
    rw [lvc59_0 x i0 v0 _ K_]
    exact (loopI_step h (fun ht0 h => ⟨hl0, ⟨ht0, (fun r_5_6 e_r_5_6 => have h := ok_let h r_5_6 e_r_5_6; ⟨hl0, ⟨(ok_guard h).1, have g_13 := (ok_guard h).1; have h := (ok_guard h).2; (loopI_next (fun m hm => (show LP59_0 x m _ _ from ⟨hc0, hm⟩)) (v0.set i0.toNat r_5_6) rfl hl0 low0 ht0 (sm_len h_x) trivial (have h := ok_ret h; h))⟩⟩)⟩⟩) (fun h => (h trivial)))
  · rw [vc59 x K]
    exact ⟨rfl, ⟨(Int.natCast_nonneg _), ⟨(sm_limI h_x rfl), (loopI_start (fun m hm => ⟨trivial, hm⟩) (0 : Int) (List.replicate (x.length : Int).toNat ((0 : Int), (false, ()))) rfl (Int.natCast_nonneg 0) trivial (ok_then h (fun v0 h hv0 => (have h := ok_ret h; h)) (fun _ h => h.elim)))⟩⟩⟩

/-! 84: loop.example/tablehouse/laws.toValue -/
def c84 : Con := ⟨[.dat TValue], fun args hp K => args1 (fun a0 => withD TValue a0 fun x => (Sm TValue x) ∧ (∀ r : (TValue).D, r = (x) → K (.data TValue r) [])) args hp⟩
def cons84 : Cons := []
def inl84 : List (Nat × Inl) := []
@[reducible] def C84 : Ctx := ⟨tab, fun t => memN t cmps, cons84, 14, inl84, 0⟩
theorem consOk84 : ConsOk P C84 := by
  exact consOk_nil
def ann84 : Nat → List Dir
  | 0 => [.fixRow 1 TValue, .keep [1, 2]]
  | 1 => [.keep [1, 2, 3]]
  | 2 => [.keep [1, 2, 3]]
  | 3 => [.keep [1, 2, 3]]
  | 4 => [.keep [2, 3]]
  | 5 => [.keep [2]]
  | _ => []
def L84 (x : (TValue).D) : Loops := fun id m st_ K => match id with
  | _ => False
theorem vc84 (x : (TValue).D) (K : AV → Hp → Prop) : awp C84 (L84 x) ann84 (bodyOf Go.Proofs.Tryz.f84) ⟨argEnv 0 [.data TValue x], []⟩ (outK tab Go.Proofs.Tryz.f84.results.toList (hasBox []) (resK (.dat TValue) K)) =
  (K (.data TValue x) []) := by kernel_rfl
theorem con84_ok : ConOk P 84 c84 := by
  refine con_okR (fn := Go.Proofs.Tryz.f84) (code := bodyOf Go.Proofs.Tryz.f84) (tab_ok tab_check cmp_check) consOk84 mixed Go.Proofs.Tryz.func84 rfl rfl fun args hp K h0 => ?_
  obtain ⟨a0, rfl, rfl, h1⟩ := args1_elim h0
  obtain ⟨x, rfl, h2⟩ := withD_elim h1
  obtain ⟨h_x, hK⟩ := h2
  have h : ok (F.laws_toValue x) (fun r => K (.data TValue r) []) := ok_of_eq (F.laws_toValue_eq x h_x) (hK _ rfl)
  refine ⟨⟨show (1 : Nat) ≤ 14 by decide, show (1 : Nat) ≤ 1000000 by decide⟩, ann84, (L84 x), (.dat TValue), (no_loops (by kernel_rfl)), ?_⟩
  · rw [vc84 x K]
    exact (have h := ok_ret h; h)

/-! 83: loop.example/tablehouse/laws.toValueS -/
def c83 : Con := ⟨[.dat (Ty.sl TValue)], fun args hp K => args1 (fun a0 => withD (Ty.sl TValue) a0 fun x => (Sm (Ty.sl TValue) x) ∧ (∀ r : (List (TValue).D), r = (x) → K (.own 0 none) [(0, .arr TValue r)])) args hp⟩
def cons83 : Cons := [(84, c84)]
def inl83 : List (Nat × Inl) := []
@[reducible] def C83 : Ctx := ⟨tab, fun t => memN t cmps, cons83, 23, inl83, 0⟩
theorem consOk83 : ConsOk P C83 := by
  refine consOk_cons (enter_ok (fn := Go.Proofs.Tryz.f84) Go.Proofs.Tryz.func84 (by kernel_rfl) rfl) con84_ok ?_
  exact consOk_nil
def ann83 : Nat → List Dir
  | 0 => [.keep [0]]
  | 1 => [.keep [0, 3]]
  | 2 => [.keep [0, 3, 4]]
  | 3 => [.keep [0, 3, 4, 11]]
  | 4 => [.keep [0, 3, 4]]
  | 5 => [.keep [0, 3, 4]]
  | 6 => [.keep [2]]
  | 100000 => [.keep [3]]
  | _ => []
@[reducible] def LP83_0 (x : (List (TValue).D)) (m : Nat) (st_ : St) (K : X → St → Prop) : Prop := (True) ∧ LoopI (fun (i0 : Int) (v0 : (List (TValue).D)) => (⟨[(0, .data (Ty.sl TValue) x), (3, .own 7 none), (4, .data (Ty.int .i64) i0)], [(7, .arr TValue v0)]⟩ : St)) (0 : Int) (x.length : Int) (F.laws_toValueS_l0 x) (fun v0 : (List (TValue).D) => True) (outD (fun v0 : (List (TValue).D) => True → K (.exit 0) (⟨[(3, .own 7 none)], [(7, .arr TValue v0)]⟩ : St)) (fun _ => False)) m st_
def L83 (x : (List (TValue).D)) : Loops := fun id m st_ K => match id with
  | 0 => LP83_0 x m st_ K
  | _ => False
theorem vc83 (x : (List (TValue).D)) (K : AV → Hp → Prop) : awp C83 (L83 x) ann83 (bodyOf Go.Proofs.Tryz.f83) ⟨argEnv 0 [.data (Ty.sl TValue) x], []⟩ (outK tab Go.Proofs.Tryz.f83.results.toList (hasBox []) (resK .raw K)) =
  (((x.length : Int) = (x.length : Int)) ∧ (0 ≤ (x.length : Int)) ∧ ((x.length : Int) * 32 ≤ (lim : Int)) ∧ (∃ m_, (True) ∧ LoopI (fun (i0 : Int) (v0 : (List (TValue).D)) => (⟨[(0, .data (Ty.sl TValue) x), (3, .own 7 none), (4, .data (Ty.int .i64) i0)], [(7, .arr TValue v0)]⟩ : St)) (0 : Int) (x.length : Int) (F.laws_toValueS_l0 x) (fun v0 : (List (TValue).D) => True) (outD (fun v0 : (List (TValue).D) => True → K (.own 0 none) [(0, .arr TValue v0)]) (fun _ => False)) m_ (⟨[(0, .data (Ty.sl TValue) x), (3, .own 7 none), (4, .data (Ty.int .i64) (0 : Int))], [(7, .arr TValue (List.replicate (x.length : Int).toNat ((0 : Int), ((0 : Int), ((⟨#[]⟩ : ByteArray), ())))))]⟩ : St))) := by kernel_rfl
theorem lvc83_0 (x : (List (TValue).D))  (i0 : Int) (v0 : (List (TValue).D)) (m : Nat) (K : X → St → Prop) : awp C83 (L83 x) ann83 (loopAt (bodyOf Go.Proofs.Tryz.f83) 0) (⟨[(0, .data (Ty.sl TValue) x), (3, .own 7 none), (4, .data (Ty.int .i64) i0)], [(7, .arr TValue v0)]⟩ : St) (thenW (fun s' => ∃ m', m' < m ∧ (L83 x) 0 m' s' K) (exitN 0 (ann83 (behind 0)) K)) =
  (cond (decide (i0 < (x.length : Int))) ((0 ≤ i0) ∧ (i0 < (x.length : Int)) ∧ (Sm TValue (nth (t := TValue) x i0)) ∧ (∀ r_5_6 : (TValue).D, r_5_6 = ((nth (t := TValue) x i0)) → (0 ≤ i0) ∧ (i0 < (v0.length : Int)) ∧ (∃ m_, m_ < m ∧ (L83 x) 0 m_ (⟨[(0, .data (Ty.sl TValue) x), (3, .own 7 none), (4, .data (Ty.int .i64) (wrap64 (i0 + (1 : Int))))], [(7, .arr TValue (v0.set i0.toNat r_5_6))]⟩ : St) K))) (K (.exit 0) (⟨[(3, .own 7 none)], [(7, .arr TValue v0)]⟩ : St))) := by kernel_rfl
theorem con83_ok : ConOk P 83 c83 := by
  refine con_okR (fn := Go.Proofs.Tryz.f83) (code := bodyOf Go.Proofs.Tryz.f83) (tab_ok tab_check cmp_check) consOk83 mixed Go.Proofs.Tryz.func83 rfl rfl fun args hp K h0 => ?_
  obtain ⟨a0, rfl, rfl, h1⟩ := args1_elim h0
  obtain ⟨x, rfl, h2⟩ := withD_elim h1
  obtain ⟨h_x, hK⟩ := h2
  have h : ok (F.laws_toValueS x) (fun r => K (.own 0 none) [(0, .arr TValue r)]) := ok_of_eq (F.laws_toValueS_eq x h_x) (hK _ rfl)
  refine ⟨⟨show (1 : Nat) ≤ 23 by decide, show (1 : Nat) ≤ 1000000 by decide⟩, ann83, (L83 x), .raw, (loopsN1 (i0 := 0) (by kernel_rfl) ?_), ?_⟩
  · clear h
    intro m_ s_ K_ h
    obtain ⟨hc0, i0, v0, rfl, hl0, rfl, hv0, h⟩ := (show LP83_0 x m_ s_ K_ from h)
    rw [lvc83_0 x i0 v0 _ K_]
    exact (loopI_step h (fun ht0 h => ⟨hl0, ⟨ht0, ⟨(sm_nth h_x i0), (fun r_5_6 e_r_5_6 => have h := ok_let h r_5_6 e_r_5_6; ⟨hl0, ⟨(ok_guard h).1, have g_13 := (ok_guard h).1; have h := (ok_guard h).2; (loopI_next (fun m hm => (show LP83_0 x m _ _ from ⟨hc0, hm⟩)) (v0.set i0.toNat r_5_6) rfl hl0 low0 ht0 (sm_len h_x) trivial (have h := ok_ret h; h))⟩⟩)⟩⟩⟩) (fun h => (h trivial)))
  · rw [vc83 x K]
    exact ⟨rfl, ⟨(Int.natCast_nonneg _), ⟨(sm_limI h_x rfl), (loopI_start (fun m hm => ⟨trivial, hm⟩) (0 : Int) (List.replicate (x.length : Int).toNat ((0 : Int), ((0 : Int), ((⟨#[]⟩ : ByteArray), ())))) rfl (Int.natCast_nonneg 0) trivial (ok_then h (fun v0 h hv0 => (have h := ok_ret h; h)) (fun _ h => h.elim)))⟩⟩⟩

/-! 60: loop.example/tablehouse/laws.toValueSS -/
def c60 : Con := ⟨[.dat (Ty.sl (Ty.sl TValue))], fun args hp K => args1 (fun a0 => withD (Ty.sl (Ty.sl TValue)) a0 fun x => (Sm (Ty.sl (Ty.sl TValue)) x) ∧ (∀ r : (List (List (TValue).D)), r = (x) → K (.own 0 none) [(0, .arr (Ty.sl TValue) r)])) args hp⟩
def cons60 : Cons := [(83, c83)]
def inl60 : List (Nat × Inl) := []
@[reducible] def C60 : Ctx := ⟨tab, fun t => memN t cmps, cons60, 23, inl60, 0⟩
theorem consOk60 : ConsOk P C60 := by
  refine consOk_cons (enter_ok (fn := Go.Proofs.Tryz.f83) Go.Proofs.Tryz.func83 (by kernel_rfl) rfl) con83_ok ?_
  exact consOk_nil
def ann60 : Nat → List Dir
  | 0 => [.keep [0]]
  | 1 => [.keep [0, 3]]
  | 2 => [.keep [0, 3, 4]]
  | 3 => [.keep [0, 3, 4, 11]]
  | 4 => [.keep [0, 3, 4]]
  | 5 => [.keep [0, 3, 4]]
  | 6 => [.keep [2]]
  | 100000 => [.keep [3]]
  | _ => []
@[reducible] def LP60_0 (x : (List (List (TValue).D))) (m : Nat) (st_ : St) (K : X → St → Prop) : Prop := (True) ∧ LoopI (fun (i0 : Int) (v0 : (List (List (TValue).D))) => (⟨[(0, .data (Ty.sl (Ty.sl TValue)) x), (3, .own 7 none), (4, .data (Ty.int .i64) i0)], [(7, .arr (Ty.sl TValue) v0)]⟩ : St)) (0 : Int) (x.length : Int) (F.laws_toValueSS_l0 x) (fun v0 : (List (List (TValue).D)) => True) (outD (fun v0 : (List (List (TValue).D)) => True → K (.exit 0) (⟨[(3, .own 7 none)], [(7, .arr (Ty.sl TValue) v0)]⟩ : St)) (fun _ => False)) m st_
def L60 (x : (List (List (TValue).D))) : Loops := fun id m st_ K => match id with
  | 0 => LP60_0 x m st_ K
  | _ => False
theorem vc60 (x : (List (List (TValue).D))) (K : AV → Hp → Prop) : awp C60 (L60 x) ann60 (bodyOf Go.Proofs.Tryz.f60) ⟨argEnv 0 [.data (Ty.sl (Ty.sl TValue)) x], []⟩ (outK tab Go.Proofs.Tryz.f60.results.toList (hasBox []) (resK .raw K)) =
  (((x.length : Int) = (x.length : Int)) ∧ (0 ≤ (x.length : Int)) ∧ ((x.length : Int) * 24 ≤ (lim : Int)) ∧ (∃ m_, (True) ∧ LoopI (fun (i0 : Int) (v0 : (List (List (TValue).D))) => (⟨[(0, .data (Ty.sl (Ty.sl TValue)) x), (3, .own 7 none), (4, .data (Ty.int .i64) i0)], [(7, .arr (Ty.sl TValue) v0)]⟩ : St)) (0 : Int) (x.length : Int) (F.laws_toValueSS_l0 x) (fun v0 : (List (List (TValue).D)) => True) (outD (fun v0 : (List (List (TValue).D)) => True → K (.own 0 none) [(0, .arr (Ty.sl TValue) v0)]) (fun _ => False)) m_ (⟨[(0, .data (Ty.sl (Ty.sl TValue)) x), (3, .own 7 none), (4, .data (Ty.int .i64) (0 : Int))], [(7, .arr (Ty.sl TValue) (List.replicate (x.length : Int).toNat []))]⟩ : St))) := by kernel_rfl
theorem lvc60_0 (x : (List (List (TValue).D)))  (i0 : Int) (v0 : (List (List (TValue).D))) (m : Nat) (K : X → St → Prop) : awp C60 (L60 x) ann60 (loopAt (bodyOf Go.Proofs.Tryz.f60) 0) (⟨[(0, .data (Ty.sl (Ty.sl TValue)) x), (3, .own 7 none), (4, .data (Ty.int .i64) i0)], [(7, .arr (Ty.sl TValue) v0)]⟩ : St) (thenW (fun s' => ∃ m', m' < m ∧ (L60 x) 0 m' s' K) (exitN 0 (ann60 (behind 0)) K)) =
  (cond (decide (i0 < (x.length : Int))) ((0 ≤ i0) ∧ (i0 < (x.length : Int)) ∧ (Sm (Ty.sl TValue) (nth (t := (Ty.sl TValue)) x i0)) ∧ (∀ r_5_6 : (List (TValue).D), r_5_6 = ((nth (t := (Ty.sl TValue)) x i0)) → (0 ≤ i0) ∧ (i0 < (v0.length : Int)) ∧ (∃ m_, m_ < m ∧ (L60 x) 0 m_ (⟨[(0, .data (Ty.sl (Ty.sl TValue)) x), (3, .own 7 none), (4, .data (Ty.int .i64) (wrap64 (i0 + (1 : Int))))], [(7, .arr (Ty.sl TValue) (v0.set i0.toNat r_5_6))]⟩ : St) K))) (K (.exit 0) (⟨[(3, .own 7 none)], [(7, .arr (Ty.sl TValue) v0)]⟩ : St))) := by kernel_rfl
theorem con60_ok : ConOk P 60 c60 := by
  refine con_okR (fn := Go.Proofs.Tryz.f60) (code := bodyOf Go.Proofs.Tryz.f60) (tab_ok tab_check cmp_check) consOk60 mixed Go.Proofs.Tryz.func60 rfl rfl fun args hp K h0 => ?_
  obtain ⟨a0, rfl, rfl, h1⟩ := args1_elim h0
  obtain ⟨x, rfl, h2⟩ := withD_elim h1
  obtain ⟨h_x, hK⟩ := h2
  have h : ok (F.laws_toValueSS x) (fun r => K (.own 0 none) [(0, .arr (Ty.sl TValue) r)]) := ok_of_eq (F.laws_toValueSS_eq x h_x) (hK _ rfl)
  refine ⟨⟨show (1 : Nat) ≤ 23 by decide, show (1 : Nat) ≤ 1000000 by decide⟩, ann60, (L60 x), .raw, (loopsN1 (i0 := 0) (by kernel_rfl) ?_), ?_⟩
  · clear h
    intro m_ s_ K_ h
    obtain ⟨hc0, i0, v0, rfl, hl0, rfl, hv0, h⟩ := (show LP60_0 x m_ s_ K_ from h)
    rw [lvc60_0 x i0 v0 _ K_]
    exact (loopI_step h (fun ht0 h => ⟨hl0, ⟨ht0, ⟨(sm_nth h_x i0), (fun r_5_6 e_r_5_6 => have h := ok_let h r_5_6 e_r_5_6; ⟨hl0, ⟨(ok_guard h).1, have g_13 := (ok_guard h).1; have h := (ok_guard h).2; (loopI_next (fun m hm => (show LP60_0 x m _ _ from ⟨hc0, hm⟩)) (v0.set i0.toNat r_5_6) rfl hl0 low0 ht0 (sm_len h_x) trivial (have h := ok_ret h; h))⟩⟩)⟩⟩⟩) (fun h => (h trivial)))
  · rw [vc60 x K]
    exact ⟨rfl, ⟨(Int.natCast_nonneg _), ⟨(sm_limI h_x rfl), (loopI_start (fun m hm => ⟨trivial, hm⟩) (0 : Int) (List.replicate (x.length : Int).toNat []) rfl (Int.natCast_nonneg 0) trivial (ok_then h (fun v0 h hv0 => (have h := ok_ret h; h)) (fun _ h => h.elim)))⟩⟩⟩

/-! 26: loop.example/tablehouse/laws.toTable -/
def c26 : Con := ⟨[.dat TTable], fun args hp K => args1 (fun a0 => withD TTable a0 fun x => (Sm TTable x) ∧ (∀ r : (TTable).D, r = (x) → K (.data TTable r) [])) args hp⟩
def cons26 : Cons := [(59, c59), (60, c60)]
def inl26 : List (Nat × Inl) := []
@[reducible] def C26 : Ctx := ⟨tab, fun t => memN t cmps, cons26, 13, inl26, 0⟩
theorem consOk26 : ConsOk P C26 := by
  refine consOk_cons (enter_ok (fn := Go.Proofs.Tryz.f59) Go.Proofs.Tryz.func59 (by kernel_rfl) rfl) con59_ok ?_
  refine consOk_cons (enter_ok (fn := Go.Proofs.Tryz.f60) Go.Proofs.Tryz.func60 (by kernel_rfl) rfl) con60_ok ?_
  exact consOk_nil
def ann26 : Nat → List Dir
  | 0 => [.fixRow 1 TTable, .keep [1, 2]]
  | 1 => [.keep [1, 2, 3]]
  | 2 => [.keep [1, 2, 3]]
  | 3 => [.keep [2, 3]]
  | 4 => [.keep [2]]
  | _ => []
def L26 (x : (TTable).D) : Loops := fun id m st_ K => match id with
  | _ => False
theorem vc26 (x : (TTable).D) (K : AV → Hp → Prop) : awp C26 (L26 x) ann26 (bodyOf Go.Proofs.Tryz.f26) ⟨argEnv 0 [.data TTable x], []⟩ (outK tab Go.Proofs.Tryz.f26.results.toList (hasBox []) (resK (.dat TTable) K)) =
  ((Sm (Ty.sl TColumn) x.1) ∧ (∀ r_2_2 : (List (TColumn).D), r_2_2 = (x.1) → (Sm (Ty.sl (Ty.sl TValue)) x.2.1) ∧ (∀ r_3_2 : (List (List (TValue).D)), r_3_2 = (x.2.1) → K (.data TTable (r_2_2, (r_3_2, ()))) []))) := by kernel_rfl
theorem con26_ok : ConOk P 26 c26 := by
  refine con_okR (fn := Go.Proofs.Tryz.f26) (code := bodyOf Go.Proofs.Tryz.f26) (tab_ok tab_check cmp_check) consOk26 mixed Go.Proofs.Tryz.func26 rfl rfl fun args hp K h0 => ?_
  obtain ⟨a0, rfl, rfl, h1⟩ := args1_elim h0
  obtain ⟨x, rfl, h2⟩ := withD_elim h1
  obtain ⟨h_x, hK⟩ := h2
  have h : ok (F.laws_toTable x) (fun r => K (.data TTable r) []) := ok_of_eq (F.laws_toTable_eq x h_x) (hK _ rfl)
  refine ⟨⟨show (1 : Nat) ≤ 13 by decide, show (1 : Nat) ≤ 1000000 by decide⟩, ann26, (L26 x), (.dat TTable), (no_loops (by kernel_rfl)), ?_⟩
  · rw [vc26 x K]
    exact ⟨h_x.1, (fun r_2_2 e_r_2_2 => have h := ok_let h r_2_2 e_r_2_2; ⟨h_x.2.1, (fun r_3_2 e_r_3_2 => have h := ok_let h r_3_2 e_r_3_2; (have h := ok_ret h; h))⟩)⟩

/-! 8: loop.example/tablehouse/laws.toTableS -/
def c8 : Con := ⟨[.dat (Ty.sl TTable)], fun args hp K => args1 (fun a0 => withD (Ty.sl TTable) a0 fun x => (Sm (Ty.sl TTable) x) ∧ (∀ r : (List (TTable).D), r = (x) → K (.own 0 none) [(0, .arr TTable r)])) args hp⟩
def cons8 : Cons := [(26, c26)]
def inl8 : List (Nat × Inl) := []
@[reducible] def C8 : Ctx := ⟨tab, fun t => memN t cmps, cons8, 23, inl8, 0⟩
theorem consOk8 : ConsOk P C8 := by
  refine consOk_cons (enter_ok (fn := Go.Proofs.Tryz.f26) Go.Proofs.Tryz.func26 (by kernel_rfl) rfl) con26_ok ?_
  exact consOk_nil
def ann8 : Nat → List Dir
  | 0 => [.keep [0]]
  | 1 => [.keep [0, 3]]
  | 2 => [.keep [0, 3, 4]]
  | 3 => [.keep [0, 3, 4, 11]]
  | 4 => [.keep [0, 3, 4]]
  | 5 => [.keep [0, 3, 4]]
  | 6 => [.keep [2]]
  | 100000 => [.keep [3]]
  | _ => []
@[reducible] def LP8_0 (x : (List (TTable).D)) (m : Nat) (st_ : St) (K : X → St → Prop) : Prop := (True) ∧ LoopI (fun (i0 : Int) (v0 : (List (TTable).D)) => (⟨[(0, .data (Ty.sl TTable) x), (3, .own 7 none), (4, .data (Ty.int .i64) i0)], [(7, .arr TTable v0)]⟩ : St)) (0 : Int) (x.length : Int) (F.laws_toTableS_l0 x) (fun v0 : (List (TTable).D) => True) (outD (fun v0 : (List (TTable).D) => True → K (.exit 0) (⟨[(3, .own 7 none)], [(7, .arr TTable v0)]⟩ : St)) (fun _ => False)) m st_
def L8 (x : (List (TTable).D)) : Loops := fun id m st_ K => match id with
  | 0 => LP8_0 x m st_ K
  | _ => False
theorem vc8 (x : (List (TTable).D)) (K : AV → Hp → Prop) : awp C8 (L8 x) ann8 (bodyOf Go.Proofs.Tryz.f8) ⟨argEnv 0 [.data (Ty.sl TTable) x], []⟩ (outK tab Go.Proofs.Tryz.f8.results.toList (hasBox []) (resK .raw K)) =
  (((x.length : Int) = (x.length : Int)) ∧ (0 ≤ (x.length : Int)) ∧ ((x.length : Int) * 48 ≤ (lim : Int)) ∧ (∃ m_, (True) ∧ LoopI (fun (i0 : Int) (v0 : (List (TTable).D)) => (⟨[(0, .data (Ty.sl TTable) x), (3, .own 7 none), (4, .data (Ty.int .i64) i0)], [(7, .arr TTable v0)]⟩ : St)) (0 : Int) (x.length : Int) (F.laws_toTableS_l0 x) (fun v0 : (List (TTable).D) => True) (outD (fun v0 : (List (TTable).D) => True → K (.own 0 none) [(0, .arr TTable v0)]) (fun _ => False)) m_ (⟨[(0, .data (Ty.sl TTable) x), (3, .own 7 none), (4, .data (Ty.int .i64) (0 : Int))], [(7, .arr TTable (List.replicate (x.length : Int).toNat ([], ([], ()))))]⟩ : St))) := by kernel_rfl
theorem lvc8_0 (x : (List (TTable).D))  (i0 : Int) (v0 : (List (TTable).D)) (m : Nat) (K : X → St → Prop) : awp C8 (L8 x) ann8 (loopAt (bodyOf Go.Proofs.Tryz.f8) 0) (⟨[(0, .data (Ty.sl TTable) x), (3, .own 7 none), (4, .data (Ty.int .i64) i0)], [(7, .arr TTable v0)]⟩ : St) (thenW (fun s' => ∃ m', m' < m ∧ (L8 x) 0 m' s' K) (exitN 0 (ann8 (behind 0)) K)) =
  (cond (decide (i0 < (x.length : Int))) ((0 ≤ i0) ∧ (i0 < (x.length : Int)) ∧ (Sm TTable (nth (t := TTable) x i0)) ∧ (∀ r_5_6 : (TTable).D, r_5_6 = ((nth (t := TTable) x i0)) → (0 ≤ i0) ∧ (i0 < (v0.length : Int)) ∧ (∃ m_, m_ < m ∧ (L8 x) 0 m_ (⟨[(0, .data (Ty.sl TTable) x), (3, .own 7 none), (4, .data (Ty.int .i64) (wrap64 (i0 + (1 : Int))))], [(7, .arr TTable (v0.set i0.toNat r_5_6))]⟩ : St) K))) (K (.exit 0) (⟨[(3, .own 7 none)], [(7, .arr TTable v0)]⟩ : St))) := by kernel_rfl
theorem con8_ok : ConOk P 8 c8 := by
  refine con_okR (fn := Go.Proofs.Tryz.f8) (code := bodyOf Go.Proofs.Tryz.f8) (tab_ok tab_check cmp_check) consOk8 mixed Go.Proofs.Tryz.func8 rfl rfl fun args hp K h0 => ?_
  obtain ⟨a0, rfl, rfl, h1⟩ := args1_elim h0
  obtain ⟨x, rfl, h2⟩ := withD_elim h1
  obtain ⟨h_x, hK⟩ := h2
  have h : ok (F.laws_toTableS x) (fun r => K (.own 0 none) [(0, .arr TTable r)]) := ok_of_eq (F.laws_toTableS_eq x h_x) (hK _ rfl)
  refine ⟨⟨show (1 : Nat) ≤ 23 by decide, show (1 : Nat) ≤ 1000000 by decide⟩, ann8, (L8 x), .raw, (loopsN1 (i0 := 0) (by kernel_rfl) ?_), ?_⟩
  · clear h
    intro m_ s_ K_ h
    obtain ⟨hc0, i0, v0, rfl, hl0, rfl, hv0, h⟩ := (show LP8_0 x m_ s_ K_ from h)
    rw [lvc8_0 x i0 v0 _ K_]
    exact (loopI_step h (fun ht0 h => ⟨hl0, ⟨ht0, ⟨(sm_nth h_x i0), (fun r_5_6 e_r_5_6 => have h := ok_let h r_5_6 e_r_5_6; ⟨hl0, ⟨(ok_guard h).1, have g_13 := (ok_guard h).1; have h := (ok_guard h).2; (loopI_next (fun m hm => (show LP8_0 x m _ _ from ⟨hc0, hm⟩)) (v0.set i0.toNat r_5_6) rfl hl0 low0 ht0 (sm_len h_x) trivial (have h := ok_ret h; h))⟩⟩)⟩⟩⟩) (fun h => (h trivial)))
  · rw [vc8 x K]
    exact ⟨rfl, ⟨(Int.natCast_nonneg _), ⟨(sm_limI h_x rfl), (loopI_start (fun m hm => ⟨trivial, hm⟩) (0 : Int) (List.replicate (x.length : Int).toNat ([], ([], ()))) rfl (Int.natCast_nonneg 0) trivial (ok_then h (fun v0 h hv0 => (have h := ok_ret h; h)) (fun _ h => h.elim)))⟩⟩⟩

/-! 27: loop.example/tablehouse/laws.toIntS -/
def c27 : Con := ⟨[.dat (Ty.sl (Ty.int .i64))], fun args hp K => args1 (fun a0 => withD (Ty.sl (Ty.int .i64)) a0 fun x => (Sm (Ty.sl (Ty.int .i64)) x) ∧ (∀ r : (List Int), r = (x) → K (.own 0 none) [(0, .arr (Ty.int .i64) r)])) args hp⟩
def cons27 : Cons := []
def inl27 : List (Nat × Inl) := []
@[reducible] def C27 : Ctx := ⟨tab, fun t => memN t cmps, cons27, 22, inl27, 0⟩
theorem consOk27 : ConsOk P C27 := by
  exact consOk_nil
def ann27 : Nat → List Dir
  | 0 => [.keep [0]]
  | 1 => [.keep [0, 3]]
  | 2 => [.keep [0, 3, 4]]
  | 3 => [.keep [0, 3, 4, 11]]
  | 4 => [.keep [0, 3, 4]]
  | 5 => [.keep [0, 3, 4]]
  | 6 => [.keep [2]]
  | 100000 => [.keep [3]]
  | _ => []
@[reducible] def LP27_0 (x : (List Int)) (m : Nat) (st_ : St) (K : X → St → Prop) : Prop := (True) ∧ LoopI (fun (i0 : Int) (v0 : (List Int)) => (⟨[(0, .data (Ty.sl (Ty.int .i64)) x), (3, .own 7 none), (4, .data (Ty.int .i64) i0)], [(7, .arr (Ty.int .i64) v0)]⟩ : St)) (0 : Int) (x.length : Int) (F.laws_toIntS_l0 x) (fun v0 : (List Int) => True) (outD (fun v0 : (List Int) => True → K (.exit 0) (⟨[(3, .own 7 none)], [(7, .arr (Ty.int .i64) v0)]⟩ : St)) (fun _ => False)) m st_
def L27 (x : (List Int)) : Loops := fun id m st_ K => match id with
  | 0 => LP27_0 x m st_ K
  | _ => False
theorem vc27 (x : (List Int)) (K : AV → Hp → Prop) : awp C27 (L27 x) ann27 (bodyOf Go.Proofs.Tryz.f27) ⟨argEnv 0 [.data (Ty.sl (Ty.int .i64)) x], []⟩ (outK tab Go.Proofs.Tryz.f27.results.toList (hasBox []) (resK .raw K)) =
  (((x.length : Int) = (x.length : Int)) ∧ (0 ≤ (x.length : Int)) ∧ ((x.length : Int) * 8 ≤ (lim : Int)) ∧ (∃ m_, (True) ∧ LoopI (fun (i0 : Int) (v0 : (List Int)) => (⟨[(0, .data (Ty.sl (Ty.int .i64)) x), (3, .own 7 none), (4, .data (Ty.int .i64) i0)], [(7, .arr (Ty.int .i64) v0)]⟩ : St)) (0 : Int) (x.length : Int) (F.laws_toIntS_l0 x) (fun v0 : (List Int) => True) (outD (fun v0 : (List Int) => True → K (.own 0 none) [(0, .arr (Ty.int .i64) v0)]) (fun _ => False)) m_ (⟨[(0, .data (Ty.sl (Ty.int .i64)) x), (3, .own 7 none), (4, .data (Ty.int .i64) (0 : Int))], [(7, .arr (Ty.int .i64) (List.replicate (x.length : Int).toNat (0 : Int)))]⟩ : St))) := by kernel_rfl
theorem lvc27_0 (x : (List Int))  (i0 : Int) (v0 : (List Int)) (m : Nat) (K : X → St → Prop) : awp C27 (L27 x) ann27 (loopAt (bodyOf Go.Proofs.Tryz.f27) 0) (⟨[(0, .data (Ty.sl (Ty.int .i64)) x), (3, .own 7 none), (4, .data (Ty.int .i64) i0)], [(7, .arr (Ty.int .i64) v0)]⟩ : St) (thenW (fun s' => ∃ m', m' < m ∧ (L27 x) 0 m' s' K) (exitN 0 (ann27 (behind 0)) K)) =
  (cond (decide (i0 < (x.length : Int))) ((0 ≤ i0) ∧ (i0 < (x.length : Int)) ∧ (0 ≤ i0) ∧ (i0 < (v0.length : Int)) ∧ (∃ m_, m_ < m ∧ (L27 x) 0 m_ (⟨[(0, .data (Ty.sl (Ty.int .i64)) x), (3, .own 7 none), (4, .data (Ty.int .i64) (wrap64 (i0 + (1 : Int))))], [(7, .arr (Ty.int .i64) (v0.set i0.toNat (nth (t := (Ty.int .i64)) x i0)))]⟩ : St) K)) (K (.exit 0) (⟨[(3, .own 7 none)], [(7, .arr (Ty.int .i64) v0)]⟩ : St))) := by kernel_rfl
theorem con27_ok : ConOk P 27 c27 := by
  refine con_okR (fn := Go.Proofs.Tryz.f27) (code := bodyOf Go.Proofs.Tryz.f27) (tab_ok tab_check cmp_check) consOk27 mixed Go.Proofs.Tryz.func27 rfl rfl fun args hp K h0 => ?_
  obtain ⟨a0, rfl, rfl, h1⟩ := args1_elim h0
  obtain ⟨x, rfl, h2⟩ := withD_elim h1
  obtain ⟨h_x, hK⟩ := h2
  have h : ok (F.laws_toIntS x) (fun r => K (.own 0 none) [(0, .arr (Ty.int .i64) r)]) := ok_of_eq (F.laws_toIntS_eq x h_x) (hK _ rfl)
  refine ⟨⟨show (1 : Nat) ≤ 22 by decide, show (1 : Nat) ≤ 1000000 by decide⟩, ann27, (L27 x), .raw, (loopsN1 (i0 := 0) (by kernel_rfl) ?_), ?_⟩
  · clear h
    intro m_ s_ K_ h
    obtain ⟨hc0, i0, v0, rfl, hl0, rfl, hv0, h⟩ := (show LP27_0 x m_ s_ K_ from h)
    rw [lvc27_0 x i0 v0 _ K_]
    exact (loopI_step h (fun ht0 h => ⟨hl0, ⟨ht0, ⟨hl0, ⟨(ok_guard h).1, have g_13 := (ok_guard h).1; have h := (ok_guard h).2; (loopI_next (fun m hm => (show LP27_0 x m _ _ from ⟨hc0, hm⟩)) (v0.set i0.toNat (nth (t := (Ty.int .i64)) x i0)) rfl hl0 low0 ht0 (sm_len h_x) trivial (have h := ok_ret h; h))⟩⟩⟩⟩) (fun h => (h trivial)))
  · rw [vc27 x K]
    exact ⟨rfl, ⟨(Int.natCast_nonneg _), ⟨(sm_limI h_x rfl), (loopI_start (fun m hm => ⟨trivial, hm⟩) (0 : Int) (List.replicate (x.length : Int).toNat (0 : Int)) rfl (Int.natCast_nonneg 0) trivial (ok_then h (fun v0 h hv0 => (have h := ok_ret h; h)) (fun _ h => h.elim)))⟩⟩⟩

/-! 61: loop.example/tablehouse/laws.toPart -/
def c61 : Con := ⟨[.dat TPart], fun args hp K => args1 (fun a0 => withD TPart a0 fun x => (Sm TPart x) ∧ (∀ r : (TPart).D, r = (x) → K (.data TPart r) [])) args hp⟩
def cons61 : Cons := [(84, c84)]
def inl61 : List (Nat × Inl) := []
@[reducible] def C61 : Ctx := ⟨tab, fun t => memN t cmps, cons61, 15, inl61, 0⟩
theorem consOk61 : ConsOk P C61 := by
  refine consOk_cons (enter_ok (fn := Go.Proofs.Tryz.f84) Go.Proofs.Tryz.func84 (by kernel_rfl) rfl) con84_ok ?_
  exact consOk_nil
def ann61 : Nat → List Dir
  | 0 => [.fixRow 1 TPart, .keep [1, 2]]
  | 1 => [.keep [1, 2, 3]]
  | 2 => [.keep [1, 2, 3]]
  | 3 => [.keep [1, 2, 3]]
  | 4 => [.keep [2, 3]]
  | 5 => [.keep [2]]
  | _ => []
def L61 (x : (TPart).D) : Loops := fun id m st_ K => match id with
  | _ => False
theorem vc61 (x : (TPart).D) (K : AV → Hp → Prop) : awp C61 (L61 x) ann61 (bodyOf Go.Proofs.Tryz.f61) ⟨argEnv 0 [.data TPart x], []⟩ (outK tab Go.Proofs.Tryz.f61.results.toList (hasBox []) (resK (.dat TPart) K)) =
  ((Sm TValue x.2.2.1) ∧ (∀ r_4_2 : (TValue).D, r_4_2 = (x.2.2.1) → K (.data TPart (x.1, (x.2.1, (r_4_2, ())))) [])) := by kernel_rfl
theorem con61_ok : ConOk P 61 c61 := by
  refine con_okR (fn := Go.Proofs.Tryz.f61) (code := bodyOf Go.Proofs.Tryz.f61) (tab_ok tab_check cmp_check) consOk61 mixed Go.Proofs.Tryz.func61 rfl rfl fun args hp K h0 => ?_
  obtain ⟨a0, rfl, rfl, h1⟩ := args1_elim h0
  obtain ⟨x, rfl, h2⟩ := withD_elim h1
  obtain ⟨h_x, hK⟩ := h2
  have h : ok (F.laws_toPart x) (fun r => K (.data TPart r) []) := ok_of_eq (F.laws_toPart_eq x h_x) (hK _ rfl)
  refine ⟨⟨show (1 : Nat) ≤ 15 by decide, show (1 : Nat) ≤ 1000000 by decide⟩, ann61, (L61 x), (.dat TPart), (no_loops (by kernel_rfl)), ?_⟩
  · rw [vc61 x K]
    exact ⟨h_x.2.2.1, (fun r_4_2 e_r_4_2 => have h := ok_let h r_4_2 e_r_4_2; (have h := ok_ret h; h))⟩

/-! 28: loop.example/tablehouse/laws.toPartS -/
def c28 : Con := ⟨[.dat (Ty.sl TPart)], fun args hp K => args1 (fun a0 => withD (Ty.sl TPart) a0 fun x => (Sm (Ty.sl TPart) x) ∧ (∀ r : (List (TPart).D), r = (x) → K (.own 0 none) [(0, .arr TPart r)])) args hp⟩
def cons28 : Cons := [(61, c61)]
def inl28 : List (Nat × Inl) := []
@[reducible] def C28 : Ctx := ⟨tab, fun t => memN t cmps, cons28, 23, inl28, 0⟩
theorem consOk28 : ConsOk P C28 := by
  refine consOk_cons (enter_ok (fn := Go.Proofs.Tryz.f61) Go.Proofs.Tryz.func61 (by kernel_rfl) rfl) con61_ok ?_
  exact consOk_nil
def ann28 : Nat → List Dir
  | 0 => [.keep [0]]
  | 1 => [.keep [0, 3]]
  | 2 => [.keep [0, 3, 4]]
  | 3 => [.keep [0, 3, 4, 11]]
  | 4 => [.keep [0, 3, 4]]
  | 5 => [.keep [0, 3, 4]]
  | 6 => [.keep [2]]
  | 100000 => [.keep [3]]
  | _ => []
@[reducible] def LP28_0 (x : (List (TPart).D)) (m : Nat) (st_ : St) (K : X → St → Prop) : Prop := (True) ∧ LoopI (fun (i0 : Int) (v0 : (List (TPart).D)) => (⟨[(0, .data (Ty.sl TPart) x), (3, .own 7 none), (4, .data (Ty.int .i64) i0)], [(7, .arr TPart v0)]⟩ : St)) (0 : Int) (x.length : Int) (F.laws_toPartS_l0 x) (fun v0 : (List (TPart).D) => True) (outD (fun v0 : (List (TPart).D) => True → K (.exit 0) (⟨[(3, .own 7 none)], [(7, .arr TPart v0)]⟩ : St)) (fun _ => False)) m st_
def L28 (x : (List (TPart).D)) : Loops := fun id m st_ K => match id with
  | 0 => LP28_0 x m st_ K
  | _ => False
theorem vc28 (x : (List (TPart).D)) (K : AV → Hp → Prop) : awp C28 (L28 x) ann28 (bodyOf Go.Proofs.Tryz.f28) ⟨argEnv 0 [.data (Ty.sl TPart) x], []⟩ (outK tab Go.Proofs.Tryz.f28.results.toList (hasBox []) (resK .raw K)) =
  (((x.length : Int) = (x.length : Int)) ∧ (0 ≤ (x.length : Int)) ∧ ((x.length : Int) * 48 ≤ (lim : Int)) ∧ (∃ m_, (True) ∧ LoopI (fun (i0 : Int) (v0 : (List (TPart).D)) => (⟨[(0, .data (Ty.sl TPart) x), (3, .own 7 none), (4, .data (Ty.int .i64) i0)], [(7, .arr TPart v0)]⟩ : St)) (0 : Int) (x.length : Int) (F.laws_toPartS_l0 x) (fun v0 : (List (TPart).D) => True) (outD (fun v0 : (List (TPart).D) => True → K (.own 0 none) [(0, .arr TPart v0)]) (fun _ => False)) m_ (⟨[(0, .data (Ty.sl TPart) x), (3, .own 7 none), (4, .data (Ty.int .i64) (0 : Int))], [(7, .arr TPart (List.replicate (x.length : Int).toNat ((0 : Int), ((0 : Int), (((0 : Int), ((0 : Int), ((⟨#[]⟩ : ByteArray), ()))), ())))))]⟩ : St))) := by kernel_rfl
theorem lvc28_0 (x : (List (TPart).D))  (i0 : Int) (v0 : (List (TPart).D)) (m : Nat) (K : X → St → Prop) : awp C28 (L28 x) ann28 (loopAt (bodyOf Go.Proofs.Tryz.f28) 0) (⟨[(0, .data (Ty.sl TPart) x), (3, .own 7 none), (4, .data (Ty.int .i64) i0)], [(7, .arr TPart v0)]⟩ : St) (thenW (fun s' => ∃ m', m' < m ∧ (L28 x) 0 m' s' K) (exitN 0 (ann28 (behind 0)) K)) =
  (cond (decide (i0 < (x.length : Int))) ((0 ≤ i0) ∧ (i0 < (x.length : Int)) ∧ (Sm TPart (nth (t := TPart) x i0)) ∧ (∀ r_5_6 : (TPart).D, r_5_6 = ((nth (t := TPart) x i0)) → (0 ≤ i0) ∧ (i0 < (v0.length : Int)) ∧ (∃ m_, m_ < m ∧ (L28 x) 0 m_ (⟨[(0, .data (Ty.sl TPart) x), (3, .own 7 none), (4, .data (Ty.int .i64) (wrap64 (i0 + (1 : Int))))], [(7, .arr TPart (v0.set i0.toNat r_5_6))]⟩ : St) K))) (K (.exit 0) (⟨[(3, .own 7 none)], [(7, .arr TPart v0)]⟩ : St))) := by kernel_rfl
theorem con28_ok : ConOk P 28 c28 := by
  refine con_okR (fn := Go.Proofs.Tryz.f28) (code := bodyOf Go.Proofs.Tryz.f28) (tab_ok tab_check cmp_check) consOk28 mixed Go.Proofs.Tryz.func28 rfl rfl fun args hp K h0 => ?_
  obtain ⟨a0, rfl, rfl, h1⟩ := args1_elim h0
  obtain ⟨x, rfl, h2⟩ := withD_elim h1
  obtain ⟨h_x, hK⟩ := h2
  have h : ok (F.laws_toPartS x) (fun r => K (.own 0 none) [(0, .arr TPart r)]) := ok_of_eq (F.laws_toPartS_eq x h_x) (hK _ rfl)
  refine ⟨⟨show (1 : Nat) ≤ 23 by decide, show (1 : Nat) ≤ 1000000 by decide⟩, ann28, (L28 x), .raw, (loopsN1 (i0 := 0) (by kernel_rfl) ?_), ?_⟩
  · clear h
    intro m_ s_ K_ h
    obtain ⟨hc0, i0, v0, rfl, hl0, rfl, hv0, h⟩ := (show LP28_0 x m_ s_ K_ from h)
    rw [lvc28_0 x i0 v0 _ K_]
    exact (loopI_step h (fun ht0 h => ⟨hl0, ⟨ht0, ⟨(sm_nth h_x i0), (fun r_5_6 e_r_5_6 => have h := ok_let h r_5_6 e_r_5_6; ⟨hl0, ⟨(ok_guard h).1, have g_13 := (ok_guard h).1; have h := (ok_guard h).2; (loopI_next (fun m hm => (show LP28_0 x m _ _ from ⟨hc0, hm⟩)) (v0.set i0.toNat r_5_6) rfl hl0 low0 ht0 (sm_len h_x) trivial (have h := ok_ret h; h))⟩⟩)⟩⟩⟩) (fun h => (h trivial)))
  · rw [vc28 x K]
    exact ⟨rfl, ⟨(Int.natCast_nonneg _), ⟨(sm_limI h_x rfl), (loopI_start (fun m hm => ⟨trivial, hm⟩) (0 : Int) (List.replicate (x.length : Int).toNat ((0 : Int), ((0 : Int), (((0 : Int), ((0 : Int), ((⟨#[]⟩ : ByteArray), ()))), ())))) rfl (Int.natCast_nonneg 0) trivial (ok_then h (fun v0 h hv0 => (have h := ok_ret h; h)) (fun _ h => h.elim)))⟩⟩⟩

/-! 9: loop.example/tablehouse/laws.toBond -/
def c9 : Con := ⟨[.dat TBond], fun args hp K => args1 (fun a0 => withD TBond a0 fun x => (Sm TBond x) ∧ (∀ r : (TBond).D, r = (x) → K (.data TBond r) [])) args hp⟩
def cons9 : Cons := [(27, c27), (28, c28)]
def inl9 : List (Nat × Inl) := []
@[reducible] def C9 : Ctx := ⟨tab, fun t => memN t cmps, cons9, 29, inl9, 0⟩
theorem consOk9 : ConsOk P C9 := by
  refine consOk_cons (enter_ok (fn := Go.Proofs.Tryz.f27) Go.Proofs.Tryz.func27 (by kernel_rfl) rfl) con27_ok ?_
  refine consOk_cons (enter_ok (fn := Go.Proofs.Tryz.f28) Go.Proofs.Tryz.func28 (by kernel_rfl) rfl) con28_ok ?_
  exact consOk_nil
def ann9 : Nat → List Dir
  | 0 => [.fixRow 1 TBond, .keep [1, 2]]
  | 1 => [.keep [1, 2, 3]]
  | 2 => [.keep [1, 2, 3]]
  | 3 => [.keep [1, 2, 3]]
  | 4 => [.keep [1, 2, 3]]
  | 5 => [.keep [1, 2, 3]]
  | 6 => [.keep [1, 2, 3]]
  | 7 => [.keep [1, 2, 3]]
  | 8 => [.keep [2, 3]]
  | 9 => [.keep [2]]
  | _ => []
def L9 (x : (TBond).D) : Loops := fun id m st_ K => match id with
  | _ => False
theorem vc9 (x : (TBond).D) (K : AV → Hp → Prop) : awp C9 (L9 x) ann9 (bodyOf Go.Proofs.Tryz.f9) ⟨argEnv 0 [.data TBond x], []⟩ (outK tab Go.Proofs.Tryz.f9.results.toList (hasBox []) (resK (.dat TBond) K)) =
  ((Sm (Ty.sl (Ty.int .i64)) x.2.2.1) ∧ (∀ r_4_2 : (List Int), r_4_2 = (x.2.2.1) → (Sm (Ty.sl (Ty.int .i64)) x.2.2.2.2.1) ∧ (∀ r_6_2 : (List Int), r_6_2 = (x.2.2.2.2.1) → (Sm (Ty.sl TPart) x.2.2.2.2.2.2.1) ∧ (∀ r_8_2 : (List (TPart).D), r_8_2 = (x.2.2.2.2.2.2.1) → K (.data TBond (x.1, (x.2.1, (r_4_2, (x.2.2.2.1, (r_6_2, (x.2.2.2.2.2.1, (r_8_2, ())))))))) [])))) := by kernel_rfl
theorem con9_ok : ConOk P 9 c9 := by
  refine con_okR (fn := Go.Proofs.Tryz.f9) (code := bodyOf Go.Proofs.Tryz.f9) (tab_ok tab_check cmp_check) consOk9 mixed Go.Proofs.Tryz.func9 rfl rfl fun args hp K h0 => ?_
  obtain ⟨a0, rfl, rfl, h1⟩ := args1_elim h0
  obtain ⟨x, rfl, h2⟩ := withD_elim h1
  obtain ⟨h_x, hK⟩ := h2
  have h : ok (F.laws_toBond x) (fun r => K (.data TBond r) []) := ok_of_eq (F.laws_toBond_eq x h_x) (hK _ rfl)
  refine ⟨⟨show (1 : Nat) ≤ 29 by decide, show (1 : Nat) ≤ 1000000 by decide⟩, ann9, (L9 x), (.dat TBond), (no_loops (by kernel_rfl)), ?_⟩
  · rw [vc9 x K]
    exact ⟨h_x.2.2.1, (fun r_4_2 e_r_4_2 => have h := ok_let h r_4_2 e_r_4_2; ⟨h_x.2.2.2.2.1, (fun r_6_2 e_r_6_2 => have h := ok_let h r_6_2 e_r_6_2; ⟨h_x.2.2.2.2.2.2.1, (fun r_8_2 e_r_8_2 => have h := ok_let h r_8_2 e_r_8_2; (have h := ok_ret h; h))⟩)⟩)⟩

/-! 89: loop.example/tablehouse/impl.between -/
def c89 : Con := ⟨[.dat (Ty.int .i64), .dat (Ty.int .i64), .dat (Ty.int .i64)], fun args hp K => args3 (fun a0 a1 a2 => withD (Ty.int .i64) a0 fun n => withD (Ty.int .i64) a1 fun low => withD (Ty.int .i64) a2 fun high => K (.data Ty.bool (M.inR n low high)) []) args hp⟩
def cons89 : Cons := []
def inl89 : List (Nat × Inl) := []
@[reducible] def C89 : Ctx := ⟨tab, fun t => memN t cmps, cons89, 15, inl89, 0⟩
theorem consOk89 : ConsOk P C89 := by
  exact consOk_nil
def ann89 : Nat → List Dir
  | 0 => [.keep [0, 1, 2]]
  | 1 => [.keep [6]]
  | _ => []
def L89 (n : Int) (low : Int) (high : Int) : Loops := fun id m st_ K => match id with
  | _ => False
theorem vc89 (n : Int) (low : Int) (high : Int) (K : AV → Hp → Prop) : awp C89 (L89 n low high) ann89 (bodyOf Go.Proofs.Tryz.f89) ⟨argEnv 0 [.data (Ty.int .i64) n, .data (Ty.int .i64) low, .data (Ty.int .i64) high], []⟩ (outK tab Go.Proofs.Tryz.f89.results.toList (hasBox []) (resK (.dat Ty.bool) K)) =
  (cond ((decide (low ≤ n)) == true) (K (.data Ty.bool (decide (n ≤ high))) []) (K (.data Ty.bool false) [])) := by kernel_rfl
theorem con89_ok : ConOk P 89 c89 := by
  refine con_okR (fn := Go.Proofs.Tryz.f89) (code := bodyOf Go.Proofs.Tryz.f89) (tab_ok tab_check cmp_check) consOk89 mixed Go.Proofs.Tryz.func89 rfl rfl fun args hp K h0 => ?_
  obtain ⟨a0, a1, a2, rfl, rfl, h1⟩ := args3_elim h0
  obtain ⟨n, rfl, h2⟩ := withD_elim h1
  obtain ⟨low, rfl, h3⟩ := withD_elim h2
  obtain ⟨high, rfl, h4⟩ := withD_elim h3
  have hK := h4
  have h : ok (F.impl_between n low high) (fun r => K (.data Ty.bool r) []) := ok_of_eq (F.impl_between_eq n low high) hK
  refine ⟨⟨show (3 : Nat) ≤ 15 by decide, show (3 : Nat) ≤ 1000000 by decide⟩, ann89, (L89 n low high), (.dat Ty.bool), (no_loops (by kernel_rfl)), ?_⟩
  · rw [vc89 n low high K]
    exact (ok_cond h (fun b_1 h => (have h := ok_ret h; h)) (fun b_1 h => (have h := ok_ret h; h)))

/-! 120: loop.example/tablehouse/impl.ColumnsOk$1 -/
def c120 : Con := ⟨[.dat TColumn], fun args hp K => args1 (fun a0 => withD TColumn a0 fun c => K (.data Ty.bool (!M.columnOk c)) []) args hp⟩
def cons120 : Cons := [(89, c89)]
def inl120 : List (Nat × Inl) := []
@[reducible] def C120 : Ctx := ⟨tab, fun t => memN t cmps, cons120, 7, inl120, 0⟩
theorem consOk120 : ConsOk P C120 := by
  refine consOk_cons (enter_ok (fn := Go.Proofs.Tryz.f89) Go.Proofs.Tryz.func89 (by kernel_rfl) rfl) con89_ok ?_
  exact consOk_nil
def ann120 : Nat → List Dir
  | 0 => [.fixRow 1 TColumn, .keep [1]]
  | 1 => [.keep [2]]
  | _ => []
def L120 (c : (TColumn).D) : Loops := fun id m st_ K => match id with
  | _ => False
theorem vc120 (c : (TColumn).D) (K : AV → Hp → Prop) : awp C120 (L120 c) ann120 (bodyOf Go.Proofs.Tryz.f120) ⟨argEnv 0 [.data TColumn c], []⟩ (outK tab Go.Proofs.Tryz.f120.results.toList (hasBox []) (resK (.dat Ty.bool) K)) =
  (K (.data Ty.bool (!(M.inR c.1 (1 : Int) (3 : Int)))) []) := by kernel_rfl
theorem con120_ok : ConOk P 120 c120 := by
  refine con_okR (fn := Go.Proofs.Tryz.f120) (code := bodyOf Go.Proofs.Tryz.f120) (tab_ok tab_check cmp_check) consOk120 mixed Go.Proofs.Tryz.func120 rfl rfl fun args hp K h0 => ?_
  obtain ⟨a0, rfl, rfl, h1⟩ := args1_elim h0
  obtain ⟨c, rfl, h2⟩ := withD_elim h1
  have hK := h2
  have h : ok (F.impl_ColumnsOk_1 c) (fun r => K (.data Ty.bool r) []) := ok_of_eq (F.impl_ColumnsOk_1_eq c) hK
  refine ⟨⟨show (1 : Nat) ≤ 7 by decide, show (1 : Nat) ≤ 1000000 by decide⟩, ann120, (L120 c), (.dat Ty.bool), (no_loops (by kernel_rfl)), ?_⟩
  · rw [vc120 c K]
    exact (have h := ok_ret h; h)

/-! 143: slices.IndexFunc[[]loop.example/tablehouse/impl.Column,loop.example/tablehouse/impl.Column] -/
def c143 : Con := ⟨[.lent TColumn, .any], fun args hp K => args2 (fun a0 a1 => withB TColumn a0 fun xs => withF 120 a1 (caps0 ((Sm (Ty.sl TColumn) xs) ∧ K (.data (Ty.int .i64) (M.idx (t := TColumn) (fun e => !M.columnOk e) xs)) []))) args hp⟩
def cons143 : Cons := [(120, c120)]
def inl143 : List (Nat × Inl) := []
@[reducible] def C143 : Ctx := ⟨tab, fun t => memN t cmps, cons143, 19, inl143, 0⟩
theorem consOk143 : ConsOk P C143 := by
  refine consOk_cons (enter_ok (fn := Go.Proofs.Tryz.f120) Go.Proofs.Tryz.func120 (by kernel_rfl) rfl) con120_ok ?_
  exact consOk_nil
def ann143 : Nat → List Dir
  | 0 => [.keep [0, 1]]
  | 1 => [.keep [0, 1, 7, 8]]
  | 2 => [.keep [0, 1, 7, 8, 9]]
  | 3 => [.keep [0, 1, 5, 7, 8]]
  | 4 => [.keep [0, 1, 5, 7, 8, 16]]
  | 5 => [.keep [4]]
  | 6 => [.keep [0, 1, 7, 8]]
  | 7 => [.keep [4]]
  | 100000 => [.keep []]
  | _ => []
@[reducible] def LP143_0 (xs : (List (TColumn).D)) (m : Nat) (st_ : St) (K : X → St → Prop) : Prop := (True) ∧ LoopI (fun (i0 : Int) (v0 : Unit) => (⟨[(0, .brw TColumn xs), (1, .fn 120 []), (7, .data (Ty.int .i64) (xs.length : Int)), (8, .data (Ty.int .i64) i0)], []⟩ : St)) (0 : Int) (xs.length : Int) (F.IndexFunc_impl_ColumnsOk_1_l0 xs) (fun v0 : Unit => True) (outD (fun v0 : Unit => True → K (.exit 0) (⟨[], []⟩ : St)) (fun q0 : Int => K .ret (⟨[(4, .data (Ty.int .i64) q0)], []⟩ : St))) m st_
def L143 (xs : (List (TColumn).D)) : Loops := fun id m st_ K => match id with
  | 0 => LP143_0 xs m st_ K
  | _ => False
theorem vc143 (xs : (List (TColumn).D)) (K : AV → Hp → Prop) : awp C143 (L143 xs) ann143 (bodyOf Go.Proofs.Tryz.f143) ⟨argEnv 0 [.brw TColumn xs, .fn 120 []], []⟩ (outK tab Go.Proofs.Tryz.f143.results.toList (hasBox []) (resK (.dat (Ty.int .i64)) K)) =
  ((∃ m_, (True) ∧ LoopI (fun (i0 : Int) (v0 : Unit) => (⟨[(0, .brw TColumn xs), (1, .fn 120 []), (7, .data (Ty.int .i64) (xs.length : Int)), (8, .data (Ty.int .i64) i0)], []⟩ : St)) (0 : Int) (xs.length : Int) (F.IndexFunc_impl_ColumnsOk_1_l0 xs) (fun v0 : Unit => True) (outD (fun v0 : Unit => True → K (.data (Ty.int .i64) (-1 : Int)) []) (fun q0 : Int => K (.data (Ty.int .i64) q0) [])) m_ (⟨[(0, .brw TColumn xs), (1, .fn 120 []), (7, .data (Ty.int .i64) (xs.length : Int)), (8, .data (Ty.int .i64) (0 : Int))], []⟩ : St))) := by kernel_rfl
theorem lvc143_0 (xs : (List (TColumn).D))  (i0 : Int) (v0 : Unit) (m : Nat) (K : X → St → Prop) : awp C143 (L143 xs) ann143 (loopAt (bodyOf Go.Proofs.Tryz.f143) 0) (⟨[(0, .brw TColumn xs), (1, .fn 120 []), (7, .data (Ty.int .i64) (xs.length : Int)), (8, .data (Ty.int .i64) i0)], []⟩ : St) (thenW (fun s' => ∃ m', m' < m ∧ (L143 xs) 0 m' s' K) (exitN 0 (ann143 (behind 0)) K)) =
  (cond (decide (i0 < (xs.length : Int))) ((0 ≤ i0) ∧ (i0 < (xs.length : Int)) ∧ cond (!M.columnOk (nth (t := TColumn) xs i0)) (K .ret (⟨[(4, .data (Ty.int .i64) i0)], []⟩ : St)) ((∃ m_, m_ < m ∧ (L143 xs) 0 m_ (⟨[(0, .brw TColumn xs), (1, .fn 120 []), (7, .data (Ty.int .i64) (xs.length : Int)), (8, .data (Ty.int .i64) (wrap64 (i0 + (1 : Int))))], []⟩ : St) K))) (K (.exit 0) (⟨[], []⟩ : St))) := by kernel_rfl
theorem con143_ok : ConOk P 143 c143 := by
  refine con_okR (fn := Go.Proofs.Tryz.f143) (code := bodyOf Go.Proofs.Tryz.f143) (tab_ok tab_check cmp_check) consOk143 mixed Go.Proofs.Tryz.func143 rfl rfl fun args hp K h0 => ?_
  obtain ⟨a0, a1, rfl, rfl, h1⟩ := args2_elim h0
  obtain ⟨xs, rfl, h2⟩ := withB_elim h1
  obtain ⟨cs1, rfl, h3⟩ := withF_elim h2
  obtain ⟨rfl, h4⟩ := caps0_elim h3
  obtain ⟨h_xs, hK⟩ := h4
  have h : ok (F.IndexFunc_impl_ColumnsOk_1 xs) (fun r => K (.data (Ty.int .i64) r) []) := ok_of_eq (F.IndexFunc_impl_ColumnsOk_1_eq xs h_xs) hK
  refine ⟨⟨show (2 : Nat) ≤ 19 by decide, show (2 : Nat) ≤ 1000000 by decide⟩, ann143, (L143 xs), (.dat (Ty.int .i64)), (loopsN1 (i0 := 0) (by kernel_rfl) ?_), ?_⟩
  · clear h
    intro m_ s_ K_ h
    obtain ⟨hc0, i0, v0, rfl, hl0, rfl, hv0, h⟩ := (show LP143_0 xs m_ s_ K_ from h)
    rw [lvc143_0 xs i0 v0 _ K_]
    exact (loopI_step h (fun ht0 h => ⟨hl0, ⟨ht0, (ok_cond h (fun b_9 h => (have h := ok_ret h; h)) (fun b_9 h => (loopI_next (fun m hm => (show LP143_0 xs m _ _ from ⟨hc0, hm⟩)) () rfl hl0 low0 ht0 (sm_len h_xs) trivial (have h := ok_ret h; h))))⟩⟩) (fun h => (h trivial)))
  · rw [vc143 xs K]
    exact (loopI_start (fun m hm => ⟨trivial, hm⟩) (0 : Int) () rfl (Int.natCast_nonneg 0) trivial (ok_then h (fun v0 h hv0 => (have h := ok_ret h; h)) (fun q0 h => (have h := ok_ret h; h))))

/-! 119: slices.ContainsFunc[[]loop.example/tablehouse/impl.Column,loop.example/tablehouse/impl.Column] -/
def c119 : Con := ⟨[.lent TColumn, .any], fun args hp K => args2 (fun a0 a1 => withB TColumn a0 fun xs => withF 120 a1 (caps0 ((Sm (Ty.sl TColumn) xs) ∧ K (.data Ty.bool (List.any xs (fun e => !M.columnOk e))) []))) args hp⟩
def cons119 : Cons := [(120, c120), (143, c143)]
def inl119 : List (Nat × Inl) := []
@[reducible] def C119 : Ctx := ⟨tab, fun t => memN t cmps, cons119, 9, inl119, 0⟩
theorem consOk119 : ConsOk P C119 := by
  refine consOk_cons (enter_ok (fn := Go.Proofs.Tryz.f120) Go.Proofs.Tryz.func120 (by kernel_rfl) rfl) con120_ok ?_
  refine consOk_cons (enter_ok (fn := Go.Proofs.Tryz.f143) Go.Proofs.Tryz.func143 (by kernel_rfl) rfl) con143_ok ?_
  exact consOk_nil
def ann119 : Nat → List Dir
  | 0 => [.keep [0, 1]]
  | 1 => [.keep [4]]
  | _ => []
def L119 (xs : (List (TColumn).D)) : Loops := fun id m st_ K => match id with
  | _ => False
theorem vc119 (xs : (List (TColumn).D)) (K : AV → Hp → Prop) : awp C119 (L119 xs) ann119 (bodyOf Go.Proofs.Tryz.f119) ⟨argEnv 0 [.brw TColumn xs, .fn 120 []], []⟩ (outK tab Go.Proofs.Tryz.f119.results.toList (hasBox []) (resK (.dat Ty.bool) K)) =
  ((Sm (Ty.sl TColumn) xs) ∧ K (.data Ty.bool (decide ((0 : Int) ≤ (M.idx (t := TColumn) (fun e => !M.columnOk e) xs)))) []) := by kernel_rfl
theorem con119_ok : ConOk P 119 c119 := by
  refine con_okR (fn := Go.Proofs.Tryz.f119) (code := bodyOf Go.Proofs.Tryz.f119) (tab_ok tab_check cmp_check) consOk119 mixed Go.Proofs.Tryz.func119 rfl rfl fun args hp K h0 => ?_
  obtain ⟨a0, a1, rfl, rfl, h1⟩ := args2_elim h0
  obtain ⟨xs, rfl, h2⟩ := withB_elim h1
  obtain ⟨cs1, rfl, h3⟩ := withF_elim h2
  obtain ⟨rfl, h4⟩ := caps0_elim h3
  obtain ⟨h_xs, hK⟩ := h4
  have h : ok (F.ContainsFunc_impl_ColumnsOk_1 xs) (fun r => K (.data Ty.bool r) []) := ok_of_eq (F.ContainsFunc_impl_ColumnsOk_1_eq xs h_xs) hK
  refine ⟨⟨show (2 : Nat) ≤ 9 by decide, show (2 : Nat) ≤ 1000000 by decide⟩, ann119, (L119 xs), (.dat Ty.bool), (no_loops (by kernel_rfl)), ?_⟩
  · rw [vc119 xs K]
    exact ⟨h_xs, (have h := ok_ret h; h)⟩

/-! 87: loop.example/tablehouse/impl.ColumnsOk -/
def c87 : Con := ⟨[.dat (Ty.sl TColumn)], fun args hp K => args1 (fun a0 => withD (Ty.sl TColumn) a0 fun columns => (Sm (Ty.sl TColumn) columns) ∧ K (.data Ty.bool (M.columnsOk columns)) []) args hp⟩
def cons87 : Cons := [(119, c119)]
def inl87 : List (Nat × Inl) := []
@[reducible] def C87 : Ctx := ⟨tab, fun t => memN t cmps, cons87, 11, inl87, 0⟩
theorem consOk87 : ConsOk P C87 := by
  refine consOk_cons (enter_ok (fn := Go.Proofs.Tryz.f119) Go.Proofs.Tryz.func119 (by kernel_rfl) rfl) con119_ok ?_
  exact consOk_nil
def ann87 : Nat → List Dir
  | 0 => [.keep [0]]
  | 1 => [.keep [2]]
  | _ => []
def L87 (columns : (List (TColumn).D)) : Loops := fun id m st_ K => match id with
  | _ => False
theorem vc87 (columns : (List (TColumn).D)) (K : AV → Hp → Prop) : awp C87 (L87 columns) ann87 (bodyOf Go.Proofs.Tryz.f87) ⟨argEnv 0 [.data (Ty.sl TColumn) columns], []⟩ (outK tab Go.Proofs.Tryz.f87.results.toList (hasBox []) (resK (.dat Ty.bool) K)) =
  (cond ((decide ((columns.length : Int) ≤ (4 : Int))) == true) ((Sm (Ty.sl TColumn) columns) ∧ K (.data Ty.bool (!(List.any columns (fun e => !M.columnOk e)))) []) (K (.data Ty.bool false) [])) := by kernel_rfl
theorem con87_ok : ConOk P 87 c87 := by
  refine con_okR (fn := Go.Proofs.Tryz.f87) (code := bodyOf Go.Proofs.Tryz.f87) (tab_ok tab_check cmp_check) consOk87 mixed Go.Proofs.Tryz.func87 rfl rfl fun args hp K h0 => ?_
  obtain ⟨a0, rfl, rfl, h1⟩ := args1_elim h0
  obtain ⟨columns, rfl, h2⟩ := withD_elim h1
  obtain ⟨h_columns, hK⟩ := h2
  have h : ok (F.impl_ColumnsOk columns) (fun r => K (.data Ty.bool r) []) := ok_of_eq (F.impl_ColumnsOk_eq columns h_columns) hK
  refine ⟨⟨show (1 : Nat) ≤ 11 by decide, show (1 : Nat) ≤ 1000000 by decide⟩, ann87, (L87 columns), (.dat Ty.bool), (no_loops (by kernel_rfl)), ?_⟩
  · rw [vc87 columns K]
    exact (ok_cond h (fun b_1 h => ⟨h_columns, (have h := ok_ret h; h)⟩) (fun b_1 h => (have h := ok_ret h; h)))

/-! 155: slices.Clip[[]loop.example/tablehouse/impl.Value,loop.example/tablehouse/impl.Value] -/
def c155 : Con := ⟨[.dat (Ty.sl TValue)], fun args hp K => args1 (fun a0 => withD (Ty.sl TValue) a0 fun xs => (Sm (Ty.sl TValue) xs) ∧ (∀ r : (List (TValue).D), r = (xs) → K (.data (Ty.sl TValue) r) [])) args hp⟩
def cons155 : Cons := []
def inl155 : List (Nat × Inl) := []
@[reducible] def C155 : Ctx := ⟨tab, fun t => memN t cmps, cons155, 9, inl155, 0⟩
theorem consOk155 : ConsOk P C155 := by
  exact consOk_nil
def ann155 : Nat → List Dir
  | 0 => [.keep [0]]
  | 1 => [.keep [2]]
  | _ => []
def L155 (xs : (List (TValue).D)) : Loops := fun id m st_ K => match id with
  | _ => False
theorem vc155 (xs : (List (TValue).D)) (K : AV → Hp → Prop) : awp C155 (L155 xs) ann155 (bodyOf Go.Proofs.Tryz.f155) ⟨argEnv 0 [.data (Ty.sl TValue) xs], []⟩ (outK tab Go.Proofs.Tryz.f155.results.toList (hasBox []) (resK (.dat (Ty.sl TValue)) K)) =
  ((0 ≤ (0 : Int)) ∧ ((0 : Int) ≤ (xs.length : Int)) ∧ ((xs.length : Int) ≤ (xs.length : Int)) ∧ ((xs.length : Int) = (xs.length : Int)) ∧ K (.data (Ty.sl TValue) (cutList xs (some ((0 : Int), (xs.length : Int))))) []) := by kernel_rfl
theorem con155_ok : ConOk P 155 c155 := by
  refine con_okR (fn := Go.Proofs.Tryz.f155) (code := bodyOf Go.Proofs.Tryz.f155) (tab_ok tab_check cmp_check) consOk155 mixed Go.Proofs.Tryz.func155 rfl rfl fun args hp K h0 => ?_
  obtain ⟨a0, rfl, rfl, h1⟩ := args1_elim h0
  obtain ⟨xs, rfl, h2⟩ := withD_elim h1
  obtain ⟨h_xs, hK⟩ := h2
  have h : ok (F.Clip_TValue xs) (fun r => K (.data (Ty.sl TValue) r) []) := ok_of_eq (F.Clip_TValue_eq xs h_xs) (hK _ rfl)
  refine ⟨⟨show (1 : Nat) ≤ 9 by decide, show (1 : Nat) ≤ 1000000 by decide⟩, ann155, (L155 xs), (.dat (Ty.sl TValue)), (no_loops (by kernel_rfl)), ?_⟩
  · rw [vc155 xs K]
    exact ⟨(Int.natCast_nonneg 0), ⟨(Int.natCast_nonneg _), ⟨(Int.le_refl _), ⟨rfl, (have h := ok_ret h; h)⟩⟩⟩⟩

/-! 129: loop.example/tablehouse/impl.clone[loop.example/tablehouse/impl.Value] -/
def c129 : Con := ⟨[.dat (Ty.sl TValue)], fun args hp K => args1 (fun a0 => withD (Ty.sl TValue) a0 fun xs => (Sm (Ty.sl TValue) xs) ∧ (∀ r : (List (TValue).D), r = (xs) → K (.data (Ty.sl TValue) r) [])) args hp⟩
def cons129 : Cons := [(155, c155)]
def inl129 : List (Nat × Inl) := []
@[reducible] def C129 : Ctx := ⟨tab, fun t => memN t cmps, cons129, 9, inl129, 0⟩
theorem consOk129 : ConsOk P C129 := by
  refine consOk_cons (enter_ok (fn := Go.Proofs.Tryz.f155) Go.Proofs.Tryz.func155 (by kernel_rfl) rfl) con155_ok ?_
  exact consOk_nil
def ann129 : Nat → List Dir
  | 0 => [.keep [0]]
  | 1 => [.keep [0, 5]]
  | 2 => [.keep [2]]
  | 3 => [.keep [2]]
  | _ => []
def L129 (xs : (List (TValue).D)) : Loops := fun id m st_ K => match id with
  | _ => False
theorem vc129 (xs : (List (TValue).D)) (K : AV → Hp → Prop) : awp C129 (L129 xs) ann129 (bodyOf Go.Proofs.Tryz.f129) ⟨argEnv 0 [.data (Ty.sl TValue) xs], []⟩ (outK tab Go.Proofs.Tryz.f129.results.toList (hasBox []) (resK (.dat (Ty.sl TValue)) K)) =
  (cond (decide ((xs.length : Int) = (0 : Int))) (K (.data (Ty.sl TValue) []) []) ((xs.length * 32 ≤ lim) ∧ (Sm (Ty.sl TValue) xs) ∧ (∀ r_3_2 : (List (TValue).D), r_3_2 = (xs) → K (.data (Ty.sl TValue) r_3_2) []))) := by kernel_rfl
theorem con129_ok : ConOk P 129 c129 := by
  refine con_okR (fn := Go.Proofs.Tryz.f129) (code := bodyOf Go.Proofs.Tryz.f129) (tab_ok tab_check cmp_check) consOk129 mixed Go.Proofs.Tryz.func129 rfl rfl fun args hp K h0 => ?_
  obtain ⟨a0, rfl, rfl, h1⟩ := args1_elim h0
  obtain ⟨xs, rfl, h2⟩ := withD_elim h1
  obtain ⟨h_xs, hK⟩ := h2
  have h : ok (F.clone_TValue xs) (fun r => K (.data (Ty.sl TValue) r) []) := ok_of_eq (F.clone_TValue_eq xs h_xs) (hK _ rfl)
  refine ⟨⟨show (1 : Nat) ≤ 9 by decide, show (1 : Nat) ≤ 1000000 by decide⟩, ann129, (L129 xs), (.dat (Ty.sl TValue)), (no_loops (by kernel_rfl)), ?_⟩
  · rw [vc129 xs K]
    exact (ok_cond h (fun b_1 h => (have h := ok_ret h; h)) (fun b_1 h => ⟨(sm_lim h_xs rfl), ⟨h_xs, (fun r_3_2 e_r_3_2 => have h := ok_let h r_3_2 e_r_3_2; (have h := ok_ret h; h))⟩⟩))

/-! 94: loop.example/tablehouse/impl.taken -/
def c94 : Con := ⟨[.dat (Ty.sl TValue), .dat (Ty.sl (Ty.int .i64))], fun args hp K => args2 (fun a0 a1 => withD (Ty.sl TValue) a0 fun row => withD (Ty.sl (Ty.int .i64)) a1 fun list => (Sm (Ty.sl TValue) row) ∧ (Sm (Ty.sl (Ty.int .i64)) list) ∧ (M.inRow row list) ∧ (∀ r : (List (TValue).D), r = (M.taken row list) → K (.data (Ty.sl TValue) r) [])) args hp⟩
def cons94 : Cons := [(129, c129)]
def inl94 : List (Nat × Inl) := []
@[reducible] def C94 : Ctx := ⟨tab, fun t => memN t cmps, cons94, 24, inl94, 0⟩
theorem consOk94 : ConsOk P C94 := by
  refine consOk_cons (enter_ok (fn := Go.Proofs.Tryz.f129) Go.Proofs.Tryz.func129 (by kernel_rfl) rfl) con129_ok ?_
  exact consOk_nil
def ann94 : Nat → List Dir
  | 0 => [.keep [0, 1]]
  | 1 => [.keep [0, 1, 5]]
  | 2 => [.keep [0, 5, 8, 9, 10]]
  | 3 => [.keep [0, 5, 8, 9, 10, 11]]
  | 4 => [.keep [0, 5, 7, 8, 9, 10]]
  | 5 => [.keep [0, 5, 8, 9, 10]]
  | 6 => [.keep [0, 5, 8, 9, 10]]
  | 7 => [.keep [4]]
  | 100000 => [.keep [5]]
  | _ => []
@[reducible] def LP94_0 (row : (List (TValue).D)) (list : (List Int)) (m : Nat) (st_ : St) (K : X → St → Prop) : Prop := (True) ∧ LoopE (t := (Ty.int .i64)) (fun (i0 : Int) (v0 : (List (TValue).D)) => (⟨[(0, .data (Ty.sl TValue) row), (5, .own 5 none), (8, .data (Ty.sl (Ty.int .i64)) list), (9, .data (Ty.int .i64) (list.length : Int)), (10, .data (Ty.int .i64) i0)], [(5, .arr TValue v0)]⟩ : St)) list (F.impl_taken_l0 row list) (fun v0 : (List (TValue).D) => True) (outD (fun v0 : (List (TValue).D) => True → K (.exit 0) (⟨[(5, .own 5 none)], [(5, .arr TValue v0)]⟩ : St)) (fun _ => False)) m st_
def L94 (row : (List (TValue).D)) (list : (List Int)) : Loops := fun id m st_ K => match id with
  | 0 => LP94_0 row list m st_ K
  | _ => False
theorem vc94 (row : (List (TValue).D)) (list : (List Int)) (K : AV → Hp → Prop) : awp C94 (L94 row list) ann94 (bodyOf Go.Proofs.Tryz.f94) ⟨argEnv 0 [.data (Ty.sl TValue) row, .data (Ty.sl (Ty.int .i64)) list], []⟩ (outK tab Go.Proofs.Tryz.f94.results.toList (hasBox []) (resK (.dat (Ty.sl TValue)) K)) =
  ((∃ m_, (True) ∧ LoopE (t := (Ty.int .i64)) (fun (i0 : Int) (v0 : (List (TValue).D)) => (⟨[(0, .data (Ty.sl TValue) row), (5, .own 5 none), (8, .data (Ty.sl (Ty.int .i64)) list), (9, .data (Ty.int .i64) (list.length : Int)), (10, .data (Ty.int .i64) i0)], [(5, .arr TValue v0)]⟩ : St)) list (F.impl_taken_l0 row list) (fun v0 : (List (TValue).D) => True) (outD (fun v0 : (List (TValue).D) => True → (Sm (Ty.sl TValue) v0) ∧ (∀ r_7_1 : (List (TValue).D), r_7_1 = (v0) → K (.data (Ty.sl TValue) r_7_1) [])) (fun _ => False)) m_ (⟨[(0, .data (Ty.sl TValue) row), (5, .own 5 none), (8, .data (Ty.sl (Ty.int .i64)) list), (9, .data (Ty.int .i64) (list.length : Int)), (10, .data (Ty.int .i64) (0 : Int))], [(5, .arr TValue [])]⟩ : St))) := by kernel_rfl
theorem lvc94_0 (row : (List (TValue).D)) (list : (List Int))  (i0 : Int) (v0 : (List (TValue).D)) (m : Nat) (K : X → St → Prop) : awp C94 (L94 row list) ann94 (loopAt (bodyOf Go.Proofs.Tryz.f94) 0) (⟨[(0, .data (Ty.sl TValue) row), (5, .own 5 none), (8, .data (Ty.sl (Ty.int .i64)) list), (9, .data (Ty.int .i64) (list.length : Int)), (10, .data (Ty.int .i64) i0)], [(5, .arr TValue v0)]⟩ : St) (thenW (fun s' => ∃ m', m' < m ∧ (L94 row list) 0 m' s' K) (exitN 0 (ann94 (behind 0)) K)) =
  (cond (decide (i0 < (list.length : Int))) ((0 ≤ i0) ∧ (i0 < (list.length : Int)) ∧ (0 ≤ (nth (t := (Ty.int .i64)) list i0)) ∧ ((nth (t := (Ty.int .i64)) list i0) < (row.length : Int)) ∧ ((v0.length + [(nth (t := TValue) row (nth (t := (Ty.int .i64)) list i0))].length) * 32 ≤ lim) ∧ (∃ m_, m_ < m ∧ (L94 row list) 0 m_ (⟨[(0, .data (Ty.sl TValue) row), (5, .own 5 none), (8, .data (Ty.sl (Ty.int .i64)) list), (9, .data (Ty.int .i64) (list.length : Int)), (10, .data (Ty.int .i64) (wrap64 (i0 + (1 : Int))))], [(5, .arr TValue (v0 ++ [(nth (t := TValue) row (nth (t := (Ty.int .i64)) list i0))]))]⟩ : St) K)) (K (.exit 0) (⟨[(5, .own 5 none)], [(5, .arr TValue v0)]⟩ : St))) := by kernel_rfl
theorem con94_ok : ConOk P 94 c94 := by
  refine con_okR (fn := Go.Proofs.Tryz.f94) (code := bodyOf Go.Proofs.Tryz.f94) (tab_ok tab_check cmp_check) consOk94 mixed Go.Proofs.Tryz.func94 rfl rfl fun args hp K h0 => ?_
  obtain ⟨a0, a1, rfl, rfl, h1⟩ := args2_elim h0
  obtain ⟨row, rfl, h2⟩ := withD_elim h1
  obtain ⟨list, rfl, h3⟩ := withD_elim h2
  obtain ⟨h_row, h_list, p0, hK⟩ := h3
  have h : ok (F.impl_taken row list) (fun r => K (.data (Ty.sl TValue) r) []) := ok_of_eq (F.impl_taken_eq row list h_row h_list p0) (hK _ rfl)
  refine ⟨⟨show (2 : Nat) ≤ 24 by decide, show (2 : Nat) ≤ 1000000 by decide⟩, ann94, (L94 row list), (.dat (Ty.sl TValue)), (loopsN1 (i0 := 0) (by kernel_rfl) ?_), ?_⟩
  · clear h
    intro m_ s_ K_ h
    obtain ⟨hc0, i0, v0, rfl, hl0, rfl, hv0, h⟩ := (show LP94_0 row list m_ s_ K_ from h)
    rw [lvc94_0 row list i0 v0 _ K_]
    exact (loopE_step (t := (Ty.int .i64)) hl0 h (fun ht0 h => ⟨hl0, ⟨ht0, ⟨(ok_guard h).1, have g_17 := (ok_guard h).1; have h := (ok_guard h).2; ⟨(ok_guard h).1, have g_18 := (ok_guard h).1; have h := (ok_guard h).2; ⟨(ok_guard h).1, have g_19 := (ok_guard h).1; have h := (ok_guard h).2; (loopE_next (t := (Ty.int .i64)) (fun m hm => (show LP94_0 row list m _ _ from ⟨hc0, hm⟩)) (v0 ++ [(nth (t := TValue) row (nth (t := (Ty.int .i64)) list i0))]) rfl hl0 ht0 (sm_len h_list) trivial (have h := ok_ret h; h))⟩⟩⟩⟩⟩) (fun h => (h trivial)))
  · rw [vc94 row list K]
    exact (loopE_start (t := (Ty.int .i64)) (fun m hm => ⟨trivial, hm⟩) [] rfl trivial (ok_then h (fun v0 h hv0 => ⟨(ok_guard h).1, have g_20 := (ok_guard h).1; have h := (ok_guard h).2; (fun r_7_1 e_r_7_1 => have h := ok_let h r_7_1 e_r_7_1; (have h := ok_ret h; h))⟩) (fun _ h => h.elim)))

/-! 99: slices.Equal[[]loop.example/tablehouse/impl.Value,loop.example/tablehouse/impl.Value] -/
def c99 : Con := ⟨[.lent TValue, .lent TValue], fun args hp K => args2 (fun a0 a1 => withB TValue a0 fun xs => withB TValue a1 fun ys => (Sm (Ty.sl TValue) xs) ∧ (Sm (Ty.sl TValue) ys) ∧ K (.data Ty.bool (decide (xs = ys))) []) args hp⟩
def cons99 : Cons := []
def inl99 : List (Nat × Inl) := []
@[reducible] def C99 : Ctx := ⟨tab, fun t => memN t cmps, cons99, 26, inl99, 0⟩
theorem consOk99 : ConsOk P C99 := by
  exact consOk_nil
def ann99 : Nat → List Dir
  | 0 => [.keep [0, 1]]
  | 1 => [.keep [0, 1, 10]]
  | 2 => [.keep [4]]
  | 3 => [.keep [0, 1, 12, 13]]
  | 4 => [.keep [0, 1, 12, 13, 14]]
  | 5 => [.keep [0, 1, 5, 12, 13]]
  | 6 => [.keep [0, 1, 12, 13, 24]]
  | 7 => [.keep [4]]
  | 8 => [.keep [0, 1, 12, 13]]
  | 9 => [.keep [4]]
  | 100000 => [.keep []]
  | _ => []
@[reducible] def LP99_0 (xs : (List (TValue).D)) (ys : (List (TValue).D)) (m : Nat) (st_ : St) (K : X → St → Prop) : Prop := (True) ∧ LoopI (fun (i0 : Int) (v0 : Unit) => (⟨[(0, .brw TValue xs), (1, .brw TValue ys), (12, .data (Ty.int .i64) (xs.length : Int)), (13, .data (Ty.int .i64) i0)], []⟩ : St)) (0 : Int) (xs.length : Int) (F.Equal_TValue_l0 xs ys) (fun v0 : Unit => True) (outD (fun v0 : Unit => True → K (.exit 0) (⟨[], []⟩ : St)) (fun q0 : Unit => K .ret (⟨[(4, .data Ty.bool false)], []⟩ : St))) m st_
def L99 (xs : (List (TValue).D)) (ys : (List (TValue).D)) : Loops := fun id m st_ K => match id with
  | 0 => LP99_0 xs ys m st_ K
  | _ => False
theorem vc99 (xs : (List (TValue).D)) (ys : (List (TValue).D)) (K : AV → Hp → Prop) : awp C99 (L99 xs ys) ann99 (bodyOf Go.Proofs.Tryz.f99) ⟨argEnv 0 [.brw TValue xs, .brw TValue ys], []⟩ (outK tab Go.Proofs.Tryz.f99.results.toList (hasBox []) (resK (.dat Ty.bool) K)) =
  (cond (!decide ((xs.length : Int) = (ys.length : Int))) (K (.data Ty.bool false) []) ((∃ m_, (True) ∧ LoopI (fun (i0 : Int) (v0 : Unit) => (⟨[(0, .brw TValue xs), (1, .brw TValue ys), (12, .data (Ty.int .i64) (xs.length : Int)), (13, .data (Ty.int .i64) i0)], []⟩ : St)) (0 : Int) (xs.length : Int) (F.Equal_TValue_l0 xs ys) (fun v0 : Unit => True) (outD (fun v0 : Unit => True → K (.data Ty.bool true) []) (fun q0 : Unit => K (.data Ty.bool false) [])) m_ (⟨[(0, .brw TValue xs), (1, .brw TValue ys), (12, .data (Ty.int .i64) (xs.length : Int)), (13, .data (Ty.int .i64) (0 : Int))], []⟩ : St)))) := by kernel_rfl
theorem lvc99_0 (xs : (List (TValue).D)) (ys : (List (TValue).D))  (i0 : Int) (v0 : Unit) (m : Nat) (K : X → St → Prop) : awp C99 (L99 xs ys) ann99 (loopAt (bodyOf Go.Proofs.Tryz.f99) 0) (⟨[(0, .brw TValue xs), (1, .brw TValue ys), (12, .data (Ty.int .i64) (xs.length : Int)), (13, .data (Ty.int .i64) i0)], []⟩ : St) (thenW (fun s' => ∃ m', m' < m ∧ (L99 xs ys) 0 m' s' K) (exitN 0 (ann99 (behind 0)) K)) =
  (cond (decide (i0 < (xs.length : Int))) ((0 ≤ i0) ∧ (i0 < (xs.length : Int)) ∧ (0 ≤ i0) ∧ (i0 < (ys.length : Int)) ∧ cond (!(Ty.beq TValue (nth (t := TValue) xs i0) (nth (t := TValue) ys i0))) (K .ret (⟨[(4, .data Ty.bool false)], []⟩ : St)) ((∃ m_, m_ < m ∧ (L99 xs ys) 0 m_ (⟨[(0, .brw TValue xs), (1, .brw TValue ys), (12, .data (Ty.int .i64) (xs.length : Int)), (13, .data (Ty.int .i64) (wrap64 (i0 + (1 : Int))))], []⟩ : St) K))) (K (.exit 0) (⟨[], []⟩ : St))) := by kernel_rfl
theorem con99_ok : ConOk P 99 c99 := by
  refine con_okR (fn := Go.Proofs.Tryz.f99) (code := bodyOf Go.Proofs.Tryz.f99) (tab_ok tab_check cmp_check) consOk99 mixed Go.Proofs.Tryz.func99 rfl rfl fun args hp K h0 => ?_
  obtain ⟨a0, a1, rfl, rfl, h1⟩ := args2_elim h0
  obtain ⟨xs, rfl, h2⟩ := withB_elim h1
  obtain ⟨ys, rfl, h3⟩ := withB_elim h2
  obtain ⟨h_xs, h_ys, hK⟩ := h3
  have h : ok (F.Equal_TValue xs ys) (fun r => K (.data Ty.bool r) []) := ok_of_eq (F.Equal_TValue_eq xs ys h_xs h_ys) hK
  refine ⟨⟨show (2 : Nat) ≤ 26 by decide, show (2 : Nat) ≤ 1000000 by decide⟩, ann99, (L99 xs ys), (.dat Ty.bool), (loopsN1 (i0 := 0) (by kernel_rfl) ?_), ?_⟩
  · clear h
    intro m_ s_ K_ h
    obtain ⟨hc0, i0, v0, rfl, hl0, rfl, hv0, h⟩ := (show LP99_0 xs ys m_ s_ K_ from h)
    rw [lvc99_0 xs ys i0 v0 _ K_]
    exact (loopI_step h (fun ht0 h => ⟨hl0, ⟨ht0, ⟨hl0, ⟨(ok_guard h).1, have g_12 := (ok_guard h).1; have h := (ok_guard h).2; (ok_cond h (fun b_13 h => (have h := ok_ret h; h)) (fun b_13 h => (loopI_next (fun m hm => (show LP99_0 xs ys m _ _ from ⟨hc0, hm⟩)) () rfl hl0 low0 ht0 (sm_len h_xs) trivial (have h := ok_ret h; h))))⟩⟩⟩⟩) (fun h => (h trivial)))
  · rw [vc99 xs ys K]
    exact (ok_cond h (fun b_1 h => (have h := ok_ret h; h)) (fun b_1 h => (loopI_start (fun m hm => ⟨trivial, hm⟩) (0 : Int) () rfl (Int.natCast_nonneg 0) trivial (ok_then h (fun v0 h hv0 => (have h := ok_ret h; h)) (fun q0 h => (have h := ok_ret h; h))))))

/-! 98: (loop.example/tablehouse/impl.Bond).breaks$2$1 -/
def c98 : Con := ⟨[.dat (Ty.sl TValue), .any, .any], fun args hp K => args3 (fun a0 a1 a2 => withD (Ty.sl TValue) a0 fun r => withR (Ty.sl (Ty.int .i64)) a1 fun list => withR (Ty.sl TValue) a2 fun key => (Sm (Ty.sl TValue) r) ∧ (Sm (Ty.sl (Ty.int .i64)) list) ∧ (Sm (Ty.sl TValue) key) ∧ (M.inRow r list) ∧ K (.data Ty.bool (decide (M.taken r list = key))) []) args hp⟩
def cons98 : Cons := [(94, c94), (99, c99)]
def inl98 : List (Nat × Inl) := []
@[reducible] def C98 : Ctx := ⟨tab, fun t => memN t cmps, cons98, 10, inl98, 0⟩
theorem consOk98 : ConsOk P C98 := by
  refine consOk_cons (enter_ok (fn := Go.Proofs.Tryz.f94) Go.Proofs.Tryz.func94 (by kernel_rfl) rfl) con94_ok ?_
  refine consOk_cons (enter_ok (fn := Go.Proofs.Tryz.f99) Go.Proofs.Tryz.func99 (by kernel_rfl) rfl) con99_ok ?_
  exact consOk_nil
def ann98 : Nat → List Dir
  | 0 => [.keep [0, 1, 2]]
  | 1 => [.keep [4]]
  | _ => []
def L98 (r : (List (TValue).D)) (list : (List Int)) (key : (List (TValue).D)) : Loops := fun id m st_ K => match id with
  | _ => False
theorem vc98 (r : (List (TValue).D)) (list : (List Int)) (key : (List (TValue).D)) (K : AV → Hp → Prop) : awp C98 (L98 r list key) ann98 (bodyOf Go.Proofs.Tryz.f98) ⟨argEnv 0 [.data (Ty.sl TValue) r, .ref (.data (Ty.sl (Ty.int .i64)) list), .ref (.data (Ty.sl TValue) key)], []⟩ (outK tab Go.Proofs.Tryz.f98.results.toList (hasBox []) (resK (.dat Ty.bool) K)) =
  ((Sm (Ty.sl TValue) r) ∧ (Sm (Ty.sl (Ty.int .i64)) list) ∧ (M.inRow r list) ∧ (∀ r_1_2 : (List (TValue).D), r_1_2 = (M.taken r list) → (Sm (Ty.sl TValue) r_1_2) ∧ (Sm (Ty.sl TValue) key) ∧ K (.data Ty.bool (decide (r_1_2 = key))) [])) := by kernel_rfl
theorem con98_ok : ConOk P 98 c98 := by
  refine con_okR (fn := Go.Proofs.Tryz.f98) (code := bodyOf Go.Proofs.Tryz.f98) (tab_ok tab_check cmp_check) consOk98 mixed Go.Proofs.Tryz.func98 rfl rfl fun args hp K h0 => ?_
  obtain ⟨a0, a1, a2, rfl, rfl, h1⟩ := args3_elim h0
  obtain ⟨r, rfl, h2⟩ := withD_elim h1
  obtain ⟨list, rfl, h3⟩ := withR_elim h2
  obtain ⟨key, rfl, h4⟩ := withR_elim h3
  obtain ⟨h_r, h_list, h_key, p0, hK⟩ := h4
  have h : ok (F.impl_Bond_breaks_2_1 r list key) (fun r => K (.data Ty.bool r) []) := ok_of_eq (F.impl_Bond_breaks_2_1_eq r list key h_r h_list h_key p0) hK
  refine ⟨⟨show (3 : Nat) ≤ 10 by decide, show (3 : Nat) ≤ 1000000 by decide⟩, ann98, (L98 r list key), (.dat Ty.bool), (no_loops (by kernel_rfl)), ?_⟩
  · rw [vc98 r list key K]
    exact ⟨h_r, ⟨h_list, ⟨p0, (fun r_1_2 e_r_1_2 => have h := ok_let h r_1_2 e_r_1_2; ⟨(sm_of_eq e_r_1_2 (M.taken_sm h_r h_list)), ⟨h_key, (have h := ok_ret h; h)⟩⟩)⟩⟩⟩

/-! 96: (loop.example/tablehouse/impl.Bond).breaks$1 -/
def c96 : Con := ⟨[.dat TValue], fun args hp K => args1 (fun a0 => withD TValue a0 fun v => (Sm TValue v) ∧ K (.data Ty.bool (decide (v.1 = 0))) []) args hp⟩
def cons96 : Cons := []
def inl96 : List (Nat × Inl) := []
@[reducible] def C96 : Ctx := ⟨tab, fun t => memN t cmps, cons96, 6, inl96, 0⟩
theorem consOk96 : ConsOk P C96 := by
  exact consOk_nil
def ann96 : Nat → List Dir
  | 0 => [.fixRow 1 TValue, .keep [1]]
  | 1 => [.keep [2]]
  | _ => []
def L96 (v : (TValue).D) : Loops := fun id m st_ K => match id with
  | _ => False
theorem vc96 (v : (TValue).D) (K : AV → Hp → Prop) : awp C96 (L96 v) ann96 (bodyOf Go.Proofs.Tryz.f96) ⟨argEnv 0 [.data TValue v], []⟩ (outK tab Go.Proofs.Tryz.f96.results.toList (hasBox []) (resK (.dat Ty.bool) K)) =
  (K (.data Ty.bool (decide (v.1 = (0 : Int)))) []) := by kernel_rfl
theorem con96_ok : ConOk P 96 c96 := by
  refine con_okR (fn := Go.Proofs.Tryz.f96) (code := bodyOf Go.Proofs.Tryz.f96) (tab_ok tab_check cmp_check) consOk96 mixed Go.Proofs.Tryz.func96 rfl rfl fun args hp K h0 => ?_
  obtain ⟨a0, rfl, rfl, h1⟩ := args1_elim h0
  obtain ⟨v, rfl, h2⟩ := withD_elim h1
  obtain ⟨h_v, hK⟩ := h2
  have h : ok (F.impl_Bond_breaks_1 v) (fun r => K (.data Ty.bool r) []) := ok_of_eq (F.impl_Bond_breaks_1_eq v h_v) hK
  refine ⟨⟨show (1 : Nat) ≤ 6 by decide, show (1 : Nat) ≤ 1000000 by decide⟩, ann96, (L96 v), (.dat Ty.bool), (no_loops (by kernel_rfl)), ?_⟩
  · rw [vc96 v K]
    exact (have h := ok_ret h; h)

/-! 163: loop.example/tablehouse/impl.letters -/
def c163 : Con := ⟨[.dat Ty.str], fun args hp K => args1 (fun a0 => withD Ty.str a0 fun s => (Sm Ty.str s) ∧ K (.data Ty.bool (M.lower (byteInts s))) []) args hp⟩
def cons163 : Cons := [(89, c89)]
def inl163 : List (Nat × Inl) := []
@[reducible] def C163 : Ctx := ⟨tab, fun t => memN t cmps, cons163, 17, inl163, 0⟩
theorem consOk163 : ConsOk P C163 := by
  refine consOk_cons (enter_ok (fn := Go.Proofs.Tryz.f89) Go.Proofs.Tryz.func89 (by kernel_rfl) rfl) con89_ok ?_
  exact consOk_nil
def ann163 : Nat → List Dir
  | 0 => [.keep [0]]
  | 1 => [.keep [6, 7, 8]]
  | 2 => [.keep [6, 7, 8, 9]]
  | 3 => [.keep [4, 6, 7, 8]]
  | 4 => [.keep [6, 7, 8, 15]]
  | 5 => [.keep [2]]
  | 6 => [.keep [6, 7, 8]]
  | 7 => [.keep [2]]
  | 100000 => [.keep []]
  | _ => []
@[reducible] def LP163_0 (s : ByteArray) (m : Nat) (st_ : St) (K : X → St → Prop) : Prop := (True) ∧ LoopE (t := (Ty.int .u8)) (fun (i0 : Int) (v0 : Unit) => (⟨[(6, .data (Ty.sl (Ty.int .u8)) (byteInts s)), (7, .data (Ty.int .i64) ((byteInts s).length : Int)), (8, .data (Ty.int .i64) i0)], []⟩ : St)) (byteInts s) (F.impl_letters_l0 s) (fun v0 : Unit => True) (outD (fun v0 : Unit => True → K (.exit 0) (⟨[], []⟩ : St)) (fun q0 : Unit => K .ret (⟨[(2, .data Ty.bool false)], []⟩ : St))) m st_
def L163 (s : ByteArray) : Loops := fun id m st_ K => match id with
  | 0 => LP163_0 s m st_ K
  | _ => False
theorem vc163 (s : ByteArray) (K : AV → Hp → Prop) : awp C163 (L163 s) ann163 (bodyOf Go.Proofs.Tryz.f163) ⟨argEnv 0 [.data Ty.str s], []⟩ (outK tab Go.Proofs.Tryz.f163.results.toList (hasBox []) (resK (.dat Ty.bool) K)) =
  ((∃ m_, (True) ∧ LoopE (t := (Ty.int .u8)) (fun (i0 : Int) (v0 : Unit) => (⟨[(6, .data (Ty.sl (Ty.int .u8)) (byteInts s)), (7, .data (Ty.int .i64) ((byteInts s).length : Int)), (8, .data (Ty.int .i64) i0)], []⟩ : St)) (byteInts s) (F.impl_letters_l0 s) (fun v0 : Unit => True) (outD (fun v0 : Unit => True → K (.data Ty.bool true) []) (fun q0 : Unit => K (.data Ty.bool false) [])) m_ (⟨[(6, .data (Ty.sl (Ty.int .u8)) (byteInts s)), (7, .data (Ty.int .i64) ((byteInts s).length : Int)), (8, .data (Ty.int .i64) (0 : Int))], []⟩ : St))) := by kernel_rfl
theorem lvc163_0 (s : ByteArray)  (i0 : Int) (v0 : Unit) (m : Nat) (K : X → St → Prop) : awp C163 (L163 s) ann163 (loopAt (bodyOf Go.Proofs.Tryz.f163) 0) (⟨[(6, .data (Ty.sl (Ty.int .u8)) (byteInts s)), (7, .data (Ty.int .i64) ((byteInts s).length : Int)), (8, .data (Ty.int .i64) i0)], []⟩ : St) (thenW (fun s' => ∃ m', m' < m ∧ (L163 s) 0 m' s' K) (exitN 0 (ann163 (behind 0)) K)) =
  (cond (decide (i0 < ((byteInts s).length : Int))) ((0 ≤ i0) ∧ (i0 < ((byteInts s).length : Int)) ∧ cond (!(M.inR (wrap64 ((nth (t := (Ty.int .u8)) (byteInts s) i0))) (97 : Int) (122 : Int))) (K .ret (⟨[(2, .data Ty.bool false)], []⟩ : St)) ((∃ m_, m_ < m ∧ (L163 s) 0 m_ (⟨[(6, .data (Ty.sl (Ty.int .u8)) (byteInts s)), (7, .data (Ty.int .i64) ((byteInts s).length : Int)), (8, .data (Ty.int .i64) (wrap64 (i0 + (1 : Int))))], []⟩ : St) K))) (K (.exit 0) (⟨[], []⟩ : St))) := by kernel_rfl
theorem con163_ok : ConOk P 163 c163 := by
  refine con_okR (fn := Go.Proofs.Tryz.f163) (code := bodyOf Go.Proofs.Tryz.f163) (tab_ok tab_check cmp_check) consOk163 mixed Go.Proofs.Tryz.func163 rfl rfl fun args hp K h0 => ?_
  obtain ⟨a0, rfl, rfl, h1⟩ := args1_elim h0
  obtain ⟨s, rfl, h2⟩ := withD_elim h1
  obtain ⟨h_s, hK⟩ := h2
  have h : ok (F.impl_letters s) (fun r => K (.data Ty.bool r) []) := ok_of_eq (F.impl_letters_eq s h_s) hK
  refine ⟨⟨show (1 : Nat) ≤ 17 by decide, show (1 : Nat) ≤ 1000000 by decide⟩, ann163, (L163 s), (.dat Ty.bool), (loopsN1 (i0 := 0) (by kernel_rfl) ?_), ?_⟩
  · clear h
    intro m_ s_ K_ h
    obtain ⟨hc0, i0, v0, rfl, hl0, rfl, hv0, h⟩ := (show LP163_0 s m_ s_ K_ from h)
    rw [lvc163_0 s i0 v0 _ K_]
    exact (loopE_step (t := (Ty.int .u8)) hl0 h (fun ht0 h => ⟨hl0, ⟨ht0, (ok_cond h (fun b_9 h => (have h := ok_ret h; h)) (fun b_9 h => (loopE_next (t := (Ty.int .u8)) (fun m hm => (show LP163_0 s m _ _ from ⟨hc0, hm⟩)) () rfl hl0 ht0 (sm_len (sm_bytes h_s)) trivial (have h := ok_ret h; h))))⟩⟩) (fun h => (h trivial)))
  · rw [vc163 s K]
    exact (loopE_start (t := (Ty.int .u8)) (fun m hm => ⟨trivial, hm⟩) () rfl trivial (ok_then h (fun v0 h hv0 => (have h := ok_ret h; h)) (fun q0 h => (have h := ok_ret h; h))))

/-! 146: (loop.example/tablehouse/impl.Value).ok -/
def c146 : Con := ⟨[.dat TValue], fun args hp K => args1 (fun a0 => withD TValue a0 fun v => (Sm TValue v) ∧ K (.data Ty.bool (M.valueOk v)) []) args hp⟩
def cons146 : Cons := [(89, c89), (163, c163)]
def inl146 : List (Nat × Inl) := []
@[reducible] def C146 : Ctx := ⟨tab, fun t => memN t cmps, cons146, 46, inl146, 0⟩
theorem consOk146 : ConsOk P C146 := by
  refine consOk_cons (enter_ok (fn := Go.Proofs.Tryz.f89) Go.Proofs.Tryz.func89 (by kernel_rfl) rfl) con89_ok ?_
  refine consOk_cons (enter_ok (fn := Go.Proofs.Tryz.f163) Go.Proofs.Tryz.func163 (by kernel_rfl) rfl) con163_ok ?_
  exact consOk_nil
def ann146 : Nat → List Dir
  | 0 => [.fixRow 1 TValue, .keep [1]]
  | 1 => [.keep [1, 4]]
  | 2 => [.keep [1, 4, 5]]
  | 3 => [.keep [2]]
  | 4 => [.keep [1, 4, 10]]
  | 5 => [.keep [2]]
  | 6 => [.keep [1, 4, 20]]
  | 7 => [.keep [2]]
  | 8 => [.keep [1, 36]]
  | 9 => [.keep [2]]
  | 10 => [.keep [2]]
  | _ => []
def L146 (v : (TValue).D) : Loops := fun id m st_ K => match id with
  | _ => False
theorem vc146 (v : (TValue).D) (K : AV → Hp → Prop) : awp C146 (L146 v) ann146 (bodyOf Go.Proofs.Tryz.f146) ⟨argEnv 0 [.data TValue v], []⟩ (outK tab Go.Proofs.Tryz.f146.results.toList (hasBox []) (resK (.dat Ty.bool) K)) =
  (cond (decide (v.1 = (0 : Int))) (K (.data Ty.bool (Ty.beq TValue v ((0 : Int), ((0 : Int), ((⟨#[]⟩ : ByteArray), ()))))) []) (cond (decide (v.1 = (1 : Int))) (cond ((decide (v.2.2.1 = (⟨#[]⟩ : ByteArray))) == true) (K (.data Ty.bool (M.inR v.2.1 (-9999 : Int) (9999 : Int))) []) (K (.data Ty.bool false) [])) (cond (decide (v.1 = (2 : Int))) (cond ((decide (v.2.1 = (0 : Int))) == true) (cond ((decide ((v.2.2.1.size : Int) ≤ (6 : Int))) == true) ((Sm Ty.str v.2.2.1) ∧ K (.data Ty.bool (M.lower (byteInts v.2.2.1))) []) (K (.data Ty.bool false) [])) (K (.data Ty.bool false) [])) (cond (decide (v.1 = (3 : Int))) (cond ((decide (v.2.2.1 = (⟨#[]⟩ : ByteArray))) == true) (K (.data Ty.bool (M.inR v.2.1 (0 : Int) (1 : Int))) []) (K (.data Ty.bool false) [])) (K (.data Ty.bool false) []))))) := by kernel_rfl
theorem con146_ok : ConOk P 146 c146 := by
  refine con_okR (fn := Go.Proofs.Tryz.f146) (code := bodyOf Go.Proofs.Tryz.f146) (tab_ok tab_check cmp_check) consOk146 mixed Go.Proofs.Tryz.func146 rfl rfl fun args hp K h0 => ?_
  obtain ⟨a0, rfl, rfl, h1⟩ := args1_elim h0
  obtain ⟨v, rfl, h2⟩ := withD_elim h1
  obtain ⟨h_v, hK⟩ := h2
  have h : ok (F.impl_Value_ok v) (fun r => K (.data Ty.bool r) []) := ok_of_eq (F.impl_Value_ok_eq v h_v) hK
  refine ⟨⟨show (1 : Nat) ≤ 46 by decide, show (1 : Nat) ≤ 1000000 by decide⟩, ann146, (L146 v), (.dat Ty.bool), (no_loops (by kernel_rfl)), ?_⟩
  · rw [vc146 v K]
    exact (ok_cond h (fun b_1 h => (have h := ok_ret h; h)) (fun b_1 h => (ok_cond h (fun b_2 h => (ok_cond h (fun b_3 h => (have h := ok_ret h; h)) (fun b_3 h => (have h := ok_ret h; h)))) (fun b_2 h => (ok_cond h (fun b_4 h => (ok_cond h (fun b_5 h => (ok_cond h (fun b_6 h => ⟨h_v.2.2.1, (have h := ok_ret h; h)⟩) (fun b_6 h => (have h := ok_ret h; h)))) (fun b_5 h => (have h := ok_ret h; h)))) (fun b_4 h => (ok_cond h (fun b_7 h => (ok_cond h (fun b_8 h => (have h := ok_ret h; h)) (fun b_8 h => (have h := ok_ret h; h)))) (fun b_7 h => (have h := ok_ret h; h)))))))))

/-! 162: loop.example/tablehouse/impl.RowOk$1 -/
def c162 : Con := ⟨[.dat TValue], fun args hp K => args1 (fun a0 => withD TValue a0 fun v => (Sm TValue v) ∧ K (.data Ty.bool (!M.valueOk v)) []) args hp⟩
def cons162 : Cons := [(146, c146)]
def inl162 : List (Nat × Inl) := []
@[reducible] def C162 : Ctx := ⟨tab, fun t => memN t cmps, cons162, 6, inl162, 0⟩
theorem consOk162 : ConsOk P C162 := by
  refine consOk_cons (enter_ok (fn := Go.Proofs.Tryz.f146) Go.Proofs.Tryz.func146 (by kernel_rfl) rfl) con146_ok ?_
  exact consOk_nil
def ann162 : Nat → List Dir
  | 0 => [.fixRow 1 TValue, .keep [1]]
  | 1 => [.keep [2]]
  | _ => []
def L162 (v : (TValue).D) : Loops := fun id m st_ K => match id with
  | _ => False
theorem vc162 (v : (TValue).D) (K : AV → Hp → Prop) : awp C162 (L162 v) ann162 (bodyOf Go.Proofs.Tryz.f162) ⟨argEnv 0 [.data TValue v], []⟩ (outK tab Go.Proofs.Tryz.f162.results.toList (hasBox []) (resK (.dat Ty.bool) K)) =
  ((Sm TValue v) ∧ K (.data Ty.bool (!(M.valueOk v))) []) := by kernel_rfl
theorem con162_ok : ConOk P 162 c162 := by
  refine con_okR (fn := Go.Proofs.Tryz.f162) (code := bodyOf Go.Proofs.Tryz.f162) (tab_ok tab_check cmp_check) consOk162 mixed Go.Proofs.Tryz.func162 rfl rfl fun args hp K h0 => ?_
  obtain ⟨a0, rfl, rfl, h1⟩ := args1_elim h0
  obtain ⟨v, rfl, h2⟩ := withD_elim h1
  obtain ⟨h_v, hK⟩ := h2
  have h : ok (F.impl_RowOk_1 v) (fun r => K (.data Ty.bool r) []) := ok_of_eq (F.impl_RowOk_1_eq v h_v) hK
  refine ⟨⟨show (1 : Nat) ≤ 6 by decide, show (1 : Nat) ≤ 1000000 by decide⟩, ann162, (L162 v), (.dat Ty.bool), (no_loops (by kernel_rfl)), ?_⟩
  · rw [vc162 v K]
    exact ⟨h_v, (have h := ok_ret h; h)⟩

/-! 130: slices.IndexFunc[[]loop.example/tablehouse/impl.Value,loop.example/tablehouse/impl.Value] -/
def c130 : Con := ⟨[.lent TValue, .any], fun args hp K => (args2 (fun a0 a1 => withB TValue a0 fun xs => withF 96 a1 (caps0 ((Sm (Ty.sl TValue) xs) ∧ K (.data (Ty.int .i64) (M.idx (t := TValue) (fun e => decide (e.1 = 0)) xs)) []))) args hp) ∨ (args2 (fun a0 a1 => withB TValue a0 fun xs => withF 162 a1 (caps0 ((Sm (Ty.sl TValue) xs) ∧ K (.data (Ty.int .i64) (M.idx (t := TValue) (fun e => !M.valueOk e) xs)) []))) args hp)⟩
def cons130 : Cons := [(96, c96), (162, c162)]
def inl130 : List (Nat × Inl) := []
@[reducible] def C130 : Ctx := ⟨tab, fun t => memN t cmps, cons130, 19, inl130, 0⟩
theorem consOk130 : ConsOk P C130 := by
  refine consOk_cons (enter_ok (fn := Go.Proofs.Tryz.f96) Go.Proofs.Tryz.func96 (by kernel_rfl) rfl) con96_ok ?_
  refine consOk_cons (enter_ok (fn := Go.Proofs.Tryz.f162) Go.Proofs.Tryz.func162 (by kernel_rfl) rfl) con162_ok ?_
  exact consOk_nil
def ann130_v0 : Nat → List Dir
  | 0 => [.keep [0, 1]]
  | 1 => [.keep [0, 1, 7, 8]]
  | 2 => [.keep [0, 1, 7, 8, 9]]
  | 3 => [.keep [0, 1, 5, 7, 8]]
  | 4 => [.keep [0, 1, 5, 7, 8, 16]]
  | 5 => [.keep [4]]
  | 6 => [.keep [0, 1, 7, 8]]
  | 7 => [.keep [4]]
  | 100000 => [.keep []]
  | _ => []
@[reducible] def LP130_0_v0 (xs : (List (TValue).D)) (m : Nat) (st_ : St) (K : X → St → Prop) : Prop := (True) ∧ LoopI (fun (i0 : Int) (v0 : Unit) => (⟨[(0, .brw TValue xs), (1, .fn 96 []), (7, .data (Ty.int .i64) (xs.length : Int)), (8, .data (Ty.int .i64) i0)], []⟩ : St)) (0 : Int) (xs.length : Int) (F.IndexFunc_impl_Bond_breaks_1_l0 xs) (fun v0 : Unit => True) (outD (fun v0 : Unit => True → K (.exit 0) (⟨[], []⟩ : St)) (fun q0 : Int => K .ret (⟨[(4, .data (Ty.int .i64) q0)], []⟩ : St))) m st_
def L130_v0 (xs : (List (TValue).D)) : Loops := fun id m st_ K => match id with
  | 0 => LP130_0_v0 xs m st_ K
  | _ => False
theorem vc130_v0 (xs : (List (TValue).D)) (K : AV → Hp → Prop) : awp C130 (L130_v0 xs) ann130_v0 (bodyOf Go.Proofs.Tryz.f130) ⟨argEnv 0 [.brw TValue xs, .fn 96 []], []⟩ (outK tab Go.Proofs.Tryz.f130.results.toList (hasBox []) (resK (.dat (Ty.int .i64)) K)) =
  ((∃ m_, (True) ∧ LoopI (fun (i0 : Int) (v0 : Unit) => (⟨[(0, .brw TValue xs), (1, .fn 96 []), (7, .data (Ty.int .i64) (xs.length : Int)), (8, .data (Ty.int .i64) i0)], []⟩ : St)) (0 : Int) (xs.length : Int) (F.IndexFunc_impl_Bond_breaks_1_l0 xs) (fun v0 : Unit => True) (outD (fun v0 : Unit => True → K (.data (Ty.int .i64) (-1 : Int)) []) (fun q0 : Int => K (.data (Ty.int .i64) q0) [])) m_ (⟨[(0, .brw TValue xs), (1, .fn 96 []), (7, .data (Ty.int .i64) (xs.length : Int)), (8, .data (Ty.int .i64) (0 : Int))], []⟩ : St))) := by kernel_rfl
theorem lvc130_0_v0 (xs : (List (TValue).D))  (i0 : Int) (v0 : Unit) (m : Nat) (K : X → St → Prop) : awp C130 (L130_v0 xs) ann130_v0 (loopAt (bodyOf Go.Proofs.Tryz.f130) 0) (⟨[(0, .brw TValue xs), (1, .fn 96 []), (7, .data (Ty.int .i64) (xs.length : Int)), (8, .data (Ty.int .i64) i0)], []⟩ : St) (thenW (fun s' => ∃ m', m' < m ∧ (L130_v0 xs) 0 m' s' K) (exitN 0 (ann130_v0 (behind 0)) K)) =
  (cond (decide (i0 < (xs.length : Int))) ((0 ≤ i0) ∧ (i0 < (xs.length : Int)) ∧ (Sm TValue (nth (t := TValue) xs i0)) ∧ cond (decide ((nth (t := TValue) xs i0).1 = 0)) (K .ret (⟨[(4, .data (Ty.int .i64) i0)], []⟩ : St)) ((∃ m_, m_ < m ∧ (L130_v0 xs) 0 m_ (⟨[(0, .brw TValue xs), (1, .fn 96 []), (7, .data (Ty.int .i64) (xs.length : Int)), (8, .data (Ty.int .i64) (wrap64 (i0 + (1 : Int))))], []⟩ : St) K))) (K (.exit 0) (⟨[], []⟩ : St))) := by kernel_rfl
def ann130_v1 : Nat → List Dir
  | 0 => [.keep [0, 1]]
  | 1 => [.keep [0, 1, 7, 8]]
  | 2 => [.keep [0, 1, 7, 8, 9]]
  | 3 => [.keep [0, 1, 5, 7, 8]]
  | 4 => [.keep [0, 1, 5, 7, 8, 16]]
  | 5 => [.keep [4]]
  | 6 => [.keep [0, 1, 7, 8]]
  | 7 => [.keep [4]]
  | 100000 => [.keep []]
  | _ => []
@[reducible] def LP130_0_v1 (xs : (List (TValue).D)) (m : Nat) (st_ : St) (K : X → St → Prop) : Prop := (True) ∧ LoopI (fun (i0 : Int) (v0 : Unit) => (⟨[(0, .brw TValue xs), (1, .fn 162 []), (7, .data (Ty.int .i64) (xs.length : Int)), (8, .data (Ty.int .i64) i0)], []⟩ : St)) (0 : Int) (xs.length : Int) (F.IndexFunc_impl_RowOk_1_l0 xs) (fun v0 : Unit => True) (outD (fun v0 : Unit => True → K (.exit 0) (⟨[], []⟩ : St)) (fun q0 : Int => K .ret (⟨[(4, .data (Ty.int .i64) q0)], []⟩ : St))) m st_
def L130_v1 (xs : (List (TValue).D)) : Loops := fun id m st_ K => match id with
  | 0 => LP130_0_v1 xs m st_ K
  | _ => False
theorem vc130_v1 (xs : (List (TValue).D)) (K : AV → Hp → Prop) : awp C130 (L130_v1 xs) ann130_v1 (bodyOf Go.Proofs.Tryz.f130) ⟨argEnv 0 [.brw TValue xs, .fn 162 []], []⟩ (outK tab Go.Proofs.Tryz.f130.results.toList (hasBox []) (resK (.dat (Ty.int .i64)) K)) =
  ((∃ m_, (True) ∧ LoopI (fun (i0 : Int) (v0 : Unit) => (⟨[(0, .brw TValue xs), (1, .fn 162 []), (7, .data (Ty.int .i64) (xs.length : Int)), (8, .data (Ty.int .i64) i0)], []⟩ : St)) (0 : Int) (xs.length : Int) (F.IndexFunc_impl_RowOk_1_l0 xs) (fun v0 : Unit => True) (outD (fun v0 : Unit => True → K (.data (Ty.int .i64) (-1 : Int)) []) (fun q0 : Int => K (.data (Ty.int .i64) q0) [])) m_ (⟨[(0, .brw TValue xs), (1, .fn 162 []), (7, .data (Ty.int .i64) (xs.length : Int)), (8, .data (Ty.int .i64) (0 : Int))], []⟩ : St))) := by kernel_rfl
theorem lvc130_0_v1 (xs : (List (TValue).D))  (i0 : Int) (v0 : Unit) (m : Nat) (K : X → St → Prop) : awp C130 (L130_v1 xs) ann130_v1 (loopAt (bodyOf Go.Proofs.Tryz.f130) 0) (⟨[(0, .brw TValue xs), (1, .fn 162 []), (7, .data (Ty.int .i64) (xs.length : Int)), (8, .data (Ty.int .i64) i0)], []⟩ : St) (thenW (fun s' => ∃ m', m' < m ∧ (L130_v1 xs) 0 m' s' K) (exitN 0 (ann130_v1 (behind 0)) K)) =
  (cond (decide (i0 < (xs.length : Int))) ((0 ≤ i0) ∧ (i0 < (xs.length : Int)) ∧ (Sm TValue (nth (t := TValue) xs i0)) ∧ cond (!M.valueOk (nth (t := TValue) xs i0)) (K .ret (⟨[(4, .data (Ty.int .i64) i0)], []⟩ : St)) ((∃ m_, m_ < m ∧ (L130_v1 xs) 0 m_ (⟨[(0, .brw TValue xs), (1, .fn 162 []), (7, .data (Ty.int .i64) (xs.length : Int)), (8, .data (Ty.int .i64) (wrap64 (i0 + (1 : Int))))], []⟩ : St) K))) (K (.exit 0) (⟨[], []⟩ : St))) := by kernel_rfl
theorem con130_ok : ConOk P 130 c130 := by
  refine con_okR (fn := Go.Proofs.Tryz.f130) (code := bodyOf Go.Proofs.Tryz.f130) (tab_ok tab_check cmp_check) consOk130 mixed Go.Proofs.Tryz.func130 rfl rfl fun args hp K h0 => ?_
  rcases h0 with h0 | h0
  · obtain ⟨a0, a1, rfl, rfl, h1⟩ := args2_elim h0
    obtain ⟨xs, rfl, h2⟩ := withB_elim h1
    obtain ⟨cs1, rfl, h3⟩ := withF_elim h2
    obtain ⟨rfl, h4⟩ := caps0_elim h3
    obtain ⟨h_xs, hK⟩ := h4
    have h : ok (F.IndexFunc_impl_Bond_breaks_1 xs) (fun r => K (.data (Ty.int .i64) r) []) := ok_of_eq (F.IndexFunc_impl_Bond_breaks_1_eq xs h_xs) hK
    refine ⟨⟨show (2 : Nat) ≤ 19 by decide, show (2 : Nat) ≤ 1000000 by decide⟩, ann130_v0, (L130_v0 xs), (.dat (Ty.int .i64)), (loopsN1 (i0 := 0) (by kernel_rfl) ?_), ?_⟩
    · clear h
      intro m_ s_ K_ h
      obtain ⟨hc0, i0, v0, rfl, hl0, rfl, hv0, h⟩ := (show LP130_0_v0 xs m_ s_ K_ from h)
      rw [lvc130_0_v0 xs i0 v0 _ K_]
      exact (loopI_step h (fun ht0 h => ⟨hl0, ⟨ht0, ⟨(sm_nth h_xs i0), (ok_cond h (fun b_9 h => (have h := ok_ret h; h)) (fun b_9 h => (loopI_next (fun m hm => (show LP130_0_v0 xs m _ _ from ⟨hc0, hm⟩)) () rfl hl0 low0 ht0 (sm_len h_xs) trivial (have h := ok_ret h; h))))⟩⟩⟩) (fun h => (h trivial)))
    · rw [vc130_v0 xs K]
      exact (loopI_start (fun m hm => ⟨trivial, hm⟩) (0 : Int) () rfl (Int.natCast_nonneg 0) trivial (ok_then h (fun v0 h hv0 => (have h := ok_ret h; h)) (fun q0 h => (have h := ok_ret h; h))))
  · obtain ⟨a0, a1, rfl, rfl, h1⟩ := args2_elim h0
    obtain ⟨xs, rfl, h2⟩ := withB_elim h1
    obtain ⟨cs1, rfl, h3⟩ := withF_elim h2
    obtain ⟨rfl, h4⟩ := caps0_elim h3
    obtain ⟨h_xs, hK⟩ := h4
    have h : ok (F.IndexFunc_impl_RowOk_1 xs) (fun r => K (.data (Ty.int .i64) r) []) := ok_of_eq (F.IndexFunc_impl_RowOk_1_eq xs h_xs) hK
    refine ⟨⟨show (2 : Nat) ≤ 19 by decide, show (2 : Nat) ≤ 1000000 by decide⟩, ann130_v1, (L130_v1 xs), (.dat (Ty.int .i64)), (loopsN1 (i0 := 0) (by kernel_rfl) ?_), ?_⟩
    · clear h
      intro m_ s_ K_ h
      obtain ⟨hc0, i0, v0, rfl, hl0, rfl, hv0, h⟩ := (show LP130_0_v1 xs m_ s_ K_ from h)
      rw [lvc130_0_v1 xs i0 v0 _ K_]
      exact (loopI_step h (fun ht0 h => ⟨hl0, ⟨ht0, ⟨(sm_nth h_xs i0), (ok_cond h (fun b_9 h => (have h := ok_ret h; h)) (fun b_9 h => (loopI_next (fun m hm => (show LP130_0_v1 xs m _ _ from ⟨hc0, hm⟩)) () rfl hl0 low0 ht0 (sm_len h_xs) trivial (have h := ok_ret h; h))))⟩⟩⟩) (fun h => (h trivial)))
    · rw [vc130_v1 xs K]
      exact (loopI_start (fun m hm => ⟨trivial, hm⟩) (0 : Int) () rfl (Int.natCast_nonneg 0) trivial (ok_then h (fun v0 h hv0 => (have h := ok_ret h; h)) (fun q0 h => (have h := ok_ret h; h))))

/-! 95: slices.ContainsFunc[[]loop.example/tablehouse/impl.Value,loop.example/tablehouse/impl.Value] -/
def c95 : Con := ⟨[.lent TValue, .any], fun args hp K => (args2 (fun a0 a1 => withB TValue a0 fun xs => withF 96 a1 (caps0 ((Sm (Ty.sl TValue) xs) ∧ K (.data Ty.bool (List.any xs (fun e => decide (e.1 = 0)))) []))) args hp) ∨ (args2 (fun a0 a1 => withB TValue a0 fun xs => withF 162 a1 (caps0 ((Sm (Ty.sl TValue) xs) ∧ K (.data Ty.bool (List.any xs (fun e => !M.valueOk e))) []))) args hp)⟩
def cons95 : Cons := [(96, c96), (130, c130), (162, c162)]
def inl95 : List (Nat × Inl) := []
@[reducible] def C95 : Ctx := ⟨tab, fun t => memN t cmps, cons95, 9, inl95, 0⟩
theorem consOk95 : ConsOk P C95 := by
  refine consOk_cons (enter_ok (fn := Go.Proofs.Tryz.f96) Go.Proofs.Tryz.func96 (by kernel_rfl) rfl) con96_ok ?_
  refine consOk_cons (enter_ok (fn := Go.Proofs.Tryz.f130) Go.Proofs.Tryz.func130 (by kernel_rfl) rfl) con130_ok ?_
  refine consOk_cons (enter_ok (fn := Go.Proofs.Tryz.f162) Go.Proofs.Tryz.func162 (by kernel_rfl) rfl) con162_ok ?_
  exact consOk_nil
def ann95_v0 : Nat → List Dir
  | 0 => [.keep [0, 1]]
  | 1 => [.keep [4]]
  | _ => []
def L95_v0 (xs : (List (TValue).D)) : Loops := fun id m st_ K => match id with
  | _ => False
theorem vc95_v0 (xs : (List (TValue).D)) (K : AV → Hp → Prop) : awp C95 (L95_v0 xs) ann95_v0 (bodyOf Go.Proofs.Tryz.f95) ⟨argEnv 0 [.brw TValue xs, .fn 96 []], []⟩ (outK tab Go.Proofs.Tryz.f95.results.toList (hasBox []) (resK (.dat Ty.bool) K)) =
  ((((Sm (Ty.sl TValue) xs) ∧ K (.data Ty.bool (decide ((0 : Int) ≤ (M.idx (t := TValue) (fun e => decide (e.1 = 0)) xs)))) []) ∨ False)) := by kernel_rfl
def ann95_v1 : Nat → List Dir
  | 0 => [.keep [0, 1]]
  | 1 => [.keep [4]]
  | _ => []
def L95_v1 (xs : (List (TValue).D)) : Loops := fun id m st_ K => match id with
  | _ => False
theorem vc95_v1 (xs : (List (TValue).D)) (K : AV → Hp → Prop) : awp C95 (L95_v1 xs) ann95_v1 (bodyOf Go.Proofs.Tryz.f95) ⟨argEnv 0 [.brw TValue xs, .fn 162 []], []⟩ (outK tab Go.Proofs.Tryz.f95.results.toList (hasBox []) (resK (.dat Ty.bool) K)) =
  ((False ∨ ((Sm (Ty.sl TValue) xs) ∧ K (.data Ty.bool (decide ((0 : Int) ≤ (M.idx (t := TValue) (fun e => !M.valueOk e) xs)))) []))) := by kernel_rfl
theorem con95_ok : ConOk P 95 c95 := by
  refine con_okR (fn := Go.Proofs.Tryz.f95) (code := bodyOf Go.Proofs.Tryz.f95) (tab_ok tab_check cmp_check) consOk95 mixed Go.Proofs.Tryz.func95 rfl rfl fun args hp K h0 => ?_
  rcases h0 with h0 | h0
  · obtain ⟨a0, a1, rfl, rfl, h1⟩ := args2_elim h0
    obtain ⟨xs, rfl, h2⟩ := withB_elim h1
    obtain ⟨cs1, rfl, h3⟩ := withF_elim h2
    obtain ⟨rfl, h4⟩ := caps0_elim h3
    obtain ⟨h_xs, hK⟩ := h4
    have h : ok (F.ContainsFunc_impl_Bond_breaks_1 xs) (fun r => K (.data Ty.bool r) []) := ok_of_eq (F.ContainsFunc_impl_Bond_breaks_1_eq xs h_xs) hK
    refine ⟨⟨show (2 : Nat) ≤ 9 by decide, show (2 : Nat) ≤ 1000000 by decide⟩, ann95_v0, (L95_v0 xs), (.dat Ty.bool), (no_loops (by kernel_rfl)), ?_⟩
    · rw [vc95_v0 xs K]
      exact (Or.inl (⟨h_xs, (have h := ok_ret h; h)⟩))
  · obtain ⟨a0, a1, rfl, rfl, h1⟩ := args2_elim h0
    obtain ⟨xs, rfl, h2⟩ := withB_elim h1
    obtain ⟨cs1, rfl, h3⟩ := withF_elim h2
    obtain ⟨rfl, h4⟩ := caps0_elim h3
    obtain ⟨h_xs, hK⟩ := h4
    have h : ok (F.ContainsFunc_impl_RowOk_1 xs) (fun r => K (.data Ty.bool r) []) := ok_of_eq (F.ContainsFunc_impl_RowOk_1_eq xs h_xs) hK
    refine ⟨⟨show (2 : Nat) ≤ 9 by decide, show (2 : Nat) ≤ 1000000 by decide⟩, ann95_v1, (L95_v1 xs), (.dat Ty.bool), (no_loops (by kernel_rfl)), ?_⟩
    · rw [vc95_v1 xs K]
      exact (Or.inr (⟨h_xs, (have h := ok_ret h; h)⟩))

/-! 144: loop.example/tablehouse/impl.RowOk -/
def c144 : Con := ⟨[.dat (Ty.sl TValue)], fun args hp K => args1 (fun a0 => withD (Ty.sl TValue) a0 fun row => (Sm (Ty.sl TValue) row) ∧ K (.data Ty.bool (M.rowOk row)) []) args hp⟩
def cons144 : Cons := [(95, c95)]
def inl144 : List (Nat × Inl) := []
@[reducible] def C144 : Ctx := ⟨tab, fun t => memN t cmps, cons144, 11, inl144, 0⟩
theorem consOk144 : ConsOk P C144 := by
  refine consOk_cons (enter_ok (fn := Go.Proofs.Tryz.f95) Go.Proofs.Tryz.func95 (by kernel_rfl) rfl) con95_ok ?_
  exact consOk_nil
def ann144 : Nat → List Dir
  | 0 => [.keep [0]]
  | 1 => [.keep [2]]
  | _ => []
def L144 (row : (List (TValue).D)) : Loops := fun id m st_ K => match id with
  | _ => False
theorem vc144 (row : (List (TValue).D)) (K : AV → Hp → Prop) : awp C144 (L144 row) ann144 (bodyOf Go.Proofs.Tryz.f144) ⟨argEnv 0 [.data (Ty.sl TValue) row], []⟩ (outK tab Go.Proofs.Tryz.f144.results.toList (hasBox []) (resK (.dat Ty.bool) K)) =
  (cond ((decide ((row.length : Int) ≤ (4 : Int))) == true) ((False ∨ ((Sm (Ty.sl TValue) row) ∧ K (.data Ty.bool (!(List.any row (fun e => !M.valueOk e)))) []))) (K (.data Ty.bool false) [])) := by kernel_rfl
theorem con144_ok : ConOk P 144 c144 := by
  refine con_okR (fn := Go.Proofs.Tryz.f144) (code := bodyOf Go.Proofs.Tryz.f144) (tab_ok tab_check cmp_check) consOk144 mixed Go.Proofs.Tryz.func144 rfl rfl fun args hp K h0 => ?_
  obtain ⟨a0, rfl, rfl, h1⟩ := args1_elim h0
  obtain ⟨row, rfl, h2⟩ := withD_elim h1
  obtain ⟨h_row, hK⟩ := h2
  have h : ok (F.impl_RowOk row) (fun r => K (.data Ty.bool r) []) := ok_of_eq (F.impl_RowOk_eq row h_row) hK
  refine ⟨⟨show (1 : Nat) ≤ 11 by decide, show (1 : Nat) ≤ 1000000 by decide⟩, ann144, (L144 row), (.dat Ty.bool), (no_loops (by kernel_rfl)), ?_⟩
  · rw [vc144 row K]
    exact (ok_cond h (fun b_1 h => (Or.inr (⟨h_row, (have h := ok_ret h; h)⟩))) (fun b_1 h => (have h := ok_ret h; h)))

/-! 122: loop.example/tablehouse/impl.RowFits -/
def c122 : Con := ⟨[.dat (Ty.sl TColumn), .dat (Ty.sl TValue)], fun args hp K => args2 (fun a0 a1 => withD (Ty.sl TColumn) a0 fun columns => withD (Ty.sl TValue) a1 fun row => (Sm (Ty.sl TColumn) columns) ∧ (Sm (Ty.sl TValue) row) ∧ K (.data Ty.bool (M.rowFits columns row)) []) args hp⟩
def cons122 : Cons := [(87, c87), (144, c144)]
def inl122 : List (Nat × Inl) := []
@[reducible] def C122 : Ctx := ⟨tab, fun t => memN t cmps, cons122, 51, inl122, 0⟩
theorem consOk122 : ConsOk P C122 := by
  refine consOk_cons (enter_ok (fn := Go.Proofs.Tryz.f87) Go.Proofs.Tryz.func87 (by kernel_rfl) rfl) con87_ok ?_
  refine consOk_cons (enter_ok (fn := Go.Proofs.Tryz.f144) Go.Proofs.Tryz.func144 (by kernel_rfl) rfl) con144_ok ?_
  exact consOk_nil
def ann122 : Nat → List Dir
  | 0 => [.keep [0, 1]]
  | 1 => [.keep [0, 1, 21]]
  | 2 => [.keep [4]]
  | 3 => [.keep [0, 22, 23, 24]]
  | 4 => [.keep [0, 22, 23, 24, 25]]
  | 5 => [.fixRow 6 TValue, .keep [0, 5, 6, 22, 23, 24]]
  | 6 => [.keep [0, 22, 23, 24, 49]]
  | 7 => [.keep [4]]
  | 8 => [.keep [0, 22, 23, 24]]
  | 9 => [.keep [4]]
  | 100000 => [.keep []]
  | _ => []
@[reducible] def LP122_0 (columns : (List (TColumn).D)) (row : (List (TValue).D)) (m : Nat) (st_ : St) (K : X → St → Prop) : Prop := (True) ∧ LoopI (fun (i0 : Int) (v0 : Unit) => (⟨[(0, .data (Ty.sl TColumn) columns), (22, .data (Ty.sl TValue) row), (23, .data (Ty.int .i64) (row.length : Int)), (24, .data (Ty.int .i64) i0)], []⟩ : St)) (0 : Int) (row.length : Int) (F.impl_RowFits_l0 columns row) (fun v0 : Unit => True) (outD (fun v0 : Unit => True → K (.exit 0) (⟨[], []⟩ : St)) (fun q0 : Unit => K .ret (⟨[(4, .data Ty.bool false)], []⟩ : St))) m st_
def L122 (columns : (List (TColumn).D)) (row : (List (TValue).D)) : Loops := fun id m st_ K => match id with
  | 0 => LP122_0 columns row m st_ K
  | _ => False
theorem vc122 (columns : (List (TColumn).D)) (row : (List (TValue).D)) (K : AV → Hp → Prop) : awp C122 (L122 columns row) ann122 (bodyOf Go.Proofs.Tryz.f122) ⟨argEnv 0 [.data (Ty.sl TColumn) columns, .data (Ty.sl TValue) row], []⟩ (outK tab Go.Proofs.Tryz.f122.results.toList (hasBox []) (resK (.dat Ty.bool) K)) =
  ((Sm (Ty.sl TColumn) columns) ∧ cond ((!(M.columnsOk columns)) == false) ((Sm (Ty.sl TValue) row) ∧ cond ((!(M.rowOk row)) == false) (cond (!decide ((row.length : Int) = (columns.length : Int))) (K (.data Ty.bool false) []) ((∃ m_, (True) ∧ LoopI (fun (i0 : Int) (v0 : Unit) => (⟨[(0, .data (Ty.sl TColumn) columns), (22, .data (Ty.sl TValue) row), (23, .data (Ty.int .i64) (row.length : Int)), (24, .data (Ty.int .i64) i0)], []⟩ : St)) (0 : Int) (row.length : Int) (F.impl_RowFits_l0 columns row) (fun v0 : Unit => True) (outD (fun v0 : Unit => True → K (.data Ty.bool true) []) (fun q0 : Unit => K (.data Ty.bool false) [])) m_ (⟨[(0, .data (Ty.sl TColumn) columns), (22, .data (Ty.sl TValue) row), (23, .data (Ty.int .i64) (row.length : Int)), (24, .data (Ty.int .i64) (0 : Int))], []⟩ : St)))) (K (.data Ty.bool false) [])) (K (.data Ty.bool false) [])) := by kernel_rfl
theorem lvc122_0 (columns : (List (TColumn).D)) (row : (List (TValue).D))  (i0 : Int) (v0 : Unit) (m : Nat) (K : X → St → Prop) : awp C122 (L122 columns row) ann122 (loopAt (bodyOf Go.Proofs.Tryz.f122) 0) (⟨[(0, .data (Ty.sl TColumn) columns), (22, .data (Ty.sl TValue) row), (23, .data (Ty.int .i64) (row.length : Int)), (24, .data (Ty.int .i64) i0)], []⟩ : St) (thenW (fun s' => ∃ m', m' < m ∧ (L122 columns row) 0 m' s' K) (exitN 0 (ann122 (behind 0)) K)) =
  (cond (decide (i0 < (row.length : Int))) ((0 ≤ i0) ∧ (i0 < (row.length : Int)) ∧ (0 ≤ i0) ∧ (i0 < (columns.length : Int)) ∧ cond ((!decide ((nth (t := TValue) row i0).1 = (nth (t := TColumn) columns i0).1)) == true) (cond ((!decide ((nth (t := TValue) row i0).1 = (0 : Int))) == false) ((0 ≤ i0) ∧ (i0 < (columns.length : Int)) ∧ cond (!(((nth (t := TColumn) columns i0).2).1)) (K .ret (⟨[(4, .data Ty.bool false)], []⟩ : St)) ((∃ m_, m_ < m ∧ (L122 columns row) 0 m_ (⟨[(0, .data (Ty.sl TColumn) columns), (22, .data (Ty.sl TValue) row), (23, .data (Ty.int .i64) (row.length : Int)), (24, .data (Ty.int .i64) (wrap64 (i0 + (1 : Int))))], []⟩ : St) K))) (K .ret (⟨[(4, .data Ty.bool false)], []⟩ : St))) ((∃ m_, m_ < m ∧ (L122 columns row) 0 m_ (⟨[(0, .data (Ty.sl TColumn) columns), (22, .data (Ty.sl TValue) row), (23, .data (Ty.int .i64) (row.length : Int)), (24, .data (Ty.int .i64) (wrap64 (i0 + (1 : Int))))], []⟩ : St) K))) (K (.exit 0) (⟨[], []⟩ : St))) := by kernel_rfl
theorem con122_ok : ConOk P 122 c122 := by
  refine con_okR (fn := Go.Proofs.Tryz.f122) (code := bodyOf Go.Proofs.Tryz.f122) (tab_ok tab_check cmp_check) consOk122 mixed Go.Proofs.Tryz.func122 rfl rfl fun args hp K h0 => ?_
  obtain ⟨a0, a1, rfl, rfl, h1⟩ := args2_elim h0
  obtain ⟨columns, rfl, h2⟩ := withD_elim h1
  obtain ⟨row, rfl, h3⟩ := withD_elim h2
  obtain ⟨h_columns, h_row, hK⟩ := h3
  have h : ok (F.impl_RowFits columns row) (fun r => K (.data Ty.bool r) []) := ok_of_eq (F.impl_RowFits_eq columns row h_columns h_row) hK
  refine ⟨⟨show (2 : Nat) ≤ 51 by decide, show (2 : Nat) ≤ 1000000 by decide⟩, ann122, (L122 columns row), (.dat Ty.bool), (loopsN1 (i0 := 0) (by kernel_rfl) ?_), ?_⟩
  · clear h
    intro m_ s_ K_ h
    obtain ⟨hc0, i0, v0, rfl, hl0, rfl, hv0, h⟩ := (show LP122_0 columns row m_ s_ K_ from h)
    rw [lvc122_0 columns row i0 v0 _ K_]
    exact (loopI_step h (fun ht0 h => ⟨hl0, ⟨ht0, ⟨hl0, ⟨(ok_guard h).1, have g_18 := (ok_guard h).1; have h := (ok_guard h).2; (ok_cond h (fun b_19 h => (ok_cond h (fun b_20 h => ⟨hl0, ⟨g_18, (ok_cond h (fun b_21 h => (have h := ok_ret h; h)) (fun b_21 h => (loopI_next (fun m hm => (show LP122_0 columns row m _ _ from ⟨hc0, hm⟩)) () rfl hl0 low0 ht0 (sm_len h_row) trivial (have h := ok_ret h; h))))⟩⟩) (fun b_20 h => (have h := ok_ret h; h)))) (fun b_19 h => (loopI_next (fun m hm => (show LP122_0 columns row m _ _ from ⟨hc0, hm⟩)) () rfl hl0 low0 ht0 (sm_len h_row) trivial (have h := ok_ret h; h))))⟩⟩⟩⟩) (fun h => (h trivial)))
  · rw [vc122 columns row K]
    exact ⟨h_columns, (ok_cond h (fun b_1 h => ⟨h_row, (ok_cond h (fun b_2 h => (ok_cond h (fun b_3 h => (have h := ok_ret h; h)) (fun b_3 h => (loopI_start (fun m hm => ⟨trivial, hm⟩) (0 : Int) () rfl (Int.natCast_nonneg 0) trivial (ok_then h (fun v0 h hv0 => (have h := ok_ret h; h)) (fun q0 h => (have h := ok_ret h; h))))))) (fun b_2 h => (have h := ok_ret h; h)))⟩) (fun b_1 h => (have h := ok_ret h; h)))⟩

/-! 121: loop.example/tablehouse/impl.RowsOk$1 -/
def c121 : Con := ⟨[.dat (Ty.sl TValue), .any], fun args hp K => args2 (fun a0 a1 => withD (Ty.sl TValue) a0 fun r => withR (Ty.sl TColumn) a1 fun columns => (Sm (Ty.sl TValue) r) ∧ (Sm (Ty.sl TColumn) columns) ∧ K (.data Ty.bool (!M.rowFits columns r)) []) args hp⟩
def cons121 : Cons := [(122, c122)]
def inl121 : List (Nat × Inl) := []
@[reducible] def C121 : Ctx := ⟨tab, fun t => memN t cmps, cons121, 8, inl121, 0⟩
theorem consOk121 : ConsOk P C121 := by
  refine consOk_cons (enter_ok (fn := Go.Proofs.Tryz.f122) Go.Proofs.Tryz.func122 (by kernel_rfl) rfl) con122_ok ?_
  exact consOk_nil
def ann121 : Nat → List Dir
  | 0 => [.keep [0, 1]]
  | 1 => [.keep [3]]
  | _ => []
def L121 (r : (List (TValue).D)) (columns : (List (TColumn).D)) : Loops := fun id m st_ K => match id with
  | _ => False
theorem vc121 (r : (List (TValue).D)) (columns : (List (TColumn).D)) (K : AV → Hp → Prop) : awp C121 (L121 r columns) ann121 (bodyOf Go.Proofs.Tryz.f121) ⟨argEnv 0 [.data (Ty.sl TValue) r, .ref (.data (Ty.sl TColumn) columns)], []⟩ (outK tab Go.Proofs.Tryz.f121.results.toList (hasBox []) (resK (.dat Ty.bool) K)) =
  ((Sm (Ty.sl TColumn) columns) ∧ (Sm (Ty.sl TValue) r) ∧ K (.data Ty.bool (!(M.rowFits columns r))) []) := by kernel_rfl
theorem con121_ok : ConOk P 121 c121 := by
  refine con_okR (fn := Go.Proofs.Tryz.f121) (code := bodyOf Go.Proofs.Tryz.f121) (tab_ok tab_check cmp_check) consOk121 mixed Go.Proofs.Tryz.func121 rfl rfl fun args hp K h0 => ?_
  obtain ⟨a0, a1, rfl, rfl, h1⟩ := args2_elim h0
  obtain ⟨r, rfl, h2⟩ := withD_elim h1
  obtain ⟨columns, rfl, h3⟩ := withR_elim h2
  obtain ⟨h_r, h_columns, hK⟩ := h3
  have h : ok (F.impl_RowsOk_1 r columns) (fun r => K (.data Ty.bool r) []) := ok_of_eq (F.impl_RowsOk_1_eq r columns h_r h_columns) hK
  refine ⟨⟨show (2 : Nat) ≤ 8 by decide, show (2 : Nat) ≤ 1000000 by decide⟩, ann121, (L121 r columns), (.dat Ty.bool), (no_loops (by kernel_rfl)), ?_⟩
  · rw [vc121 r columns K]
    exact ⟨h_columns, ⟨h_r, (have h := ok_ret h; h)⟩⟩

/-! 131: slices.IndexFunc[[][]loop.example/tablehouse/impl.Value,[]loop.example/tablehouse/impl.Value] -/
def c131 : Con := ⟨[.lent (Ty.sl TValue), .any], fun args hp K => (args2 (fun a0 a1 => withB (Ty.sl TValue) a0 fun xs => withF 98 a1 (caps2 (fun b1_0 b1_1 => withR (Ty.sl (Ty.int .i64)) b1_0 fun k0 => withR (Ty.sl TValue) b1_1 fun k1 => (Sm (Ty.sl (Ty.sl TValue)) xs) ∧ (Sm (Ty.sl (Ty.int .i64)) k0) ∧ (Sm (Ty.sl TValue) k1) ∧ (∀ e ∈ xs, M.inRow e k0) ∧ K (.data (Ty.int .i64) (M.idx (t := (Ty.sl TValue)) (fun e => decide (M.taken e k0 = k1)) xs)) []))) args hp) ∨ (args2 (fun a0 a1 => withB (Ty.sl TValue) a0 fun xs => withF 121 a1 (caps1 (fun b1_0 => withR (Ty.sl TColumn) b1_0 fun k0 => (Sm (Ty.sl (Ty.sl TValue)) xs) ∧ (Sm (Ty.sl TColumn) k0) ∧ K (.data (Ty.int .i64) (M.idx (t := (Ty.sl TValue)) (fun e => !M.rowFits k0 e) xs)) []))) args hp)⟩
def cons131 : Cons := [(98, c98), (121, c121)]
def inl131 : List (Nat × Inl) := []
@[reducible] def C131 : Ctx := ⟨tab, fun t => memN t cmps, cons131, 19, inl131, 0⟩
theorem consOk131 : ConsOk P C131 := by
  refine consOk_cons (enter_ok (fn := Go.Proofs.Tryz.f98) Go.Proofs.Tryz.func98 (by kernel_rfl) rfl) con98_ok ?_
  refine consOk_cons (enter_ok (fn := Go.Proofs.Tryz.f121) Go.Proofs.Tryz.func121 (by kernel_rfl) rfl) con121_ok ?_
  exact consOk_nil
def ann131_v0 : Nat → List Dir
  | 0 => [.keep [0, 1]]
  | 1 => [.keep [0, 1, 7, 8]]
  | 2 => [.keep [0, 1, 7, 8, 9]]
  | 3 => [.keep [0, 1, 5, 7, 8]]
  | 4 => [.keep [0, 1, 5, 7, 8, 16]]
  | 5 => [.keep [4]]
  | 6 => [.keep [0, 1, 7, 8]]
  | 7 => [.keep [4]]
  | 100000 => [.keep []]
  | _ => []
@[reducible] def LP131_0_v0 (xs : (List (List (TValue).D))) (k0 : (List Int)) (k1 : (List (TValue).D)) (m : Nat) (st_ : St) (K : X → St → Prop) : Prop := (True) ∧ LoopI (fun (i0 : Int) (v0 : Unit) => (⟨[(0, .brw (Ty.sl TValue) xs), (1, .fn 98 [.ref (.data (Ty.sl (Ty.int .i64)) k0), .ref (.data (Ty.sl TValue) k1)]), (7, .data (Ty.int .i64) (xs.length : Int)), (8, .data (Ty.int .i64) i0)], []⟩ : St)) (0 : Int) (xs.length : Int) (F.IndexFunc_impl_Bond_breaks_2_1_l0 xs k0 k1) (fun v0 : Unit => True) (outD (fun v0 : Unit => True → K (.exit 0) (⟨[], []⟩ : St)) (fun q0 : Int => K .ret (⟨[(4, .data (Ty.int .i64) q0)], []⟩ : St))) m st_
def L131_v0 (xs : (List (List (TValue).D))) (k0 : (List Int)) (k1 : (List (TValue).D)) : Loops := fun id m st_ K => match id with
  | 0 => LP131_0_v0 xs k0 k1 m st_ K
  | _ => False
theorem vc131_v0 (xs : (List (List (TValue).D))) (k0 : (List Int)) (k1 : (List (TValue).D)) (K : AV → Hp → Prop) : awp C131 (L131_v0 xs k0 k1) ann131_v0 (bodyOf Go.Proofs.Tryz.f131) ⟨argEnv 0 [.brw (Ty.sl TValue) xs, .fn 98 [.ref (.data (Ty.sl (Ty.int .i64)) k0), .ref (.data (Ty.sl TValue) k1)]], []⟩ (outK tab Go.Proofs.Tryz.f131.results.toList (hasBox []) (resK (.dat (Ty.int .i64)) K)) =
  ((∃ m_, (True) ∧ LoopI (fun (i0 : Int) (v0 : Unit) => (⟨[(0, .brw (Ty.sl TValue) xs), (1, .fn 98 [.ref (.data (Ty.sl (Ty.int .i64)) k0), .ref (.data (Ty.sl TValue) k1)]), (7, .data (Ty.int .i64) (xs.length : Int)), (8, .data (Ty.int .i64) i0)], []⟩ : St)) (0 : Int) (xs.length : Int) (F.IndexFunc_impl_Bond_breaks_2_1_l0 xs k0 k1) (fun v0 : Unit => True) (outD (fun v0 : Unit => True → K (.data (Ty.int .i64) (-1 : Int)) []) (fun q0 : Int => K (.data (Ty.int .i64) q0) [])) m_ (⟨[(0, .brw (Ty.sl TValue) xs), (1, .fn 98 [.ref (.data (Ty.sl (Ty.int .i64)) k0), .ref (.data (Ty.sl TValue) k1)]), (7, .data (Ty.int .i64) (xs.length : Int)), (8, .data (Ty.int .i64) (0 : Int))], []⟩ : St))) := by kernel_rfl
theorem lvc131_0_v0 (xs : (List (List (TValue).D))) (k0 : (List Int)) (k1 : (List (TValue).D))  (i0 : Int) (v0 : Unit) (m : Nat) (K : X → St → Prop) : awp C131 (L131_v0 xs k0 k1) ann131_v0 (loopAt (bodyOf Go.Proofs.Tryz.f131) 0) (⟨[(0, .brw (Ty.sl TValue) xs), (1, .fn 98 [.ref (.data (Ty.sl (Ty.int .i64)) k0), .ref (.data (Ty.sl TValue) k1)]), (7, .data (Ty.int .i64) (xs.length : Int)), (8, .data (Ty.int .i64) i0)], []⟩ : St) (thenW (fun s' => ∃ m', m' < m ∧ (L131_v0 xs k0 k1) 0 m' s' K) (exitN 0 (ann131_v0 (behind 0)) K)) =
  (cond (decide (i0 < (xs.length : Int))) ((0 ≤ i0) ∧ (i0 < (xs.length : Int)) ∧ (Sm (Ty.sl TValue) (nth (t := (Ty.sl TValue)) xs i0)) ∧ (Sm (Ty.sl (Ty.int .i64)) k0) ∧ (Sm (Ty.sl TValue) k1) ∧ (M.inRow (nth (t := (Ty.sl TValue)) xs i0) k0) ∧ cond (decide (M.taken (nth (t := (Ty.sl TValue)) xs i0) k0 = k1)) (K .ret (⟨[(4, .data (Ty.int .i64) i0)], []⟩ : St)) ((∃ m_, m_ < m ∧ (L131_v0 xs k0 k1) 0 m_ (⟨[(0, .brw (Ty.sl TValue) xs), (1, .fn 98 [.ref (.data (Ty.sl (Ty.int .i64)) k0), .ref (.data (Ty.sl TValue) k1)]), (7, .data (Ty.int .i64) (xs.length : Int)), (8, .data (Ty.int .i64) (wrap64 (i0 + (1 : Int))))], []⟩ : St) K))) (K (.exit 0) (⟨[], []⟩ : St))) := by kernel_rfl
def ann131_v1 : Nat → List Dir
  | 0 => [.keep [0, 1]]
  | 1 => [.keep [0, 1, 7, 8]]
  | 2 => [.keep [0, 1, 7, 8, 9]]
  | 3 => [.keep [0, 1, 5, 7, 8]]
  | 4 => [.keep [0, 1, 5, 7, 8, 16]]
  | 5 => [.keep [4]]
  | 6 => [.keep [0, 1, 7, 8]]
  | 7 => [.keep [4]]
  | 100000 => [.keep []]
  | _ => []
@[reducible] def LP131_0_v1 (xs : (List (List (TValue).D))) (k0 : (List (TColumn).D)) (m : Nat) (st_ : St) (K : X → St → Prop) : Prop := (True) ∧ LoopI (fun (i0 : Int) (v0 : Unit) => (⟨[(0, .brw (Ty.sl TValue) xs), (1, .fn 121 [.ref (.data (Ty.sl TColumn) k0)]), (7, .data (Ty.int .i64) (xs.length : Int)), (8, .data (Ty.int .i64) i0)], []⟩ : St)) (0 : Int) (xs.length : Int) (F.IndexFunc_impl_RowsOk_1_l0 xs k0) (fun v0 : Unit => True) (outD (fun v0 : Unit => True → K (.exit 0) (⟨[], []⟩ : St)) (fun q0 : Int => K .ret (⟨[(4, .data (Ty.int .i64) q0)], []⟩ : St))) m st_
def L131_v1 (xs : (List (List (TValue).D))) (k0 : (List (TColumn).D)) : Loops := fun id m st_ K => match id with
  | 0 => LP131_0_v1 xs k0 m st_ K
  | _ => False
theorem vc131_v1 (xs : (List (List (TValue).D))) (k0 : (List (TColumn).D)) (K : AV → Hp → Prop) : awp C131 (L131_v1 xs k0) ann131_v1 (bodyOf Go.Proofs.Tryz.f131) ⟨argEnv 0 [.brw (Ty.sl TValue) xs, .fn 121 [.ref (.data (Ty.sl TColumn) k0)]], []⟩ (outK tab Go.Proofs.Tryz.f131.results.toList (hasBox []) (resK (.dat (Ty.int .i64)) K)) =
  ((∃ m_, (True) ∧ LoopI (fun (i0 : Int) (v0 : Unit) => (⟨[(0, .brw (Ty.sl TValue) xs), (1, .fn 121 [.ref (.data (Ty.sl TColumn) k0)]), (7, .data (Ty.int .i64) (xs.length : Int)), (8, .data (Ty.int .i64) i0)], []⟩ : St)) (0 : Int) (xs.length : Int) (F.IndexFunc_impl_RowsOk_1_l0 xs k0) (fun v0 : Unit => True) (outD (fun v0 : Unit => True → K (.data (Ty.int .i64) (-1 : Int)) []) (fun q0 : Int => K (.data (Ty.int .i64) q0) [])) m_ (⟨[(0, .brw (Ty.sl TValue) xs), (1, .fn 121 [.ref (.data (Ty.sl TColumn) k0)]), (7, .data (Ty.int .i64) (xs.length : Int)), (8, .data (Ty.int .i64) (0 : Int))], []⟩ : St))) := by kernel_rfl
theorem lvc131_0_v1 (xs : (List (List (TValue).D))) (k0 : (List (TColumn).D))  (i0 : Int) (v0 : Unit) (m : Nat) (K : X → St → Prop) : awp C131 (L131_v1 xs k0) ann131_v1 (loopAt (bodyOf Go.Proofs.Tryz.f131) 0) (⟨[(0, .brw (Ty.sl TValue) xs), (1, .fn 121 [.ref (.data (Ty.sl TColumn) k0)]), (7, .data (Ty.int .i64) (xs.length : Int)), (8, .data (Ty.int .i64) i0)], []⟩ : St) (thenW (fun s' => ∃ m', m' < m ∧ (L131_v1 xs k0) 0 m' s' K) (exitN 0 (ann131_v1 (behind 0)) K)) =
  (cond (decide (i0 < (xs.length : Int))) ((0 ≤ i0) ∧ (i0 < (xs.length : Int)) ∧ (Sm (Ty.sl TValue) (nth (t := (Ty.sl TValue)) xs i0)) ∧ (Sm (Ty.sl TColumn) k0) ∧ cond (!M.rowFits k0 (nth (t := (Ty.sl TValue)) xs i0)) (K .ret (⟨[(4, .data (Ty.int .i64) i0)], []⟩ : St)) ((∃ m_, m_ < m ∧ (L131_v1 xs k0) 0 m_ (⟨[(0, .brw (Ty.sl TValue) xs), (1, .fn 121 [.ref (.data (Ty.sl TColumn) k0)]), (7, .data (Ty.int .i64) (xs.length : Int)), (8, .data (Ty.int .i64) (wrap64 (i0 + (1 : Int))))], []⟩ : St) K))) (K (.exit 0) (⟨[], []⟩ : St))) := by kernel_rfl
theorem con131_ok : ConOk P 131 c131 := by
  refine con_okR (fn := Go.Proofs.Tryz.f131) (code := bodyOf Go.Proofs.Tryz.f131) (tab_ok tab_check cmp_check) consOk131 mixed Go.Proofs.Tryz.func131 rfl rfl fun args hp K h0 => ?_
  rcases h0 with h0 | h0
  · obtain ⟨a0, a1, rfl, rfl, h1⟩ := args2_elim h0
    obtain ⟨xs, rfl, h2⟩ := withB_elim h1
    obtain ⟨cs1, rfl, h3⟩ := withF_elim h2
    obtain ⟨b1_0, b1_1, rfl, h4⟩ := caps2_elim h3
    obtain ⟨k0, rfl, h5⟩ := withR_elim h4
    obtain ⟨k1, rfl, h6⟩ := withR_elim h5
    obtain ⟨h_xs, h_k0, h_k1, p0, hK⟩ := h6
    have h : ok (F.IndexFunc_impl_Bond_breaks_2_1 xs k0 k1) (fun r => K (.data (Ty.int .i64) r) []) := ok_of_eq (F.IndexFunc_impl_Bond_breaks_2_1_eq xs k0 k1 h_xs h_k0 h_k1 p0) hK
    refine ⟨⟨show (2 : Nat) ≤ 19 by decide, show (2 : Nat) ≤ 1000000 by decide⟩, ann131_v0, (L131_v0 xs k0 k1), (.dat (Ty.int .i64)), (loopsN1 (i0 := 0) (by kernel_rfl) ?_), ?_⟩
    · clear h
      intro m_ s_ K_ h
      obtain ⟨hc0, i0, v0, rfl, hl0, rfl, hv0, h⟩ := (show LP131_0_v0 xs k0 k1 m_ s_ K_ from h)
      rw [lvc131_0_v0 xs k0 k1 i0 v0 _ K_]
      exact (loopI_step h (fun ht0 h => ⟨hl0, ⟨ht0, ⟨(sm_nth h_xs i0), ⟨h_k0, ⟨h_k1, ⟨(ok_guard h).1, have g_11 := (ok_guard h).1; have h := (ok_guard h).2; (ok_cond h (fun b_12 h => (have h := ok_ret h; h)) (fun b_12 h => (loopI_next (fun m hm => (show LP131_0_v0 xs k0 k1 m _ _ from ⟨hc0, hm⟩)) () rfl hl0 low0 ht0 (sm_len h_xs) trivial (have h := ok_ret h; h))))⟩⟩⟩⟩⟩⟩) (fun h => (h trivial)))
    · rw [vc131_v0 xs k0 k1 K]
      exact (loopI_start (fun m hm => ⟨trivial, hm⟩) (0 : Int) () rfl (Int.natCast_nonneg 0) trivial (ok_then h (fun v0 h hv0 => (have h := ok_ret h; h)) (fun q0 h => (have h := ok_ret h; h))))
  · obtain ⟨a0, a1, rfl, rfl, h1⟩ := args2_elim h0
    obtain ⟨xs, rfl, h2⟩ := withB_elim h1
    obtain ⟨cs1, rfl, h3⟩ := withF_elim h2
    obtain ⟨b1_0, rfl, h4⟩ := caps1_elim h3
    obtain ⟨k0, rfl, h5⟩ := withR_elim h4
    obtain ⟨h_xs, h_k0, hK⟩ := h5
    have h : ok (F.IndexFunc_impl_RowsOk_1 xs k0) (fun r => K (.data (Ty.int .i64) r) []) := ok_of_eq (F.IndexFunc_impl_RowsOk_1_eq xs k0 h_xs h_k0) hK
    refine ⟨⟨show (2 : Nat) ≤ 19 by decide, show (2 : Nat) ≤ 1000000 by decide⟩, ann131_v1, (L131_v1 xs k0), (.dat (Ty.int .i64)), (loopsN1 (i0 := 0) (by kernel_rfl) ?_), ?_⟩
    · clear h
      intro m_ s_ K_ h
      obtain ⟨hc0, i0, v0, rfl, hl0, rfl, hv0, h⟩ := (show LP131_0_v1 xs k0 m_ s_ K_ from h)
      rw [lvc131_0_v1 xs k0 i0 v0 _ K_]
      exact (loopI_step h (fun ht0 h => ⟨hl0, ⟨ht0, ⟨(sm_nth h_xs i0), ⟨h_k0, (ok_cond h (fun b_9 h => (have h := ok_ret h; h)) (fun b_9 h => (loopI_next (fun m hm => (show LP131_0_v1 xs k0 m _ _ from ⟨hc0, hm⟩)) () rfl hl0 low0 ht0 (sm_len h_xs) trivial (have h := ok_ret h; h))))⟩⟩⟩⟩) (fun h => (h trivial)))
    · rw [vc131_v1 xs k0 K]
      exact (loopI_start (fun m hm => ⟨trivial, hm⟩) (0 : Int) () rfl (Int.natCast_nonneg 0) trivial (ok_then h (fun v0 h hv0 => (have h := ok_ret h; h)) (fun q0 h => (have h := ok_ret h; h))))

/-! 100: slices.ContainsFunc[[][]loop.example/tablehouse/impl.Value,[]loop.example/tablehouse/impl.Value] -/
def c100 : Con := ⟨[.lent (Ty.sl TValue), .any], fun args hp K => (args2 (fun a0 a1 => withB (Ty.sl TValue) a0 fun xs => withF 98 a1 (caps2 (fun b1_0 b1_1 => withR (Ty.sl (Ty.int .i64)) b1_0 fun k0 => withR (Ty.sl TValue) b1_1 fun k1 => (Sm (Ty.sl (Ty.sl TValue)) xs) ∧ (Sm (Ty.sl (Ty.int .i64)) k0) ∧ (Sm (Ty.sl TValue) k1) ∧ (∀ e ∈ xs, M.inRow e k0) ∧ K (.data Ty.bool (List.any xs (fun e => decide (M.taken e k0 = k1)))) []))) args hp) ∨ (args2 (fun a0 a1 => withB (Ty.sl TValue) a0 fun xs => withF 121 a1 (caps1 (fun b1_0 => withR (Ty.sl TColumn) b1_0 fun k0 => (Sm (Ty.sl (Ty.sl TValue)) xs) ∧ (Sm (Ty.sl TColumn) k0) ∧ K (.data Ty.bool (List.any xs (fun e => !M.rowFits k0 e))) []))) args hp)⟩
def cons100 : Cons := [(98, c98), (121, c121), (131, c131)]
def inl100 : List (Nat × Inl) := []
@[reducible] def C100 : Ctx := ⟨tab, fun t => memN t cmps, cons100, 9, inl100, 0⟩
theorem consOk100 : ConsOk P C100 := by
  refine consOk_cons (enter_ok (fn := Go.Proofs.Tryz.f98) Go.Proofs.Tryz.func98 (by kernel_rfl) rfl) con98_ok ?_
  refine consOk_cons (enter_ok (fn := Go.Proofs.Tryz.f121) Go.Proofs.Tryz.func121 (by kernel_rfl) rfl) con121_ok ?_
  refine consOk_cons (enter_ok (fn := Go.Proofs.Tryz.f131) Go.Proofs.Tryz.func131 (by kernel_rfl) rfl) con131_ok ?_
  exact consOk_nil
def ann100_v0 : Nat → List Dir
  | 0 => [.keep [0, 1]]
  | 1 => [.keep [4]]
  | _ => []
def L100_v0 (xs : (List (List (TValue).D))) (k0 : (List Int)) (k1 : (List (TValue).D)) : Loops := fun id m st_ K => match id with
  | _ => False
theorem vc100_v0 (xs : (List (List (TValue).D))) (k0 : (List Int)) (k1 : (List (TValue).D)) (K : AV → Hp → Prop) : awp C100 (L100_v0 xs k0 k1) ann100_v0 (bodyOf Go.Proofs.Tryz.f100) ⟨argEnv 0 [.brw (Ty.sl TValue) xs, .fn 98 [.ref (.data (Ty.sl (Ty.int .i64)) k0), .ref (.data (Ty.sl TValue) k1)]], []⟩ (outK tab Go.Proofs.Tryz.f100.results.toList (hasBox []) (resK (.dat Ty.bool) K)) =
  ((((Sm (Ty.sl (Ty.sl TValue)) xs) ∧ (Sm (Ty.sl (Ty.int .i64)) k0) ∧ (Sm (Ty.sl TValue) k1) ∧ (∀ e ∈ xs, M.inRow e k0) ∧ K (.data Ty.bool (decide ((0 : Int) ≤ (M.idx (t := (Ty.sl TValue)) (fun e => decide (M.taken e k0 = k1)) xs)))) []) ∨ False)) := by kernel_rfl
def ann100_v1 : Nat → List Dir
  | 0 => [.keep [0, 1]]
  | 1 => [.keep [4]]
  | _ => []
def L100_v1 (xs : (List (List (TValue).D))) (k0 : (List (TColumn).D)) : Loops := fun id m st_ K => match id with
  | _ => False
theorem vc100_v1 (xs : (List (List (TValue).D))) (k0 : (List (TColumn).D)) (K : AV → Hp → Prop) : awp C100 (L100_v1 xs k0) ann100_v1 (bodyOf Go.Proofs.Tryz.f100) ⟨argEnv 0 [.brw (Ty.sl TValue) xs, .fn 121 [.ref (.data (Ty.sl TColumn) k0)]], []⟩ (outK tab Go.Proofs.Tryz.f100.results.toList (hasBox []) (resK (.dat Ty.bool) K)) =
  ((False ∨ ((Sm (Ty.sl (Ty.sl TValue)) xs) ∧ (Sm (Ty.sl TColumn) k0) ∧ K (.data Ty.bool (decide ((0 : Int) ≤ (M.idx (t := (Ty.sl TValue)) (fun e => !M.rowFits k0 e) xs)))) []))) := by kernel_rfl
theorem con100_ok : ConOk P 100 c100 := by
  refine con_okR (fn := Go.Proofs.Tryz.f100) (code := bodyOf Go.Proofs.Tryz.f100) (tab_ok tab_check cmp_check) consOk100 mixed Go.Proofs.Tryz.func100 rfl rfl fun args hp K h0 => ?_
  rcases h0 with h0 | h0
  · obtain ⟨a0, a1, rfl, rfl, h1⟩ := args2_elim h0
    obtain ⟨xs, rfl, h2⟩ := withB_elim h1
    obtain ⟨cs1, rfl, h3⟩ := withF_elim h2
    obtain ⟨b1_0, b1_1, rfl, h4⟩ := caps2_elim h3
    obtain ⟨k0, rfl, h5⟩ := withR_elim h4
    obtain ⟨k1, rfl, h6⟩ := withR_elim h5
    obtain ⟨h_xs, h_k0, h_k1, p0, hK⟩ := h6
    have h : ok (F.ContainsFunc_impl_Bond_breaks_2_1 xs k0 k1) (fun r => K (.data Ty.bool r) []) := ok_of_eq (F.ContainsFunc_impl_Bond_breaks_2_1_eq xs k0 k1 h_xs h_k0 h_k1 p0) hK
    refine ⟨⟨show (2 : Nat) ≤ 9 by decide, show (2 : Nat) ≤ 1000000 by decide⟩, ann100_v0, (L100_v0 xs k0 k1), (.dat Ty.bool), (no_loops (by kernel_rfl)), ?_⟩
    · rw [vc100_v0 xs k0 k1 K]
      exact (Or.inl (⟨h_xs, ⟨h_k0, ⟨h_k1, ⟨p0, (have h := ok_ret h; h)⟩⟩⟩⟩))
  · obtain ⟨a0, a1, rfl, rfl, h1⟩ := args2_elim h0
    obtain ⟨xs, rfl, h2⟩ := withB_elim h1
    obtain ⟨cs1, rfl, h3⟩ := withF_elim h2
    obtain ⟨b1_0, rfl, h4⟩ := caps1_elim h3
    obtain ⟨k0, rfl, h5⟩ := withR_elim h4
    obtain ⟨h_xs, h_k0, hK⟩ := h5
    have h : ok (F.ContainsFunc_impl_RowsOk_1 xs k0) (fun r => K (.data Ty.bool r) []) := ok_of_eq (F.ContainsFunc_impl_RowsOk_1_eq xs k0 h_xs h_k0) hK
    refine ⟨⟨show (2 : Nat) ≤ 9 by decide, show (2 : Nat) ≤ 1000000 by decide⟩, ann100_v1, (L100_v1 xs k0), (.dat Ty.bool), (no_loops (by kernel_rfl)), ?_⟩
    · rw [vc100_v1 xs k0 K]
      exact (Or.inr (⟨h_xs, ⟨h_k0, (have h := ok_ret h; h)⟩⟩))

/-! 88: loop.example/tablehouse/impl.RowsOk -/
def c88 : Con := ⟨[.dat (Ty.sl TColumn), .dat (Ty.sl (Ty.sl TValue))], fun args hp K => args2 (fun a0 a1 => withD (Ty.sl TColumn) a0 fun columns => withD (Ty.sl (Ty.sl TValue)) a1 fun rows => (Sm (Ty.sl TColumn) columns) ∧ (Sm (Ty.sl (Ty.sl TValue)) rows) ∧ K (.data Ty.bool (M.rowsOk columns rows)) []) args hp⟩
def cons88 : Cons := [(87, c87), (100, c100), (121, c121)]
def inl88 : List (Nat × Inl) := []
@[reducible] def C88 : Ctx := ⟨tab, fun t => memN t cmps, cons88, 13, inl88, 0⟩
theorem consOk88 : ConsOk P C88 := by
  refine consOk_cons (enter_ok (fn := Go.Proofs.Tryz.f87) Go.Proofs.Tryz.func87 (by kernel_rfl) rfl) con87_ok ?_
  refine consOk_cons (enter_ok (fn := Go.Proofs.Tryz.f100) Go.Proofs.Tryz.func100 (by kernel_rfl) rfl) con100_ok ?_
  refine consOk_cons (enter_ok (fn := Go.Proofs.Tryz.f121) Go.Proofs.Tryz.func121 (by kernel_rfl) rfl) con121_ok ?_
  exact consOk_nil
def ann88 : Nat → List Dir
  | 0 => [.fixBox 2, .keep [1, 2]]
  | 1 => [.keep [4]]
  | _ => []
def L88 (columns : (List (TColumn).D)) (rows : (List (List (TValue).D))) : Loops := fun id m st_ K => match id with
  | _ => False
theorem vc88 (columns : (List (TColumn).D)) (rows : (List (List (TValue).D))) (K : AV → Hp → Prop) : awp C88 (L88 columns rows) ann88 (bodyOf Go.Proofs.Tryz.f88) ⟨argEnv 0 [.data (Ty.sl TColumn) columns, .data (Ty.sl (Ty.sl TValue)) rows], []⟩ (outK tab Go.Proofs.Tryz.f88.results.toList (hasBox []) (resK (.dat Ty.bool) K)) =
  ((Sm (Ty.sl TColumn) columns) ∧ cond ((M.columnsOk columns) == true) ((False ∨ ((Sm (Ty.sl (Ty.sl TValue)) rows) ∧ (Sm (Ty.sl TColumn) columns) ∧ K (.data Ty.bool (!(List.any rows (fun e => !M.rowFits columns e)))) []))) (K (.data Ty.bool false) [])) := by kernel_rfl
theorem con88_ok : ConOk P 88 c88 := by
  refine con_okR (fn := Go.Proofs.Tryz.f88) (code := bodyOf Go.Proofs.Tryz.f88) (tab_ok tab_check cmp_check) consOk88 mixed Go.Proofs.Tryz.func88 rfl rfl fun args hp K h0 => ?_
  obtain ⟨a0, a1, rfl, rfl, h1⟩ := args2_elim h0
  obtain ⟨columns, rfl, h2⟩ := withD_elim h1
  obtain ⟨rows, rfl, h3⟩ := withD_elim h2
  obtain ⟨h_columns, h_rows, hK⟩ := h3
  have h : ok (F.impl_RowsOk columns rows) (fun r => K (.data Ty.bool r) []) := ok_of_eq (F.impl_RowsOk_eq columns rows h_columns h_rows) hK
  refine ⟨⟨show (2 : Nat) ≤ 13 by decide, show (2 : Nat) ≤ 1000000 by decide⟩, ann88, (L88 columns rows), (.dat Ty.bool), (no_loops (by kernel_rfl)), ?_⟩
  · rw [vc88 columns rows K]
    exact ⟨h_columns, (ok_cond h (fun b_1 h => (Or.inr (⟨h_rows, ⟨h_columns, (have h := ok_ret h; h)⟩⟩))) (fun b_1 h => (have h := ok_ret h; h)))⟩

/-! 86: loop.example/tablehouse/impl.TablesOk$1 -/
def c86 : Con := ⟨[.dat TTable], fun args hp K => args1 (fun a0 => withD TTable a0 fun t => (Sm TTable t) ∧ K (.data Ty.bool (!M.tableOk t)) []) args hp⟩
def cons86 : Cons := [(87, c87), (88, c88)]
def inl86 : List (Nat × Inl) := []
@[reducible] def C86 : Ctx := ⟨tab, fun t => memN t cmps, cons86, 21, inl86, 0⟩
theorem consOk86 : ConsOk P C86 := by
  refine consOk_cons (enter_ok (fn := Go.Proofs.Tryz.f87) Go.Proofs.Tryz.func87 (by kernel_rfl) rfl) con87_ok ?_
  refine consOk_cons (enter_ok (fn := Go.Proofs.Tryz.f88) Go.Proofs.Tryz.func88 (by kernel_rfl) rfl) con88_ok ?_
  exact consOk_nil
def ann86 : Nat → List Dir
  | 0 => [.fixRow 1 TTable, .keep [1]]
  | 1 => [.keep [2]]
  | _ => []
def L86 (t : (TTable).D) : Loops := fun id m st_ K => match id with
  | _ => False
theorem vc86 (t : (TTable).D) (K : AV → Hp → Prop) : awp C86 (L86 t) ann86 (bodyOf Go.Proofs.Tryz.f86) ⟨argEnv 0 [.data TTable t], []⟩ (outK tab Go.Proofs.Tryz.f86.results.toList (hasBox []) (resK (.dat Ty.bool) K)) =
  ((Sm (Ty.sl TColumn) t.1) ∧ cond ((!(M.columnsOk t.1)) == false) (cond ((decide ((6 : Int) < (t.2.1.length : Int))) == false) ((Sm (Ty.sl TColumn) t.1) ∧ (Sm (Ty.sl (Ty.sl TValue)) t.2.1) ∧ K (.data Ty.bool (!(M.rowsOk t.1 t.2.1))) []) (K (.data Ty.bool true) [])) (K (.data Ty.bool true) [])) := by kernel_rfl
theorem con86_ok : ConOk P 86 c86 := by
  refine con_okR (fn := Go.Proofs.Tryz.f86) (code := bodyOf Go.Proofs.Tryz.f86) (tab_ok tab_check cmp_check) consOk86 mixed Go.Proofs.Tryz.func86 rfl rfl fun args hp K h0 => ?_
  obtain ⟨a0, rfl, rfl, h1⟩ := args1_elim h0
  obtain ⟨t, rfl, h2⟩ := withD_elim h1
  obtain ⟨h_t, hK⟩ := h2
  have h : ok (F.impl_TablesOk_1 t) (fun r => K (.data Ty.bool r) []) := ok_of_eq (F.impl_TablesOk_1_eq t h_t) hK
  refine ⟨⟨show (1 : Nat) ≤ 21 by decide, show (1 : Nat) ≤ 1000000 by decide⟩, ann86, (L86 t), (.dat Ty.bool), (no_loops (by kernel_rfl)), ?_⟩
  · rw [vc86 t K]
    exact ⟨h_t.1, (ok_cond h (fun b_1 h => (ok_cond h (fun b_2 h => ⟨h_t.1, ⟨h_t.2.1, (have h := ok_ret h; h)⟩⟩) (fun b_2 h => (have h := ok_ret h; h)))) (fun b_1 h => (have h := ok_ret h; h)))⟩

/-! 118: slices.IndexFunc[[]loop.example/tablehouse/impl.Table,loop.example/tablehouse/impl.Table] -/
def c118 : Con := ⟨[.lent TTable, .any], fun args hp K => args2 (fun a0 a1 => withB TTable a0 fun xs => withF 86 a1 (caps0 ((Sm (Ty.sl TTable) xs) ∧ K (.data (Ty.int .i64) (M.idx (t := TTable) (fun e => !M.tableOk e) xs)) []))) args hp⟩
def cons118 : Cons := [(86, c86)]
def inl118 : List (Nat × Inl) := []
@[reducible] def C118 : Ctx := ⟨tab, fun t => memN t cmps, cons118, 19, inl118, 0⟩
theorem consOk118 : ConsOk P C118 := by
  refine consOk_cons (enter_ok (fn := Go.Proofs.Tryz.f86) Go.Proofs.Tryz.func86 (by kernel_rfl) rfl) con86_ok ?_
  exact consOk_nil
def ann118 : Nat → List Dir
  | 0 => [.keep [0, 1]]
  | 1 => [.keep [0, 1, 7, 8]]
  | 2 => [.keep [0, 1, 7, 8, 9]]
  | 3 => [.keep [0, 1, 5, 7, 8]]
  | 4 => [.keep [0, 1, 5, 7, 8, 16]]
  | 5 => [.keep [4]]
  | 6 => [.keep [0, 1, 7, 8]]
  | 7 => [.keep [4]]
  | 100000 => [.keep []]
  | _ => []
@[reducible] def LP118_0 (xs : (List (TTable).D)) (m : Nat) (st_ : St) (K : X → St → Prop) : Prop := (True) ∧ LoopI (fun (i0 : Int) (v0 : Unit) => (⟨[(0, .brw TTable xs), (1, .fn 86 []), (7, .data (Ty.int .i64) (xs.length : Int)), (8, .data (Ty.int .i64) i0)], []⟩ : St)) (0 : Int) (xs.length : Int) (F.IndexFunc_impl_TablesOk_1_l0 xs) (fun v0 : Unit => True) (outD (fun v0 : Unit => True → K (.exit 0) (⟨[], []⟩ : St)) (fun q0 : Int => K .ret (⟨[(4, .data (Ty.int .i64) q0)], []⟩ : St))) m st_
def L118 (xs : (List (TTable).D)) : Loops := fun id m st_ K => match id with
  | 0 => LP118_0 xs m st_ K
  | _ => False
theorem vc118 (xs : (List (TTable).D)) (K : AV → Hp → Prop) : awp C118 (L118 xs) ann118 (bodyOf Go.Proofs.Tryz.f118) ⟨argEnv 0 [.brw TTable xs, .fn 86 []], []⟩ (outK tab Go.Proofs.Tryz.f118.results.toList (hasBox []) (resK (.dat (Ty.int .i64)) K)) =
  ((∃ m_, (True) ∧ LoopI (fun (i0 : Int) (v0 : Unit) => (⟨[(0, .brw TTable xs), (1, .fn 86 []), (7, .data (Ty.int .i64) (xs.length : Int)), (8, .data (Ty.int .i64) i0)], []⟩ : St)) (0 : Int) (xs.length : Int) (F.IndexFunc_impl_TablesOk_1_l0 xs) (fun v0 : Unit => True) (outD (fun v0 : Unit => True → K (.data (Ty.int .i64) (-1 : Int)) []) (fun q0 : Int => K (.data (Ty.int .i64) q0) [])) m_ (⟨[(0, .brw TTable xs), (1, .fn 86 []), (7, .data (Ty.int .i64) (xs.length : Int)), (8, .data (Ty.int .i64) (0 : Int))], []⟩ : St))) := by kernel_rfl
theorem lvc118_0 (xs : (List (TTable).D))  (i0 : Int) (v0 : Unit) (m : Nat) (K : X → St → Prop) : awp C118 (L118 xs) ann118 (loopAt (bodyOf Go.Proofs.Tryz.f118) 0) (⟨[(0, .brw TTable xs), (1, .fn 86 []), (7, .data (Ty.int .i64) (xs.length : Int)), (8, .data (Ty.int .i64) i0)], []⟩ : St) (thenW (fun s' => ∃ m', m' < m ∧ (L118 xs) 0 m' s' K) (exitN 0 (ann118 (behind 0)) K)) =
  (cond (decide (i0 < (xs.length : Int))) ((0 ≤ i0) ∧ (i0 < (xs.length : Int)) ∧ (Sm TTable (nth (t := TTable) xs i0)) ∧ cond (!M.tableOk (nth (t := TTable) xs i0)) (K .ret (⟨[(4, .data (Ty.int .i64) i0)], []⟩ : St)) ((∃ m_, m_ < m ∧ (L118 xs) 0 m_ (⟨[(0, .brw TTable xs), (1, .fn 86 []), (7, .data (Ty.int .i64) (xs.length : Int)), (8, .data (Ty.int .i64) (wrap64 (i0 + (1 : Int))))], []⟩ : St) K))) (K (.exit 0) (⟨[], []⟩ : St))) := by kernel_rfl
theorem con118_ok : ConOk P 118 c118 := by
  refine con_okR (fn := Go.Proofs.Tryz.f118) (code := bodyOf Go.Proofs.Tryz.f118) (tab_ok tab_check cmp_check) consOk118 mixed Go.Proofs.Tryz.func118 rfl rfl fun args hp K h0 => ?_
  obtain ⟨a0, a1, rfl, rfl, h1⟩ := args2_elim h0
  obtain ⟨xs, rfl, h2⟩ := withB_elim h1
  obtain ⟨cs1, rfl, h3⟩ := withF_elim h2
  obtain ⟨rfl, h4⟩ := caps0_elim h3
  obtain ⟨h_xs, hK⟩ := h4
  have h : ok (F.IndexFunc_impl_TablesOk_1 xs) (fun r => K (.data (Ty.int .i64) r) []) := ok_of_eq (F.IndexFunc_impl_TablesOk_1_eq xs h_xs) hK
  refine ⟨⟨show (2 : Nat) ≤ 19 by decide, show (2 : Nat) ≤ 1000000 by decide⟩, ann118, (L118 xs), (.dat (Ty.int .i64)), (loopsN1 (i0 := 0) (by kernel_rfl) ?_), ?_⟩
  · clear h
    intro m_ s_ K_ h
    obtain ⟨hc0, i0, v0, rfl, hl0, rfl, hv0, h⟩ := (show LP118_0 xs m_ s_ K_ from h)
    rw [lvc118_0 xs i0 v0 _ K_]
    exact (loopI_step h (fun ht0 h => ⟨hl0, ⟨ht0, ⟨(sm_nth h_xs i0), (ok_cond h (fun b_9 h => (have h := ok_ret h; h)) (fun b_9 h => (loopI_next (fun m hm => (show LP118_0 xs m _ _ from ⟨hc0, hm⟩)) () rfl hl0 low0 ht0 (sm_len h_xs) trivial (have h := ok_ret h; h))))⟩⟩⟩) (fun h => (h trivial)))
  · rw [vc118 xs K]
    exact (loopI_start (fun m hm => ⟨trivial, hm⟩) (0 : Int) () rfl (Int.natCast_nonneg 0) trivial (ok_then h (fun v0 h hv0 => (have h := ok_ret h; h)) (fun q0 h => (have h := ok_ret h; h))))

/-! 85: slices.ContainsFunc[[]loop.example/tablehouse/impl.Table,loop.example/tablehouse/impl.Table] -/
def c85 : Con := ⟨[.lent TTable, .any], fun args hp K => args2 (fun a0 a1 => withB TTable a0 fun xs => withF 86 a1 (caps0 ((Sm (Ty.sl TTable) xs) ∧ K (.data Ty.bool (List.any xs (fun e => !M.tableOk e))) []))) args hp⟩
def cons85 : Cons := [(86, c86), (118, c118)]
def inl85 : List (Nat × Inl) := []
@[reducible] def C85 : Ctx := ⟨tab, fun t => memN t cmps, cons85, 9, inl85, 0⟩
theorem consOk85 : ConsOk P C85 := by
  refine consOk_cons (enter_ok (fn := Go.Proofs.Tryz.f86) Go.Proofs.Tryz.func86 (by kernel_rfl) rfl) con86_ok ?_
  refine consOk_cons (enter_ok (fn := Go.Proofs.Tryz.f118) Go.Proofs.Tryz.func118 (by kernel_rfl) rfl) con118_ok ?_
  exact consOk_nil
def ann85 : Nat → List Dir
  | 0 => [.keep [0, 1]]
  | 1 => [.keep [4]]
  | _ => []
def L85 (xs : (List (TTable).D)) : Loops := fun id m st_ K => match id with
  | _ => False
theorem vc85 (xs : (List (TTable).D)) (K : AV → Hp → Prop) : awp C85 (L85 xs) ann85 (bodyOf Go.Proofs.Tryz.f85) ⟨argEnv 0 [.brw TTable xs, .fn 86 []], []⟩ (outK tab Go.Proofs.Tryz.f85.results.toList (hasBox []) (resK (.dat Ty.bool) K)) =
  ((Sm (Ty.sl TTable) xs) ∧ K (.data Ty.bool (decide ((0 : Int) ≤ (M.idx (t := TTable) (fun e => !M.tableOk e) xs)))) []) := by kernel_rfl
theorem con85_ok : ConOk P 85 c85 := by
  refine con_okR (fn := Go.Proofs.Tryz.f85) (code := bodyOf Go.Proofs.Tryz.f85) (tab_ok tab_check cmp_check) consOk85 mixed Go.Proofs.Tryz.func85 rfl rfl fun args hp K h0 => ?_
  obtain ⟨a0, a1, rfl, rfl, h1⟩ := args2_elim h0
  obtain ⟨xs, rfl, h2⟩ := withB_elim h1
  obtain ⟨cs1, rfl, h3⟩ := withF_elim h2
  obtain ⟨rfl, h4⟩ := caps0_elim h3
  obtain ⟨h_xs, hK⟩ := h4
  have h : ok (F.ContainsFunc_impl_TablesOk_1 xs) (fun r => K (.data Ty.bool r) []) := ok_of_eq (F.ContainsFunc_impl_TablesOk_1_eq xs h_xs) hK
  refine ⟨⟨show (2 : Nat) ≤ 9 by decide, show (2 : Nat) ≤ 1000000 by decide⟩, ann85, (L85 xs), (.dat Ty.bool), (no_loops (by kernel_rfl)), ?_⟩
  · rw [vc85 xs K]
    exact ⟨h_xs, (have h := ok_ret h; h)⟩

/-! 62: loop.example/tablehouse/impl.TablesOk -/
def c62 : Con := ⟨[.dat (Ty.sl TTable)], fun args hp K => args1 (fun a0 => withD (Ty.sl TTable) a0 fun tables => (Sm (Ty.sl TTable) tables) ∧ K (.data Ty.bool (M.tablesOk tables)) []) args hp⟩
def cons62 : Cons := [(85, c85)]
def inl62 : List (Nat × Inl) := []
@[reducible] def C62 : Ctx := ⟨tab, fun t => memN t cmps, cons62, 11, inl62, 0⟩
theorem consOk62 : ConsOk P C62 := by
  refine consOk_cons (enter_ok (fn := Go.Proofs.Tryz.f85) Go.Proofs.Tryz.func85 (by kernel_rfl) rfl) con85_ok ?_
  exact consOk_nil
def ann62 : Nat → List Dir
  | 0 => [.keep [0]]
  | 1 => [.keep [2]]
  | _ => []
def L62 (tables : (List (TTable).D)) : Loops := fun id m st_ K => match id with
  | _ => False
theorem vc62 (tables : (List (TTable).D)) (K : AV → Hp → Prop) : awp C62 (L62 tables) ann62 (bodyOf Go.Proofs.Tryz.f62) ⟨argEnv 0 [.data (Ty.sl TTable) tables], []⟩ (outK tab Go.Proofs.Tryz.f62.results.toList (hasBox []) (resK (.dat Ty.bool) K)) =
  (cond ((decide ((tables.length : Int) ≤ (3 : Int))) == true) ((Sm (Ty.sl TTable) tables) ∧ K (.data Ty.bool (!(List.any tables (fun e => !M.tableOk e)))) []) (K (.data Ty.bool false) [])) := by kernel_rfl
theorem con62_ok : ConOk P 62 c62 := by
  refine con_okR (fn := Go.Proofs.Tryz.f62) (code := bodyOf Go.Proofs.Tryz.f62) (tab_ok tab_check cmp_check) consOk62 mixed Go.Proofs.Tryz.func62 rfl rfl fun args hp K h0 => ?_
  obtain ⟨a0, rfl, rfl, h1⟩ := args1_elim h0
  obtain ⟨tables, rfl, h2⟩ := withD_elim h1
  obtain ⟨h_tables, hK⟩ := h2
  have h : ok (F.impl_TablesOk tables) (fun r => K (.data Ty.bool r) []) := ok_of_eq (F.impl_TablesOk_eq tables h_tables) hK
  refine ⟨⟨show (1 : Nat) ≤ 11 by decide, show (1 : Nat) ≤ 1000000 by decide⟩, ann62, (L62 tables), (.dat Ty.bool), (no_loops (by kernel_rfl)), ?_⟩
  · rw [vc62 tables K]
    exact (ok_cond h (fun b_1 h => ⟨h_tables, (have h := ok_ret h; h)⟩) (fun b_1 h => (have h := ok_ret h; h)))

/-! 124: loop.example/tablehouse/impl.listOk$1 -/
def c124 : Con := ⟨[.dat (Ty.int .i64), .any], fun args hp K => args2 (fun a0 a1 => withD (Ty.int .i64) a0 fun n => withA TTable a1 fun t => (Sm TTable t) ∧ K (.data Ty.bool (!M.inR n 0 (t.1.length - 1))) []) args hp⟩
def cons124 : Cons := [(89, c89)]
def inl124 : List (Nat × Inl) := []
@[reducible] def C124 : Ctx := ⟨tab, fun t => memN t cmps, cons124, 11, inl124, 0⟩
theorem consOk124 : ConsOk P C124 := by
  refine consOk_cons (enter_ok (fn := Go.Proofs.Tryz.f89) Go.Proofs.Tryz.func89 (by kernel_rfl) rfl) con89_ok ?_
  exact consOk_nil
def ann124 : Nat → List Dir
  | 0 => [.keep [0, 1]]
  | 1 => [.keep [3]]
  | _ => []
def L124 (n : Int) (t : (TTable).D) : Loops := fun id m st_ K => match id with
  | _ => False
theorem vc124 (n : Int) (t : (TTable).D) (K : AV → Hp → Prop) : awp C124 (L124 n t) ann124 (bodyOf Go.Proofs.Tryz.f124) ⟨argEnv 0 [.data (Ty.int .i64) n, .adr TTable t], []⟩ (outK tab Go.Proofs.Tryz.f124.results.toList (hasBox []) (resK (.dat Ty.bool) K)) =
  (K (.data Ty.bool (!(M.inR n (0 : Int) (wrap64 ((t.1.length : Int) - (1 : Int)))))) []) := by kernel_rfl
theorem con124_ok : ConOk P 124 c124 := by
  refine con_okR (fn := Go.Proofs.Tryz.f124) (code := bodyOf Go.Proofs.Tryz.f124) (tab_ok tab_check cmp_check) consOk124 mixed Go.Proofs.Tryz.func124 rfl rfl fun args hp K h0 => ?_
  obtain ⟨a0, a1, rfl, rfl, h1⟩ := args2_elim h0
  obtain ⟨n, rfl, h2⟩ := withD_elim h1
  obtain ⟨t, rfl, h3⟩ := withA_elim h2
  obtain ⟨h_t, hK⟩ := h3
  have h : ok (F.impl_listOk_1 n t) (fun r => K (.data Ty.bool r) []) := ok_of_eq (F.impl_listOk_1_eq n t h_t) hK
  refine ⟨⟨show (2 : Nat) ≤ 11 by decide, show (2 : Nat) ≤ 1000000 by decide⟩, ann124, (L124 n t), (.dat Ty.bool), (no_loops (by kernel_rfl)), ?_⟩
  · rw [vc124 n t K]
    exact (have h := ok_ret h; h)

/-! 148: (loop.example/tablehouse/impl.Part).kind$1$1 -/
def c148 : Con := ⟨[.dat (Ty.int .i64), .any], fun args hp K => args2 (fun a0 a1 => withD (Ty.int .i64) a0 fun k => withR (Ty.int .i64) a1 fun kind => K (.data Ty.bool (!decide (k = kind))) []) args hp⟩
def cons148 : Cons := []
def inl148 : List (Nat × Inl) := []
@[reducible] def C148 : Ctx := ⟨tab, fun t => memN t cmps, cons148, 7, inl148, 0⟩
theorem consOk148 : ConsOk P C148 := by
  exact consOk_nil
def ann148 : Nat → List Dir
  | 0 => [.keep [0, 1]]
  | 1 => [.keep [3]]
  | _ => []
def L148 (k : Int) (kind : Int) : Loops := fun id m st_ K => match id with
  | _ => False
theorem vc148 (k : Int) (kind : Int) (K : AV → Hp → Prop) : awp C148 (L148 k kind) ann148 (bodyOf Go.Proofs.Tryz.f148) ⟨argEnv 0 [.data (Ty.int .i64) k, .ref (.data (Ty.int .i64) kind)], []⟩ (outK tab Go.Proofs.Tryz.f148.results.toList (hasBox []) (resK (.dat Ty.bool) K)) =
  (K (.data Ty.bool (!decide (k = kind))) []) := by kernel_rfl
theorem con148_ok : ConOk P 148 c148 := by
  refine con_okR (fn := Go.Proofs.Tryz.f148) (code := bodyOf Go.Proofs.Tryz.f148) (tab_ok tab_check cmp_check) consOk148 mixed Go.Proofs.Tryz.func148 rfl rfl fun args hp K h0 => ?_
  obtain ⟨a0, a1, rfl, rfl, h1⟩ := args2_elim h0
  obtain ⟨k, rfl, h2⟩ := withD_elim h1
  obtain ⟨kind, rfl, h3⟩ := withR_elim h2
  have hK := h3
  have h : ok (F.impl_Part_kind_1_1 k kind) (fun r => K (.data Ty.bool r) []) := ok_of_eq (F.impl_Part_kind_1_1_eq k kind) hK
  refine ⟨⟨show (2 : Nat) ≤ 7 by decide, show (2 : Nat) ≤ 1000000 by decide⟩, ann148, (L148 k kind), (.dat Ty.bool), (no_loops (by kernel_rfl)), ?_⟩
  · rw [vc148 k kind K]
    exact (have h := ok_ret h; h)

/-! 145: slices.IndexFunc[[]int,int] -/
def c145 : Con := ⟨[.lent (Ty.int .i64), .any], fun args hp K => (args2 (fun a0 a1 => withB (Ty.int .i64) a0 fun xs => withF 124 a1 (caps1 (fun b1_0 => withA TTable b1_0 fun k0 => (Sm (Ty.sl (Ty.int .i64)) xs) ∧ (Sm TTable k0) ∧ K (.data (Ty.int .i64) (M.idx (t := (Ty.int .i64)) (fun e => !M.inR e 0 (k0.1.length - 1)) xs)) []))) args hp) ∨ (args2 (fun a0 a1 => withB (Ty.int .i64) a0 fun xs => withF 148 a1 (caps1 (fun b1_0 => withR (Ty.int .i64) b1_0 fun k0 => (Sm (Ty.sl (Ty.int .i64)) xs) ∧ K (.data (Ty.int .i64) (M.idx (t := (Ty.int .i64)) (fun e => !decide (e = k0)) xs)) []))) args hp)⟩
def cons145 : Cons := [(124, c124), (148, c148)]
def inl145 : List (Nat × Inl) := []
@[reducible] def C145 : Ctx := ⟨tab, fun t => memN t cmps, cons145, 19, inl145, 0⟩
theorem consOk145 : ConsOk P C145 := by
  refine consOk_cons (enter_ok (fn := Go.Proofs.Tryz.f124) Go.Proofs.Tryz.func124 (by kernel_rfl) rfl) con124_ok ?_
  refine consOk_cons (enter_ok (fn := Go.Proofs.Tryz.f148) Go.Proofs.Tryz.func148 (by kernel_rfl) rfl) con148_ok ?_
  exact consOk_nil
def ann145_v0 : Nat → List Dir
  | 0 => [.keep [0, 1]]
  | 1 => [.keep [0, 1, 7, 8]]
  | 2 => [.keep [0, 1, 7, 8, 9]]
  | 3 => [.keep [0, 1, 5, 7, 8]]
  | 4 => [.keep [0, 1, 5, 7, 8, 16]]
  | 5 => [.keep [4]]
  | 6 => [.keep [0, 1, 7, 8]]
  | 7 => [.keep [4]]
  | 100000 => [.keep []]
  | _ => []
@[reducible] def LP145_0_v0 (xs : (List Int)) (k0 : (TTable).D) (m : Nat) (st_ : St) (K : X → St → Prop) : Prop := (True) ∧ LoopI (fun (i0 : Int) (v0 : Unit) => (⟨[(0, .brw (Ty.int .i64) xs), (1, .fn 124 [.adr TTable k0]), (7, .data (Ty.int .i64) (xs.length : Int)), (8, .data (Ty.int .i64) i0)], []⟩ : St)) (0 : Int) (xs.length : Int) (F.IndexFunc_impl_listOk_1_l0 xs k0) (fun v0 : Unit => True) (outD (fun v0 : Unit => True → K (.exit 0) (⟨[], []⟩ : St)) (fun q0 : Int => K .ret (⟨[(4, .data (Ty.int .i64) q0)], []⟩ : St))) m st_
def L145_v0 (xs : (List Int)) (k0 : (TTable).D) : Loops := fun id m st_ K => match id with
  | 0 => LP145_0_v0 xs k0 m st_ K
  | _ => False
theorem vc145_v0 (xs : (List Int)) (k0 : (TTable).D) (K : AV → Hp → Prop) : awp C145 (L145_v0 xs k0) ann145_v0 (bodyOf Go.Proofs.Tryz.f145) ⟨argEnv 0 [.brw (Ty.int .i64) xs, .fn 124 [.adr TTable k0]], []⟩ (outK tab Go.Proofs.Tryz.f145.results.toList (hasBox []) (resK (.dat (Ty.int .i64)) K)) =
  ((∃ m_, (True) ∧ LoopI (fun (i0 : Int) (v0 : Unit) => (⟨[(0, .brw (Ty.int .i64) xs), (1, .fn 124 [.adr TTable k0]), (7, .data (Ty.int .i64) (xs.length : Int)), (8, .data (Ty.int .i64) i0)], []⟩ : St)) (0 : Int) (xs.length : Int) (F.IndexFunc_impl_listOk_1_l0 xs k0) (fun v0 : Unit => True) (outD (fun v0 : Unit => True → K (.data (Ty.int .i64) (-1 : Int)) []) (fun q0 : Int => K (.data (Ty.int .i64) q0) [])) m_ (⟨[(0, .brw (Ty.int .i64) xs), (1, .fn 124 [.adr TTable k0]), (7, .data (Ty.int .i64) (xs.length : Int)), (8, .data (Ty.int .i64) (0 : Int))], []⟩ : St))) := by kernel_rfl
theorem lvc145_0_v0 (xs : (List Int)) (k0 : (TTable).D)  (i0 : Int) (v0 : Unit) (m : Nat) (K : X → St → Prop) : awp C145 (L145_v0 xs k0) ann145_v0 (loopAt (bodyOf Go.Proofs.Tryz.f145) 0) (⟨[(0, .brw (Ty.int .i64) xs), (1, .fn 124 [.adr TTable k0]), (7, .data (Ty.int .i64) (xs.length : Int)), (8, .data (Ty.int .i64) i0)], []⟩ : St) (thenW (fun s' => ∃ m', m' < m ∧ (L145_v0 xs k0) 0 m' s' K) (exitN 0 (ann145_v0 (behind 0)) K)) =
  (cond (decide (i0 < (xs.length : Int))) ((0 ≤ i0) ∧ (i0 < (xs.length : Int)) ∧ (Sm TTable k0) ∧ cond (!M.inR (nth (t := (Ty.int .i64)) xs i0) 0 (k0.1.length - 1)) (K .ret (⟨[(4, .data (Ty.int .i64) i0)], []⟩ : St)) ((∃ m_, m_ < m ∧ (L145_v0 xs k0) 0 m_ (⟨[(0, .brw (Ty.int .i64) xs), (1, .fn 124 [.adr TTable k0]), (7, .data (Ty.int .i64) (xs.length : Int)), (8, .data (Ty.int .i64) (wrap64 (i0 + (1 : Int))))], []⟩ : St) K))) (K (.exit 0) (⟨[], []⟩ : St))) := by kernel_rfl
def ann145_v1 : Nat → List Dir
  | 0 => [.keep [0, 1]]
  | 1 => [.keep [0, 1, 7, 8]]
  | 2 => [.keep [0, 1, 7, 8, 9]]
  | 3 => [.keep [0, 1, 5, 7, 8]]
  | 4 => [.keep [0, 1, 5, 7, 8, 16]]
  | 5 => [.keep [4]]
  | 6 => [.keep [0, 1, 7, 8]]
  | 7 => [.keep [4]]
  | 100000 => [.keep []]
  | _ => []
@[reducible] def LP145_0_v1 (xs : (List Int)) (k0 : Int) (m : Nat) (st_ : St) (K : X → St → Prop) : Prop := (True) ∧ LoopI (fun (i0 : Int) (v0 : Unit) => (⟨[(0, .brw (Ty.int .i64) xs), (1, .fn 148 [.ref (.data (Ty.int .i64) k0)]), (7, .data (Ty.int .i64) (xs.length : Int)), (8, .data (Ty.int .i64) i0)], []⟩ : St)) (0 : Int) (xs.length : Int) (F.IndexFunc_impl_Part_kind_1_1_l0 xs k0) (fun v0 : Unit => True) (outD (fun v0 : Unit => True → K (.exit 0) (⟨[], []⟩ : St)) (fun q0 : Int => K .ret (⟨[(4, .data (Ty.int .i64) q0)], []⟩ : St))) m st_
def L145_v1 (xs : (List Int)) (k0 : Int) : Loops := fun id m st_ K => match id with
  | 0 => LP145_0_v1 xs k0 m st_ K
  | _ => False
theorem vc145_v1 (xs : (List Int)) (k0 : Int) (K : AV → Hp → Prop) : awp C145 (L145_v1 xs k0) ann145_v1 (bodyOf Go.Proofs.Tryz.f145) ⟨argEnv 0 [.brw (Ty.int .i64) xs, .fn 148 [.ref (.data (Ty.int .i64) k0)]], []⟩ (outK tab Go.Proofs.Tryz.f145.results.toList (hasBox []) (resK (.dat (Ty.int .i64)) K)) =
  ((∃ m_, (True) ∧ LoopI (fun (i0 : Int) (v0 : Unit) => (⟨[(0, .brw (Ty.int .i64) xs), (1, .fn 148 [.ref (.data (Ty.int .i64) k0)]), (7, .data (Ty.int .i64) (xs.length : Int)), (8, .data (Ty.int .i64) i0)], []⟩ : St)) (0 : Int) (xs.length : Int) (F.IndexFunc_impl_Part_kind_1_1_l0 xs k0) (fun v0 : Unit => True) (outD (fun v0 : Unit => True → K (.data (Ty.int .i64) (-1 : Int)) []) (fun q0 : Int => K (.data (Ty.int .i64) q0) [])) m_ (⟨[(0, .brw (Ty.int .i64) xs), (1, .fn 148 [.ref (.data (Ty.int .i64) k0)]), (7, .data (Ty.int .i64) (xs.length : Int)), (8, .data (Ty.int .i64) (0 : Int))], []⟩ : St))) := by kernel_rfl
theorem lvc145_0_v1 (xs : (List Int)) (k0 : Int)  (i0 : Int) (v0 : Unit) (m : Nat) (K : X → St → Prop) : awp C145 (L145_v1 xs k0) ann145_v1 (loopAt (bodyOf Go.Proofs.Tryz.f145) 0) (⟨[(0, .brw (Ty.int .i64) xs), (1, .fn 148 [.ref (.data (Ty.int .i64) k0)]), (7, .data (Ty.int .i64) (xs.length : Int)), (8, .data (Ty.int .i64) i0)], []⟩ : St) (thenW (fun s' => ∃ m', m' < m ∧ (L145_v1 xs k0) 0 m' s' K) (exitN 0 (ann145_v1 (behind 0)) K)) =
  (cond (decide (i0 < (xs.length : Int))) ((0 ≤ i0) ∧ (i0 < (xs.length : Int)) ∧ cond (!decide ((nth (t := (Ty.int .i64)) xs i0) = k0)) (K .ret (⟨[(4, .data (Ty.int .i64) i0)], []⟩ : St)) ((∃ m_, m_ < m ∧ (L145_v1 xs k0) 0 m_ (⟨[(0, .brw (Ty.int .i64) xs), (1, .fn 148 [.ref (.data (Ty.int .i64) k0)]), (7, .data (Ty.int .i64) (xs.length : Int)), (8, .data (Ty.int .i64) (wrap64 (i0 + (1 : Int))))], []⟩ : St) K))) (K (.exit 0) (⟨[], []⟩ : St))) := by kernel_rfl
theorem con145_ok : ConOk P 145 c145 := by
  refine con_okR (fn := Go.Proofs.Tryz.f145) (code := bodyOf Go.Proofs.Tryz.f145) (tab_ok tab_check cmp_check) consOk145 mixed Go.Proofs.Tryz.func145 rfl rfl fun args hp K h0 => ?_
  rcases h0 with h0 | h0
  · obtain ⟨a0, a1, rfl, rfl, h1⟩ := args2_elim h0
    obtain ⟨xs, rfl, h2⟩ := withB_elim h1
    obtain ⟨cs1, rfl, h3⟩ := withF_elim h2
    obtain ⟨b1_0, rfl, h4⟩ := caps1_elim h3
    obtain ⟨k0, rfl, h5⟩ := withA_elim h4
    obtain ⟨h_xs, h_k0, hK⟩ := h5
    have h : ok (F.IndexFunc_impl_listOk_1 xs k0) (fun r => K (.data (Ty.int .i64) r) []) := ok_of_eq (F.IndexFunc_impl_listOk_1_eq xs k0 h_xs h_k0) hK
    refine ⟨⟨show (2 : Nat) ≤ 19 by decide, show (2 : Nat) ≤ 1000000 by decide⟩, ann145_v0, (L145_v0 xs k0), (.dat (Ty.int .i64)), (loopsN1 (i0 := 0) (by kernel_rfl) ?_), ?_⟩
    · clear h
      intro m_ s_ K_ h
      obtain ⟨hc0, i0, v0, rfl, hl0, rfl, hv0, h⟩ := (show LP145_0_v0 xs k0 m_ s_ K_ from h)
      rw [lvc145_0_v0 xs k0 i0 v0 _ K_]
      exact (loopI_step h (fun ht0 h => ⟨hl0, ⟨ht0, ⟨h_k0, (ok_cond h (fun b_9 h => (have h := ok_ret h; h)) (fun b_9 h => (loopI_next (fun m hm => (show LP145_0_v0 xs k0 m _ _ from ⟨hc0, hm⟩)) () rfl hl0 low0 ht0 (sm_len h_xs) trivial (have h := ok_ret h; h))))⟩⟩⟩) (fun h => (h trivial)))
    · rw [vc145_v0 xs k0 K]
      exact (loopI_start (fun m hm => ⟨trivial, hm⟩) (0 : Int) () rfl (Int.natCast_nonneg 0) trivial (ok_then h (fun v0 h hv0 => (have h := ok_ret h; h)) (fun q0 h => (have h := ok_ret h; h))))
  · obtain ⟨a0, a1, rfl, rfl, h1⟩ := args2_elim h0
    obtain ⟨xs, rfl, h2⟩ := withB_elim h1
    obtain ⟨cs1, rfl, h3⟩ := withF_elim h2
    obtain ⟨b1_0, rfl, h4⟩ := caps1_elim h3
    obtain ⟨k0, rfl, h5⟩ := withR_elim h4
    obtain ⟨h_xs, hK⟩ := h5
    have h : ok (F.IndexFunc_impl_Part_kind_1_1 xs k0) (fun r => K (.data (Ty.int .i64) r) []) := ok_of_eq (F.IndexFunc_impl_Part_kind_1_1_eq xs k0 h_xs) hK
    refine ⟨⟨show (2 : Nat) ≤ 19 by decide, show (2 : Nat) ≤ 1000000 by decide⟩, ann145_v1, (L145_v1 xs k0), (.dat (Ty.int .i64)), (loopsN1 (i0 := 0) (by kernel_rfl) ?_), ?_⟩
    · clear h
      intro m_ s_ K_ h
      obtain ⟨hc0, i0, v0, rfl, hl0, rfl, hv0, h⟩ := (show LP145_0_v1 xs k0 m_ s_ K_ from h)
      rw [lvc145_0_v1 xs k0 i0 v0 _ K_]
      exact (loopI_step h (fun ht0 h => ⟨hl0, ⟨ht0, (ok_cond h (fun b_9 h => (have h := ok_ret h; h)) (fun b_9 h => (loopI_next (fun m hm => (show LP145_0_v1 xs k0 m _ _ from ⟨hc0, hm⟩)) () rfl hl0 low0 ht0 (sm_len h_xs) trivial (have h := ok_ret h; h))))⟩⟩) (fun h => (h trivial)))
    · rw [vc145_v1 xs k0 K]
      exact (loopI_start (fun m hm => ⟨trivial, hm⟩) (0 : Int) () rfl (Int.natCast_nonneg 0) trivial (ok_then h (fun v0 h hv0 => (have h := ok_ret h; h)) (fun q0 h => (have h := ok_ret h; h))))

/-! 123: slices.ContainsFunc[[]int,int] -/
def c123 : Con := ⟨[.lent (Ty.int .i64), .any], fun args hp K => (args2 (fun a0 a1 => withB (Ty.int .i64) a0 fun xs => withF 124 a1 (caps1 (fun b1_0 => withA TTable b1_0 fun k0 => (Sm (Ty.sl (Ty.int .i64)) xs) ∧ (Sm TTable k0) ∧ K (.data Ty.bool (List.any xs (fun e => !M.inR e 0 (k0.1.length - 1)))) []))) args hp) ∨ (args2 (fun a0 a1 => withB (Ty.int .i64) a0 fun xs => withF 148 a1 (caps1 (fun b1_0 => withR (Ty.int .i64) b1_0 fun k0 => (Sm (Ty.sl (Ty.int .i64)) xs) ∧ K (.data Ty.bool (List.any xs (fun e => !decide (e = k0)))) []))) args hp)⟩
def cons123 : Cons := [(124, c124), (145, c145), (148, c148)]
def inl123 : List (Nat × Inl) := []
@[reducible] def C123 : Ctx := ⟨tab, fun t => memN t cmps, cons123, 9, inl123, 0⟩
theorem consOk123 : ConsOk P C123 := by
  refine consOk_cons (enter_ok (fn := Go.Proofs.Tryz.f124) Go.Proofs.Tryz.func124 (by kernel_rfl) rfl) con124_ok ?_
  refine consOk_cons (enter_ok (fn := Go.Proofs.Tryz.f145) Go.Proofs.Tryz.func145 (by kernel_rfl) rfl) con145_ok ?_
  refine consOk_cons (enter_ok (fn := Go.Proofs.Tryz.f148) Go.Proofs.Tryz.func148 (by kernel_rfl) rfl) con148_ok ?_
  exact consOk_nil
def ann123_v0 : Nat → List Dir
  | 0 => [.keep [0, 1]]
  | 1 => [.keep [4]]
  | _ => []
def L123_v0 (xs : (List Int)) (k0 : (TTable).D) : Loops := fun id m st_ K => match id with
  | _ => False
theorem vc123_v0 (xs : (List Int)) (k0 : (TTable).D) (K : AV → Hp → Prop) : awp C123 (L123_v0 xs k0) ann123_v0 (bodyOf Go.Proofs.Tryz.f123) ⟨argEnv 0 [.brw (Ty.int .i64) xs, .fn 124 [.adr TTable k0]], []⟩ (outK tab Go.Proofs.Tryz.f123.results.toList (hasBox []) (resK (.dat Ty.bool) K)) =
  ((((Sm (Ty.sl (Ty.int .i64)) xs) ∧ (Sm TTable k0) ∧ K (.data Ty.bool (decide ((0 : Int) ≤ (M.idx (t := (Ty.int .i64)) (fun e => !M.inR e 0 (k0.1.length - 1)) xs)))) []) ∨ False)) := by kernel_rfl
def ann123_v1 : Nat → List Dir
  | 0 => [.keep [0, 1]]
  | 1 => [.keep [4]]
  | _ => []
def L123_v1 (xs : (List Int)) (k0 : Int) : Loops := fun id m st_ K => match id with
  | _ => False
theorem vc123_v1 (xs : (List Int)) (k0 : Int) (K : AV → Hp → Prop) : awp C123 (L123_v1 xs k0) ann123_v1 (bodyOf Go.Proofs.Tryz.f123) ⟨argEnv 0 [.brw (Ty.int .i64) xs, .fn 148 [.ref (.data (Ty.int .i64) k0)]], []⟩ (outK tab Go.Proofs.Tryz.f123.results.toList (hasBox []) (resK (.dat Ty.bool) K)) =
  ((False ∨ ((Sm (Ty.sl (Ty.int .i64)) xs) ∧ K (.data Ty.bool (decide ((0 : Int) ≤ (M.idx (t := (Ty.int .i64)) (fun e => !decide (e = k0)) xs)))) []))) := by kernel_rfl
theorem con123_ok : ConOk P 123 c123 := by
  refine con_okR (fn := Go.Proofs.Tryz.f123) (code := bodyOf Go.Proofs.Tryz.f123) (tab_ok tab_check cmp_check) consOk123 mixed Go.Proofs.Tryz.func123 rfl rfl fun args hp K h0 => ?_
  rcases h0 with h0 | h0
  · obtain ⟨a0, a1, rfl, rfl, h1⟩ := args2_elim h0
    obtain ⟨xs, rfl, h2⟩ := withB_elim h1
    obtain ⟨cs1, rfl, h3⟩ := withF_elim h2
    obtain ⟨b1_0, rfl, h4⟩ := caps1_elim h3
    obtain ⟨k0, rfl, h5⟩ := withA_elim h4
    obtain ⟨h_xs, h_k0, hK⟩ := h5
    have h : ok (F.ContainsFunc_impl_listOk_1 xs k0) (fun r => K (.data Ty.bool r) []) := ok_of_eq (F.ContainsFunc_impl_listOk_1_eq xs k0 h_xs h_k0) hK
    refine ⟨⟨show (2 : Nat) ≤ 9 by decide, show (2 : Nat) ≤ 1000000 by decide⟩, ann123_v0, (L123_v0 xs k0), (.dat Ty.bool), (no_loops (by kernel_rfl)), ?_⟩
    · rw [vc123_v0 xs k0 K]
      exact (Or.inl (⟨h_xs, ⟨h_k0, (have h := ok_ret h; h)⟩⟩))
  · obtain ⟨a0, a1, rfl, rfl, h1⟩ := args2_elim h0
    obtain ⟨xs, rfl, h2⟩ := withB_elim h1
    obtain ⟨cs1, rfl, h3⟩ := withF_elim h2
    obtain ⟨b1_0, rfl, h4⟩ := caps1_elim h3
    obtain ⟨k0, rfl, h5⟩ := withR_elim h4
    obtain ⟨h_xs, hK⟩ := h5
    have h : ok (F.ContainsFunc_impl_Part_kind_1_1 xs k0) (fun r => K (.data Ty.bool r) []) := ok_of_eq (F.ContainsFunc_impl_Part_kind_1_1_eq xs k0 h_xs) hK
    refine ⟨⟨show (2 : Nat) ≤ 9 by decide, show (2 : Nat) ≤ 1000000 by decide⟩, ann123_v1, (L123_v1 xs k0), (.dat Ty.bool), (no_loops (by kernel_rfl)), ?_⟩
    · rw [vc123_v1 xs k0 K]
      exact (Or.inr (⟨h_xs, (have h := ok_ret h; h)⟩))

/-! 90: loop.example/tablehouse/impl.listOk -/
def c90 : Con := ⟨[.dat TTable, .dat (Ty.sl (Ty.int .i64))], fun args hp K => args2 (fun a0 a1 => withD TTable a0 fun t => withD (Ty.sl (Ty.int .i64)) a1 fun list => (Sm TTable t) ∧ (Sm (Ty.sl (Ty.int .i64)) list) ∧ K (.data Ty.bool (M.listOk t.1 list)) []) args hp⟩
def cons90 : Cons := [(89, c89), (123, c123), (124, c124)]
def inl90 : List (Nat × Inl) := []
@[reducible] def C90 : Ctx := ⟨tab, fun t => memN t cmps, cons90, 14, inl90, 0⟩
theorem consOk90 : ConsOk P C90 := by
  refine consOk_cons (enter_ok (fn := Go.Proofs.Tryz.f89) Go.Proofs.Tryz.func89 (by kernel_rfl) rfl) con89_ok ?_
  refine consOk_cons (enter_ok (fn := Go.Proofs.Tryz.f123) Go.Proofs.Tryz.func123 (by kernel_rfl) rfl) con123_ok ?_
  refine consOk_cons (enter_ok (fn := Go.Proofs.Tryz.f124) Go.Proofs.Tryz.func124 (by kernel_rfl) rfl) con124_ok ?_
  exact consOk_nil
def ann90 : Nat → List Dir
  | 0 => [.fixRow 2 TTable, .keep [1, 2]]
  | 1 => [.keep [4]]
  | _ => []
def L90 (t : (TTable).D) (list : (List Int)) : Loops := fun id m st_ K => match id with
  | _ => False
theorem vc90 (t : (TTable).D) (list : (List Int)) (K : AV → Hp → Prop) : awp C90 (L90 t list) ann90 (bodyOf Go.Proofs.Tryz.f90) ⟨argEnv 0 [.data TTable t, .data (Ty.sl (Ty.int .i64)) list], []⟩ (outK tab Go.Proofs.Tryz.f90.results.toList (hasBox []) (resK (.dat Ty.bool) K)) =
  (cond ((M.inR (list.length : Int) (1 : Int) (4 : Int)) == true) ((((Sm (Ty.sl (Ty.int .i64)) list) ∧ (Sm TTable t) ∧ K (.data Ty.bool (!(List.any list (fun e => !M.inR e 0 (t.1.length - 1))))) []) ∨ False)) (K (.data Ty.bool false) [])) := by kernel_rfl
theorem con90_ok : ConOk P 90 c90 := by
  refine con_okR (fn := Go.Proofs.Tryz.f90) (code := bodyOf Go.Proofs.Tryz.f90) (tab_ok tab_check cmp_check) consOk90 mixed Go.Proofs.Tryz.func90 rfl rfl fun args hp K h0 => ?_
  obtain ⟨a0, a1, rfl, rfl, h1⟩ := args2_elim h0
  obtain ⟨t, rfl, h2⟩ := withD_elim h1
  obtain ⟨list, rfl, h3⟩ := withD_elim h2
  obtain ⟨h_t, h_list, hK⟩ := h3
  have h : ok (F.impl_listOk t list) (fun r => K (.data Ty.bool r) []) := ok_of_eq (F.impl_listOk_eq t list h_t h_list) hK
  refine ⟨⟨show (2 : Nat) ≤ 14 by decide, show (2 : Nat) ≤ 1000000 by decide⟩, ann90, (L90 t list), (.dat Ty.bool), (no_loops (by kernel_rfl)), ?_⟩
  · rw [vc90 t list K]
    exact (ok_cond h (fun b_1 h => (Or.inl (⟨h_list, ⟨h_t, (have h := ok_ret h; h)⟩⟩))) (fun b_1 h => (have h := ok_ret h; h)))

/-! 125: (loop.example/tablehouse/impl.Part).takes -/
def c125 : Con := ⟨[.dat TPart], fun args hp K => args1 (fun a0 => withD TPart a0 fun p => (Sm TPart p) ∧ K (.data (Ty.int .i64) (M.takes p)) []) args hp⟩
def cons125 : Cons := []
def inl125 : List (Nat × Inl) := []
@[reducible] def C125 : Ctx := ⟨tab, fun t => memN t cmps, cons125, 13, inl125, 0⟩
theorem consOk125 : ConsOk P C125 := by
  exact consOk_nil
def ann125 : Nat → List Dir
  | 0 => [.fixRow 1 TPart, .keep [1]]
  | 1 => [.keep [4]]
  | 2 => [.keep [4, 5]]
  | 3 => [.keep [4, 5]]
  | 4 => [.keep [4, 5]]
  | 5 => [.keep [4, 5]]
  | 6 => [.keep [2]]
  | 7 => [.keep [4, 10]]
  | 8 => [.keep [10]]
  | 9 => [.keep [2]]
  | 10 => [.keep [2]]
  | _ => []
def L125 (p : (TPart).D) : Loops := fun id m st_ K => match id with
  | _ => False
theorem vc125 (p : (TPart).D) (K : AV → Hp → Prop) : awp C125 (L125 p) ann125 (bodyOf Go.Proofs.Tryz.f125) ⟨argEnv 0 [.data TPart p], []⟩ (outK tab Go.Proofs.Tryz.f125.results.toList (hasBox []) (resK (.dat (Ty.int .i64)) K)) =
  (cond (decide (p.1 = (3 : Int))) (cond (decide (p.1 = (3 : Int))) (K (.data (Ty.int .i64) (2 : Int)) []) (cond (decide (p.1 = (7 : Int))) (cond (decide (p.1 = (7 : Int))) (K (.data (Ty.int .i64) (1 : Int)) []) (K (.data (Ty.int .i64) (0 : Int)) [])) (cond (decide (p.1 = (8 : Int))) (K (.data (Ty.int .i64) (1 : Int)) []) (K (.data (Ty.int .i64) (0 : Int)) [])))) (cond (decide (p.1 = (4 : Int))) (cond (decide (p.1 = (4 : Int))) (K (.data (Ty.int .i64) (2 : Int)) []) (cond (decide (p.1 = (7 : Int))) (cond (decide (p.1 = (7 : Int))) (K (.data (Ty.int .i64) (1 : Int)) []) (K (.data (Ty.int .i64) (0 : Int)) [])) (cond (decide (p.1 = (8 : Int))) (K (.data (Ty.int .i64) (1 : Int)) []) (K (.data (Ty.int .i64) (0 : Int)) [])))) (cond (decide (p.1 = (5 : Int))) (cond (decide (p.1 = (5 : Int))) (K (.data (Ty.int .i64) (2 : Int)) []) (cond (decide (p.1 = (7 : Int))) (cond (decide (p.1 = (7 : Int))) (K (.data (Ty.int .i64) (1 : Int)) []) (K (.data (Ty.int .i64) (0 : Int)) [])) (cond (decide (p.1 = (8 : Int))) (K (.data (Ty.int .i64) (1 : Int)) []) (K (.data (Ty.int .i64) (0 : Int)) [])))) (cond (decide (p.1 = (6 : Int))) (K (.data (Ty.int .i64) (2 : Int)) []) (cond (decide (p.1 = (7 : Int))) (cond (decide (p.1 = (7 : Int))) (K (.data (Ty.int .i64) (1 : Int)) []) (K (.data (Ty.int .i64) (0 : Int)) [])) (cond (decide (p.1 = (8 : Int))) (K (.data (Ty.int .i64) (1 : Int)) []) (K (.data (Ty.int .i64) (0 : Int)) []))))))) := by kernel_rfl
theorem con125_ok : ConOk P 125 c125 := by
  refine con_okR (fn := Go.Proofs.Tryz.f125) (code := bodyOf Go.Proofs.Tryz.f125) (tab_ok tab_check cmp_check) consOk125 mixed Go.Proofs.Tryz.func125 rfl rfl fun args hp K h0 => ?_
  obtain ⟨a0, rfl, rfl, h1⟩ := args1_elim h0
  obtain ⟨p, rfl, h2⟩ := withD_elim h1
  obtain ⟨h_p, hK⟩ := h2
  have h : ok (F.impl_Part_takes p) (fun r => K (.data (Ty.int .i64) r) []) := ok_of_eq (F.impl_Part_takes_eq p h_p) hK
  refine ⟨⟨show (1 : Nat) ≤ 13 by decide, show (1 : Nat) ≤ 1000000 by decide⟩, ann125, (L125 p), (.dat (Ty.int .i64)), (no_loops (by kernel_rfl)), ?_⟩
  · rw [vc125 p K]
    exact (ok_cond h (fun b_1 h => (cond_t b_1 (have h := ok_ret h; h))) (fun b_1 h => (ok_cond h (fun b_6 h => (cond_t b_6 (have h := ok_ret h; h))) (fun b_6 h => (ok_cond h (fun b_11 h => (cond_t b_11 (have h := ok_ret h; h))) (fun b_11 h => (ok_cond h (fun b_16 h => (have h := ok_ret h; h)) (fun b_16 h => (ok_cond h (fun b_17 h => (cond_t b_17 (have h := ok_ret h; h))) (fun b_17 h => (ok_cond h (fun b_19 h => (have h := ok_ret h; h)) (fun b_19 h => (have h := ok_ret h; h)))))))))))))

/-! 126: (loop.example/tablehouse/impl.Part).tells -/
def c126 : Con := ⟨[.dat TPart, .dat (Ty.sl TColumn)], fun args hp K => args2 (fun a0 a1 => withD TPart a0 fun p => withD (Ty.sl TColumn) a1 fun columns => (Sm TPart p) ∧ (Sm (Ty.sl TColumn) columns) ∧ K (.data Ty.bool (M.tells p columns)) []) args hp⟩
def cons126 : Cons := [(89, c89), (146, c146)]
def inl126 : List (Nat × Inl) := []
@[reducible] def C126 : Ctx := ⟨tab, fun t => memN t cmps, cons126, 63, inl126, 0⟩
theorem consOk126 : ConsOk P C126 := by
  refine consOk_cons (enter_ok (fn := Go.Proofs.Tryz.f89) Go.Proofs.Tryz.func89 (by kernel_rfl) rfl) con89_ok ?_
  refine consOk_cons (enter_ok (fn := Go.Proofs.Tryz.f146) Go.Proofs.Tryz.func146 (by kernel_rfl) rfl) con146_ok ?_
  exact consOk_nil
def ann126 : Nat → List Dir
  | 0 => [.fixRow 2 TPart, .keep [1, 2]]
  | 1 => [.keep [1, 2, 6]]
  | 2 => [.keep [1, 2, 6, 7]]
  | 3 => [.keep [4]]
  | 4 => [.keep [1, 2, 6, 23]]
  | 5 => [.keep [4]]
  | 6 => [.keep [2, 6, 37]]
  | 7 => [.keep [4]]
  | 8 => [.keep [2, 6, 48]]
  | 9 => [.keep [2, 6, 48]]
  | 10 => [.keep [2, 6, 48]]
  | 11 => [.keep [2, 6, 48]]
  | 12 => [.keep [2, 48]]
  | 13 => [.keep [4]]
  | 14 => [.keep [4]]
  | _ => []
def L126 (p : (TPart).D) (columns : (List (TColumn).D)) : Loops := fun id m st_ K => match id with
  | _ => False
theorem vc126 (p : (TPart).D) (columns : (List (TColumn).D)) (K : AV → Hp → Prop) : awp C126 (L126 p columns) ann126 (bodyOf Go.Proofs.Tryz.f126) ⟨argEnv 0 [.data TPart p, .data (Ty.sl TColumn) columns], []⟩ (outK tab Go.Proofs.Tryz.f126.results.toList (hasBox []) (resK (.dat Ty.bool) K)) =
  (cond (decide (p.1 = (1 : Int))) (cond ((decide (p.2.1 = (0 : Int))) == true) ((Sm TValue p.2.2.1) ∧ cond ((M.valueOk p.2.2.1) == true) (K (.data Ty.bool (!decide (p.2.2.1.1 = (0 : Int)))) []) (K (.data Ty.bool false) [])) (K (.data Ty.bool false) [])) (cond (decide (p.1 = (2 : Int))) (cond ((M.inR p.2.1 (0 : Int) (wrap64 ((columns.length : Int) - (1 : Int)))) == true) (K (.data Ty.bool (Ty.beq TValue p.2.2.1 ((0 : Int), ((0 : Int), ((⟨#[]⟩ : ByteArray), ()))))) []) (K (.data Ty.bool false) [])) (cond (decide (p.1 = (4 : Int))) (cond ((M.inR p.2.1 (1 : Int) (4 : Int)) == true) (K (.data Ty.bool (Ty.beq TValue p.2.2.1 ((0 : Int), ((0 : Int), ((⟨#[]⟩ : ByteArray), ()))))) []) (K (.data Ty.bool false) [])) (cond (decide (p.1 = (3 : Int))) (cond (decide (p.1 = (3 : Int))) (cond ((decide (p.2.1 = (0 : Int))) == true) (K (.data Ty.bool (Ty.beq TValue p.2.2.1 ((0 : Int), ((0 : Int), ((⟨#[]⟩ : ByteArray), ()))))) []) (K (.data Ty.bool false) [])) (K (.data Ty.bool false) [])) (cond (decide (p.1 = (5 : Int))) (cond (decide (p.1 = (5 : Int))) (cond ((decide (p.2.1 = (0 : Int))) == true) (K (.data Ty.bool (Ty.beq TValue p.2.2.1 ((0 : Int), ((0 : Int), ((⟨#[]⟩ : ByteArray), ()))))) []) (K (.data Ty.bool false) [])) (K (.data Ty.bool false) [])) (cond (decide (p.1 = (6 : Int))) (cond (decide (p.1 = (6 : Int))) (cond ((decide (p.2.1 = (0 : Int))) == true) (K (.data Ty.bool (Ty.beq TValue p.2.2.1 ((0 : Int), ((0 : Int), ((⟨#[]⟩ : ByteArray), ()))))) []) (K (.data Ty.bool false) [])) (K (.data Ty.bool false) [])) (cond (decide (p.1 = (7 : Int))) (cond (decide (p.1 = (7 : Int))) (cond ((decide (p.2.1 = (0 : Int))) == true) (K (.data Ty.bool (Ty.beq TValue p.2.2.1 ((0 : Int), ((0 : Int), ((⟨#[]⟩ : ByteArray), ()))))) []) (K (.data Ty.bool false) [])) (K (.data Ty.bool false) [])) (cond (decide (p.1 = (8 : Int))) (cond ((decide (p.2.1 = (0 : Int))) == true) (K (.data Ty.bool (Ty.beq TValue p.2.2.1 ((0 : Int), ((0 : Int), ((⟨#[]⟩ : ByteArray), ()))))) []) (K (.data Ty.bool false) [])) (K (.data Ty.bool false) []))))))))) := by kernel_rfl
theorem con126_ok : ConOk P 126 c126 := by
  refine con_okR (fn := Go.Proofs.Tryz.f126) (code := bodyOf Go.Proofs.Tryz.f126) (tab_ok tab_check cmp_check) consOk126 mixed Go.Proofs.Tryz.func126 rfl rfl fun args hp K h0 => ?_
  obtain ⟨a0, a1, rfl, rfl, h1⟩ := args2_elim h0
  obtain ⟨p, rfl, h2⟩ := withD_elim h1
  obtain ⟨columns, rfl, h3⟩ := withD_elim h2
  obtain ⟨h_p, h_columns, hK⟩ := h3
  have h : ok (F.impl_Part_tells p columns) (fun r => K (.data Ty.bool r) []) := ok_of_eq (F.impl_Part_tells_eq p columns h_p h_columns) hK
  refine ⟨⟨show (2 : Nat) ≤ 63 by decide, show (2 : Nat) ≤ 1000000 by decide⟩, ann126, (L126 p columns), (.dat Ty.bool), (no_loops (by kernel_rfl)), ?_⟩
  · rw [vc126 p columns K]
    exact (ok_cond h (fun b_1 h => (ok_cond h (fun b_2 h => ⟨h_p.2.2.1, (ok_cond h (fun b_3 h => (have h := ok_ret h; h)) (fun b_3 h => (have h := ok_ret h; h)))⟩) (fun b_2 h => (have h := ok_ret h; h)))) (fun b_1 h => (ok_cond h (fun b_4 h => (ok_cond h (fun b_5 h => (have h := ok_ret h; h)) (fun b_5 h => (have h := ok_ret h; h)))) (fun b_4 h => (ok_cond h (fun b_6 h => (ok_cond h (fun b_7 h => (have h := ok_ret h; h)) (fun b_7 h => (have h := ok_ret h; h)))) (fun b_6 h => (ok_cond h (fun b_8 h => (cond_t b_8 (ok_cond h (fun b_10 h => (have h := ok_ret h; h)) (fun b_10 h => (have h := ok_ret h; h))))) (fun b_8 h => (ok_cond h (fun b_11 h => (cond_t b_11 (ok_cond h (fun b_13 h => (have h := ok_ret h; h)) (fun b_13 h => (have h := ok_ret h; h))))) (fun b_11 h => (ok_cond h (fun b_14 h => (cond_t b_14 (ok_cond h (fun b_16 h => (have h := ok_ret h; h)) (fun b_16 h => (have h := ok_ret h; h))))) (fun b_14 h => (ok_cond h (fun b_17 h => (cond_t b_17 (ok_cond h (fun b_19 h => (have h := ok_ret h; h)) (fun b_19 h => (have h := ok_ret h; h))))) (fun b_17 h => (ok_cond h (fun b_20 h => (ok_cond h (fun b_21 h => (have h := ok_ret h; h)) (fun b_21 h => (have h := ok_ret h; h)))) (fun b_20 h => (have h := ok_ret h; h)))))))))))))))))

/-! 147: (loop.example/tablehouse/impl.Part).kind$1 -/
def c147 : Con := ⟨[.dat (Ty.int .i64), .any], fun args hp K => args2 (fun a0 a1 => withD (Ty.int .i64) a0 fun kind => withRB (Ty.int .i64) a1 fun ins => (Sm (Ty.sl (Ty.int .i64)) ins) ∧ K (.data Ty.bool (List.all ins (fun k => decide (k = kind)))) []) args hp⟩
def cons147 : Cons := [(123, c123), (148, c148)]
def inl147 : List (Nat × Inl) := []
@[reducible] def C147 : Ctx := ⟨tab, fun t => memN t cmps, cons147, 8, inl147, 0⟩
theorem consOk147 : ConsOk P C147 := by
  refine consOk_cons (enter_ok (fn := Go.Proofs.Tryz.f123) Go.Proofs.Tryz.func123 (by kernel_rfl) rfl) con123_ok ?_
  refine consOk_cons (enter_ok (fn := Go.Proofs.Tryz.f148) Go.Proofs.Tryz.func148 (by kernel_rfl) rfl) con148_ok ?_
  exact consOk_nil
def ann147 : Nat → List Dir
  | 0 => [.fixBox 2, .keep [1, 2]]
  | 1 => [.keep [3]]
  | _ => []
def L147 (kind : Int) (ins : (List Int)) : Loops := fun id m st_ K => match id with
  | _ => False
theorem vc147 (kind : Int) (ins : (List Int)) (K : AV → Hp → Prop) : awp C147 (L147 kind ins) ann147 (bodyOf Go.Proofs.Tryz.f147) ⟨argEnv 0 [.data (Ty.int .i64) kind, .ref (.brw (Ty.int .i64) ins)], []⟩ (outK tab Go.Proofs.Tryz.f147.results.toList (hasBox []) (resK (.dat Ty.bool) K)) =
  ((False ∨ ((Sm (Ty.sl (Ty.int .i64)) ins) ∧ K (.data Ty.bool (!(List.any ins (fun e => !decide (e = kind))))) []))) := by kernel_rfl
theorem con147_ok : ConOk P 147 c147 := by
  refine con_okR (fn := Go.Proofs.Tryz.f147) (code := bodyOf Go.Proofs.Tryz.f147) (tab_ok tab_check cmp_check) consOk147 mixed Go.Proofs.Tryz.func147 rfl rfl fun args hp K h0 => ?_
  obtain ⟨a0, a1, rfl, rfl, h1⟩ := args2_elim h0
  obtain ⟨kind, rfl, h2⟩ := withD_elim h1
  obtain ⟨ins, rfl, h3⟩ := withRB_elim h2
  obtain ⟨h_ins, hK⟩ := h3
  have h : ok (F.impl_Part_kind_1 kind ins) (fun r => K (.data Ty.bool r) []) := ok_of_eq (F.impl_Part_kind_1_eq kind ins h_ins) hK
  refine ⟨⟨show (2 : Nat) ≤ 8 by decide, show (2 : Nat) ≤ 1000000 by decide⟩, ann147, (L147 kind ins), (.dat Ty.bool), (no_loops (by kernel_rfl)), ?_⟩
  · rw [vc147 kind ins K]
    exact (Or.inr (⟨h_ins, (have h := ok_ret h; h)⟩))

/-! 127: (loop.example/tablehouse/impl.Part).kind -/
def c127 : Con := ⟨[.dat TPart, .dat (Ty.sl TColumn), .lent (Ty.int .i64)], fun args hp K => args3 (fun a0 a1 a2 => withD TPart a0 fun p => withD (Ty.sl TColumn) a1 fun columns => withB (Ty.int .i64) a2 fun inp => (Sm TPart p) ∧ (Sm (Ty.sl TColumn) columns) ∧ (Sm (Ty.sl (Ty.int .i64)) inp) ∧ (M.tells p columns = true) ∧ ((inp.length : Int) = M.takes p) ∧ (∀ r : Int × Bool, r = (M.partKind p columns inp) → K (.tup [.data (Ty.int .i64) r.1, .data Ty.bool r.2]) [])) args hp⟩
def cons127 : Cons := [(147, c147)]
def inl127 : List (Nat × Inl) := []
@[reducible] def C127 : Ctx := ⟨tab, fun t => memN t cmps, cons127, 42, inl127, 0⟩
theorem consOk127 : ConsOk P C127 := by
  refine consOk_cons (enter_ok (fn := Go.Proofs.Tryz.f147) Go.Proofs.Tryz.func147 (by kernel_rfl) rfl) con147_ok ?_
  exact consOk_nil
def ann127 : Nat → List Dir
  | 0 => [.fixRow 3 TPart, .fixBox 5, .keep [1, 3, 5]]
  | 1 => [.keep [1, 3, 5, 8]]
  | 2 => [.keep [1, 3, 5, 8, 11]]
  | 3 => [.keep [1, 3, 5, 8, 11, 12]]
  | 4 => [.keep [6, 7]]
  | 5 => [.keep [1, 3, 5, 8, 11, 17]]
  | 6 => [.keep [6, 7]]
  | 7 => [.keep [5, 8, 11, 25]]
  | 8 => [.keep [6, 7]]
  | 9 => [.keep [5, 8, 11, 29]]
  | 10 => [.keep [6, 7]]
  | 11 => [.keep [8, 38]]
  | 12 => [.keep [6, 7]]
  | 13 => [.keep [6, 7]]
  | _ => []
def L127 (p : (TPart).D) (columns : (List (TColumn).D)) (inp : (List Int)) : Loops := fun id m st_ K => match id with
  | _ => False
theorem vc127 (p : (TPart).D) (columns : (List (TColumn).D)) (inp : (List Int)) (K : AV → Hp → Prop) : awp C127 (L127 p columns inp) ann127 (bodyOf Go.Proofs.Tryz.f127) ⟨argEnv 0 [.data TPart p, .data (Ty.sl TColumn) columns, .brw (Ty.int .i64) inp], []⟩ (outK tab Go.Proofs.Tryz.f127.results.toList (hasBox []) (resK (.tup [(Ty.int .i64), Ty.bool]) K)) =
  (cond (decide (p.1 = (1 : Int))) (K (.tup [.data (Ty.int .i64) p.2.2.1.1, .data Ty.bool true]) []) (cond (decide (p.1 = (2 : Int))) ((0 ≤ p.2.1) ∧ (p.2.1 < (columns.length : Int)) ∧ K (.tup [.data (Ty.int .i64) ((nth (t := TColumn) columns p.2.1).1), .data Ty.bool true]) []) (cond (decide (p.1 = (3 : Int))) ((Sm (Ty.sl (Ty.int .i64)) inp) ∧ K (.tup [.data (Ty.int .i64) (1 : Int), .data Ty.bool (List.all inp (fun k => decide (k = (1 : Int))))]) []) (cond (decide (p.1 = (4 : Int))) ((0 ≤ (0 : Int)) ∧ ((0 : Int) < (inp.length : Int)) ∧ (0 ≤ (1 : Int)) ∧ ((1 : Int) < (inp.length : Int)) ∧ K (.tup [.data (Ty.int .i64) (3 : Int), .data Ty.bool (decide ((nth (t := (Ty.int .i64)) inp (0 : Int)) = (nth (t := (Ty.int .i64)) inp (1 : Int))))]) []) (cond (decide (p.1 = (8 : Int))) (K (.tup [.data (Ty.int .i64) (3 : Int), .data Ty.bool true]) []) ((Sm (Ty.sl (Ty.int .i64)) inp) ∧ K (.tup [.data (Ty.int .i64) (3 : Int), .data Ty.bool (List.all inp (fun k => decide (k = (3 : Int))))]) [])))))) := by kernel_rfl
theorem con127_ok : ConOk P 127 c127 := by
  refine con_okR (fn := Go.Proofs.Tryz.f127) (code := bodyOf Go.Proofs.Tryz.f127) (tab_ok tab_check cmp_check) consOk127 mixed Go.Proofs.Tryz.func127 rfl rfl fun args hp K h0 => ?_
  obtain ⟨a0, a1, a2, rfl, rfl, h1⟩ := args3_elim h0
  obtain ⟨p, rfl, h2⟩ := withD_elim h1
  obtain ⟨columns, rfl, h3⟩ := withD_elim h2
  obtain ⟨inp, rfl, h4⟩ := withB_elim h3
  obtain ⟨h_p, h_columns, h_inp, p0, p1, hK⟩ := h4
  have h : ok (F.impl_Part_kind p columns inp) (fun r => K (.tup [.data (Ty.int .i64) r.1, .data Ty.bool r.2]) []) := ok_of_eq (F.impl_Part_kind_eq p columns inp h_p h_columns h_inp p0 p1) (hK _ rfl)
  refine ⟨⟨show (3 : Nat) ≤ 42 by decide, show (3 : Nat) ≤ 1000000 by decide⟩, ann127, (L127 p columns inp), (.tup [(Ty.int .i64), Ty.bool]), (no_loops (by kernel_rfl)), ?_⟩
  · rw [vc127 p columns inp K]
    exact (ok_cond h (fun b_1 h => (have h := ok_ret h; h)) (fun b_1 h => (ok_cond h (fun b_2 h => ⟨(ok_guard h).1, have g_3 := (ok_guard h).1; have h := (ok_guard h).2; ⟨(ok_guard h).1, have g_4 := (ok_guard h).1; have h := (ok_guard h).2; (have h := ok_ret h; h)⟩⟩) (fun b_2 h => (ok_cond h (fun b_5 h => ⟨h_inp, (have h := ok_ret h; h)⟩) (fun b_5 h => (ok_cond h (fun b_6 h => ⟨(Int.natCast_nonneg 0), ⟨(ok_guard h).1, have g_7 := (ok_guard h).1; have h := (ok_guard h).2; ⟨(Int.natCast_nonneg 1), ⟨(ok_guard h).1, have g_8 := (ok_guard h).1; have h := (ok_guard h).2; (have h := ok_ret h; h)⟩⟩⟩⟩) (fun b_6 h => (ok_cond h (fun b_9 h => (have h := ok_ret h; h)) (fun b_9 h => ⟨h_inp, (have h := ok_ret h; h)⟩))))))))))

/-! 91: loop.example/tablehouse/impl.ExprKind -/
def c91 : Con := ⟨[.dat (Ty.sl TColumn), .dat (Ty.sl TPart)], fun args hp K => args2 (fun a0 a1 => withD (Ty.sl TColumn) a0 fun columns => withD (Ty.sl TPart) a1 fun e => (Sm (Ty.sl TColumn) columns) ∧ (Sm (Ty.sl TPart) e) ∧ K (.data (Ty.int .i64) (M.exprKind columns e)) []) args hp⟩
def cons91 : Cons := [(87, c87), (125, c125), (126, c126), (127, c127)]
def inl91 : List (Nat × Inl) := []
@[reducible] def C91 : Ctx := ⟨tab, fun t => memN t cmps, cons91, 67, inl91, 0⟩
theorem consOk91 : ConsOk P C91 := by
  refine consOk_cons (enter_ok (fn := Go.Proofs.Tryz.f87) Go.Proofs.Tryz.func87 (by kernel_rfl) rfl) con87_ok ?_
  refine consOk_cons (enter_ok (fn := Go.Proofs.Tryz.f125) Go.Proofs.Tryz.func125 (by kernel_rfl) rfl) con125_ok ?_
  refine consOk_cons (enter_ok (fn := Go.Proofs.Tryz.f126) Go.Proofs.Tryz.func126 (by kernel_rfl) rfl) con126_ok ?_
  refine consOk_cons (enter_ok (fn := Go.Proofs.Tryz.f127) Go.Proofs.Tryz.func127 (by kernel_rfl) rfl) con127_ok ?_
  exact consOk_nil
def ann91 : Nat → List Dir
  | 0 => [.keep [0, 1]]
  | 1 => [.keep [0, 1, 18]]
  | 2 => [.keep [4]]
  | 3 => [.keep [0, 1, 5]]
  | 4 => [.keep [0, 5, 19, 20, 21]]
  | 5 => [.keep [0, 5, 19, 20, 21, 22]]
  | 6 => [.fixRow 7 TPart, .keep [0, 5, 7, 19, 20, 21]]
  | 7 => [.keep [0, 5, 7, 8, 19, 20, 21]]
  | 8 => [.keep [0, 5, 7, 8, 19, 20, 21, 36]]
  | 9 => [.keep [4]]
  | 10 => [.keep [0, 5, 8, 9, 10, 19, 20, 21]]
  | 11 => [.keep [0, 5, 8, 9, 19, 20, 21, 50]]
  | 12 => [.keep [4]]
  | 13 => [.keep [0, 5, 19, 20, 21]]
  | 14 => [.keep [0, 5, 19, 20, 21]]
  | 15 => [.keep [5, 63]]
  | 16 => [.keep [4]]
  | 17 => [.keep [4]]
  | 100000 => [.keep [5]]
  | _ => []
@[reducible] def LP91_0 (columns : (List (TColumn).D)) (e : (List (TPart).D)) (m : Nat) (st_ : St) (K : X → St → Prop) : Prop := (True) ∧ LoopE (t := TPart) (fun (i0 : Int) (v0 : (List Int)) => (⟨[(0, .data (Ty.sl TColumn) columns), (5, .own 5 none), (19, .data (Ty.sl TPart) e), (20, .data (Ty.int .i64) (e.length : Int)), (21, .data (Ty.int .i64) i0)], [(5, .arr (Ty.int .i64) v0)]⟩ : St)) e (F.impl_ExprKind_l0 columns e) (fun v0 : (List Int) => True) (outD (fun v0 : (List Int) => True → K (.exit 0) (⟨[(5, .own 5 none)], [(5, .arr (Ty.int .i64) v0)]⟩ : St)) (fun q0 : Unit => K .ret (⟨[(4, .data (Ty.int .i64) (-1 : Int))], []⟩ : St))) m st_
def L91 (columns : (List (TColumn).D)) (e : (List (TPart).D)) : Loops := fun id m st_ K => match id with
  | 0 => LP91_0 columns e m st_ K
  | _ => False
theorem vc91 (columns : (List (TColumn).D)) (e : (List (TPart).D)) (K : AV → Hp → Prop) : awp C91 (L91 columns e) ann91 (bodyOf Go.Proofs.Tryz.f91) ⟨argEnv 0 [.data (Ty.sl TColumn) columns, .data (Ty.sl TPart) e], []⟩ (outK tab Go.Proofs.Tryz.f91.results.toList (hasBox []) (resK (.dat (Ty.int .i64)) K)) =
  ((Sm (Ty.sl TColumn) columns) ∧ cond ((!(M.columnsOk columns)) == false) (cond (decide ((12 : Int) < (e.length : Int))) (K (.data (Ty.int .i64) (-1 : Int)) []) ((∃ m_, (True) ∧ LoopE (t := TPart) (fun (i0 : Int) (v0 : (List Int)) => (⟨[(0, .data (Ty.sl TColumn) columns), (5, .own 5 none), (19, .data (Ty.sl TPart) e), (20, .data (Ty.int .i64) (e.length : Int)), (21, .data (Ty.int .i64) i0)], [(5, .arr (Ty.int .i64) v0)]⟩ : St)) e (F.impl_ExprKind_l0 columns e) (fun v0 : (List Int) => True) (outD (fun v0 : (List Int) => True → cond (!decide ((v0.length : Int) = (1 : Int))) (K (.data (Ty.int .i64) (-1 : Int)) []) ((0 ≤ (0 : Int)) ∧ ((0 : Int) < (v0.length : Int)) ∧ K (.data (Ty.int .i64) (nth (t := (Ty.int .i64)) v0 (0 : Int))) [])) (fun q0 : Unit => K (.data (Ty.int .i64) (-1 : Int)) [])) m_ (⟨[(0, .data (Ty.sl TColumn) columns), (5, .own 5 none), (19, .data (Ty.sl TPart) e), (20, .data (Ty.int .i64) (e.length : Int)), (21, .data (Ty.int .i64) (0 : Int))], [(5, .arr (Ty.int .i64) [])]⟩ : St)))) (K (.data (Ty.int .i64) (-1 : Int)) [])) := by kernel_rfl
theorem lvc91_0 (columns : (List (TColumn).D)) (e : (List (TPart).D))  (i0 : Int) (v0 : (List Int)) (m : Nat) (K : X → St → Prop) : awp C91 (L91 columns e) ann91 (loopAt (bodyOf Go.Proofs.Tryz.f91) 0) (⟨[(0, .data (Ty.sl TColumn) columns), (5, .own 5 none), (19, .data (Ty.sl TPart) e), (20, .data (Ty.int .i64) (e.length : Int)), (21, .data (Ty.int .i64) i0)], [(5, .arr (Ty.int .i64) v0)]⟩ : St) (thenW (fun s' => ∃ m', m' < m ∧ (L91 columns e) 0 m' s' K) (exitN 0 (ann91 (behind 0)) K)) =
  (cond (decide (i0 < (e.length : Int))) ((0 ≤ i0) ∧ (i0 < (e.length : Int)) ∧ (Sm TPart (nth (t := TPart) e i0)) ∧ (Sm TPart (nth (t := TPart) e i0)) ∧ (Sm (Ty.sl TColumn) columns) ∧ cond ((!(M.tells (nth (t := TPart) e i0) columns)) == false) (cond (decide ((v0.length : Int) < (M.takes (nth (t := TPart) e i0)))) (K .ret (⟨[(4, .data (Ty.int .i64) (-1 : Int))], []⟩ : St)) ((0 ≤ wrap64 ((v0.length : Int) - (M.takes (nth (t := TPart) e i0)))) ∧ (wrap64 ((v0.length : Int) - (M.takes (nth (t := TPart) e i0))) ≤ (v0.length : Int)) ∧ ((v0.length : Int) ≤ (v0.length : Int)) ∧ ((v0.length : Int) = (v0.length : Int)) ∧ (Sm TPart (nth (t := TPart) e i0)) ∧ (Sm (Ty.sl TColumn) columns) ∧ (Sm (Ty.sl (Ty.int .i64)) (cutList v0 (some (wrap64 ((v0.length : Int) - (M.takes (nth (t := TPart) e i0))), (v0.length : Int))))) ∧ (M.tells (nth (t := TPart) e i0) columns = true) ∧ (((cutList v0 (some (wrap64 ((v0.length : Int) - (M.takes (nth (t := TPart) e i0))), (v0.length : Int)))).length : Int) = M.takes (nth (t := TPart) e i0)) ∧ (∀ r_10_8 : Int × Bool, r_10_8 = (M.partKind (nth (t := TPart) e i0) columns (cutList v0 (some (wrap64 ((v0.length : Int) - (M.takes (nth (t := TPart) e i0))), (v0.length : Int))))) → cond (!r_10_8.2) (K .ret (⟨[(4, .data (Ty.int .i64) (-1 : Int))], []⟩ : St)) ((0 ≤ (0 : Int)) ∧ ((0 : Int) ≤ wrap64 ((v0.length : Int) - (M.takes (nth (t := TPart) e i0)))) ∧ (wrap64 ((v0.length : Int) - (M.takes (nth (t := TPart) e i0))) ≤ (v0.length : Int)) ∧ (wrap64 ((v0.length : Int) - (M.takes (nth (t := TPart) e i0))) = wrap64 ((v0.length : Int) - (M.takes (nth (t := TPart) e i0)))) ∧ ((0 : Int) = 0) ∧ (((wrap64 ((v0.length : Int) - (M.takes (nth (t := TPart) e i0)))).toNat + [r_10_8.1].length) * 8 ≤ lim) ∧ (∃ m_, m_ < m ∧ (L91 columns e) 0 m_ (⟨[(0, .data (Ty.sl TColumn) columns), (5, .own 5 none), (19, .data (Ty.sl TPart) e), (20, .data (Ty.int .i64) (e.length : Int)), (21, .data (Ty.int .i64) (wrap64 (i0 + (1 : Int))))], [(5, .arr (Ty.int .i64) (v0.take (wrap64 ((v0.length : Int) - (M.takes (nth (t := TPart) e i0)))).toNat ++ [r_10_8.1]))]⟩ : St) K))))) (K .ret (⟨[(4, .data (Ty.int .i64) (-1 : Int))], []⟩ : St))) (K (.exit 0) (⟨[(5, .own 5 none)], [(5, .arr (Ty.int .i64) v0)]⟩ : St))) := by kernel_rfl
theorem con91_ok : ConOk P 91 c91 := by
  refine con_okR (fn := Go.Proofs.Tryz.f91) (code := bodyOf Go.Proofs.Tryz.f91) (tab_ok tab_check cmp_check) consOk91 mixed Go.Proofs.Tryz.func91 rfl rfl fun args hp K h0 => ?_
  obtain ⟨a0, a1, rfl, rfl, h1⟩ := args2_elim h0
  obtain ⟨columns, rfl, h2⟩ := withD_elim h1
  obtain ⟨e, rfl, h3⟩ := withD_elim h2
  obtain ⟨h_columns, h_e, hK⟩ := h3
  have h : ok (F.impl_ExprKind columns e) (fun r => K (.data (Ty.int .i64) r) []) := ok_of_eq (F.impl_ExprKind_eq columns e h_columns h_e) hK
  refine ⟨⟨show (2 : Nat) ≤ 67 by decide, show (2 : Nat) ≤ 1000000 by decide⟩, ann91, (L91 columns e), (.dat (Ty.int .i64)), (loopsN1 (i0 := 0) (by kernel_rfl) ?_), ?_⟩
  · clear h
    intro m_ s_ K_ h
    obtain ⟨hc0, i0, v0, rfl, hl0, rfl, hv0, h⟩ := (show LP91_0 columns e m_ s_ K_ from h)
    rw [lvc91_0 columns e i0 v0 _ K_]
    exact (loopE_step (t := TPart) hl0 h (fun ht0 h => ⟨hl0, ⟨ht0, ⟨(sm_nth h_e i0), ⟨(sm_nth h_e i0), ⟨h_columns, (ok_cond h (fun b_37 h => (ok_cond h (fun b_38 h => (have h := ok_ret h; h)) (fun b_38 h => ⟨(ok_guard h).1, have g_39 := (ok_guard h).1; have h := (ok_guard h).2; ⟨(ok_guard h).1, have g_40 := (ok_guard h).1; have h := (ok_guard h).2; ⟨(Int.le_refl _), ⟨rfl, ⟨(sm_nth h_e i0), ⟨h_columns, ⟨(ok_guard h).1, have g_41 := (ok_guard h).1; have h := (ok_guard h).2; ⟨(bnf (bgt b_37)), ⟨(ok_guard h).1, have g_42 := (ok_guard h).1; have h := (ok_guard h).2; (fun r_10_8 e_r_10_8 => have h := ok_let h r_10_8 e_r_10_8; (ok_cond h (fun b_43 h => (have h := ok_ret h; h)) (fun b_43 h => ⟨(Int.natCast_nonneg 0), ⟨(ok_guard h).1, have g_44 := (ok_guard h).1; have h := (ok_guard h).2; ⟨g_40, ⟨rfl, ⟨rfl, ⟨(ok_guard h).1, have g_45 := (ok_guard h).1; have h := (ok_guard h).2; (loopE_next (t := TPart) (fun m hm => (show LP91_0 columns e m _ _ from ⟨hc0, hm⟩)) (v0.take (wrap64 ((v0.length : Int) - (M.takes (nth (t := TPart) e i0)))).toNat ++ [r_10_8.1]) rfl hl0 ht0 (sm_len h_e) trivial (have h := ok_ret h; h))⟩⟩⟩⟩⟩⟩)))⟩⟩⟩⟩⟩⟩⟩⟩⟩))) (fun b_37 h => (have h := ok_ret h; h)))⟩⟩⟩⟩⟩) (fun h => (h trivial)))
  · rw [vc91 columns e K]
    exact ⟨h_columns, (ok_cond h (fun b_1 h => (ok_cond h (fun b_2 h => (have h := ok_ret h; h)) (fun b_2 h => (loopE_start (t := TPart) (fun m hm => ⟨trivial, hm⟩) [] rfl trivial (ok_then h (fun v0 h hv0 => (ok_cond h (fun b_46 h => (have h := ok_ret h; h)) (fun b_46 h => ⟨(Int.natCast_nonneg 0), ⟨(ok_guard h).1, have g_47 := (ok_guard h).1; have h := (ok_guard h).2; (have h := ok_ret h; h)⟩⟩))) (fun q0 h => (have h := ok_ret h; h))))))) (fun b_1 h => (have h := ok_ret h; h)))⟩

/-! 63: loop.example/tablehouse/impl.bondOk -/
def c63 : Con := ⟨[.dat (Ty.sl TTable), .dat TBond], fun args hp K => args2 (fun a0 a1 => withD (Ty.sl TTable) a0 fun tables => withD TBond a1 fun b => (Sm (Ty.sl TTable) tables) ∧ (Sm TBond b) ∧ K (.data Ty.bool (M.bondOk tables b)) []) args hp⟩
def cons63 : Cons := [(89, c89), (90, c90), (91, c91)]
def inl63 : List (Nat × Inl) := []
@[reducible] def C63 : Ctx := ⟨tab, fun t => memN t cmps, cons63, 141, inl63, 0⟩
theorem consOk63 : ConsOk P C63 := by
  refine consOk_cons (enter_ok (fn := Go.Proofs.Tryz.f89) Go.Proofs.Tryz.func89 (by kernel_rfl) rfl) con89_ok ?_
  refine consOk_cons (enter_ok (fn := Go.Proofs.Tryz.f90) Go.Proofs.Tryz.func90 (by kernel_rfl) rfl) con90_ok ?_
  refine consOk_cons (enter_ok (fn := Go.Proofs.Tryz.f91) Go.Proofs.Tryz.func91 (by kernel_rfl) rfl) con91_ok ?_
  exact consOk_nil
def ann63 : Nat → List Dir
  | 0 => [.fixRow 3 TBond, .keep [0, 3]]
  | 1 => [.keep [0, 3, 15]]
  | 2 => [.keep [4]]
  | 3 => [.fixRow 5 TTable, .keep [0, 3, 5]]
  | 4 => [.keep [0, 3, 5, 6]]
  | 5 => [.keep [0, 3, 5, 6, 36]]
  | 6 => [.keep [0, 3, 5, 6, 36, 37]]
  | 7 => [.keep [4]]
  | 8 => [.keep [0, 3, 5, 6, 36, 52]]
  | 9 => [.keep [4]]
  | 10 => [.keep [0, 3, 5, 69]]
  | 11 => [.keep [0, 3, 5, 110]]
  | 12 => [.keep [4]]
  | 13 => [.keep [0, 3, 5, 112, 113, 114]]
  | 14 => [.keep [0, 3, 5, 112, 113, 114, 115]]
  | 15 => [.keep [0, 3, 5, 7, 8, 112, 113, 114]]
  | 16 => [.keep [0, 3, 5, 112, 113, 114, 139]]
  | 17 => [.keep [4]]
  | 18 => [.keep [0, 3, 5, 112, 113, 114]]
  | 19 => [.keep [4]]
  | 20 => [.keep [4]]
  | 100001 => [.keep []]
  | _ => []
@[reducible] def LP63_1 (tables : (List (TTable).D)) (b : (TBond).D) (m : Nat) (st_ : St) (K : X → St → Prop) : Prop := (True) ∧ LoopI (fun (i1 : Int) (v1 : Unit) => (⟨[(0, .data (Ty.sl TTable) tables), (3, .adr TBond b), (5, .adr TTable (nth (t := TTable) tables b.2.1)), (112, .data (Ty.sl (Ty.int .i64)) b.2.2.1), (113, .data (Ty.int .i64) (b.2.2.1.length : Int)), (114, .data (Ty.int .i64) i1)], []⟩ : St)) (0 : Int) (b.2.2.1.length : Int) (F.impl_bondOk_l1 tables b) (fun v1 : Unit => True) (outD (fun v1 : Unit => True → K (.exit 1) (⟨[], []⟩ : St)) (fun q1 : Unit => K .ret (⟨[(4, .data Ty.bool false)], []⟩ : St))) m st_
def L63 (tables : (List (TTable).D)) (b : (TBond).D) : Loops := fun id m st_ K => match id with
  | 1 => LP63_1 tables b m st_ K
  | _ => False
theorem vc63 (tables : (List (TTable).D)) (b : (TBond).D) (K : AV → Hp → Prop) : awp C63 (L63 tables b) ann63 (bodyOf Go.Proofs.Tryz.f63) ⟨argEnv 0 [.data (Ty.sl TTable) tables, .data TBond b], []⟩ (outK tab Go.Proofs.Tryz.f63.results.toList (hasBox []) (resK (.dat Ty.bool) K)) =
  (cond (!(M.inR b.2.1 (0 : Int) (wrap64 ((tables.length : Int) - (1 : Int))))) (K (.data Ty.bool false) []) ((0 ≤ b.2.1) ∧ (b.2.1 < (tables.length : Int)) ∧ cond ((decide (b.2.2.2.1 = (0 : Int))) == true) (cond ((decide ((b.2.2.2.2.1.length : Int) = (0 : Int))) == true) (cond (decide (b.1 = (1 : Int))) ((Sm TTable (nth (t := TTable) tables b.2.1)) ∧ (Sm (Ty.sl (Ty.int .i64)) b.2.2.1) ∧ cond ((M.listOk (nth (t := TTable) tables b.2.1).1 b.2.2.1) == true) (cond ((!b.2.2.2.2.2.1) == true) (K (.data Ty.bool (decide ((b.2.2.2.2.2.2.1.length : Int) = (0 : Int)))) []) (K (.data Ty.bool false) [])) (K (.data Ty.bool false) [])) (cond (decide (b.1 = (3 : Int))) ((Sm (Ty.sl TColumn) ((nth (t := TTable) tables b.2.1).1)) ∧ (Sm (Ty.sl TPart) b.2.2.2.2.2.2.1) ∧ cond ((decide ((M.exprKind ((nth (t := TTable) tables b.2.1).1) b.2.2.2.2.2.2.1) = (3 : Int))) == true) (cond ((!b.2.2.2.2.2.1) == true) (K (.data Ty.bool (decide ((b.2.2.1.length : Int) = (0 : Int)))) []) (K (.data Ty.bool false) [])) (K (.data Ty.bool false) [])) (cond (decide (b.1 = (2 : Int))) (cond ((!(M.inR b.2.2.2.1 (0 : Int) (wrap64 ((tables.length : Int) - (1 : Int))))) == false) (cond ((decide ((0 : Int) < (b.2.2.2.2.2.2.1.length : Int))) == false) ((Sm TTable (nth (t := TTable) tables b.2.1)) ∧ (Sm (Ty.sl (Ty.int .i64)) b.2.2.1) ∧ cond ((!(M.listOk (nth (t := TTable) tables b.2.1).1 b.2.2.1)) == false) ((0 ≤ b.2.2.2.1) ∧ (b.2.2.2.1 < (tables.length : Int)) ∧ (Sm TTable (nth (t := TTable) tables b.2.2.2.1)) ∧ (Sm (Ty.sl (Ty.int .i64)) b.2.2.2.2.1) ∧ cond ((!(M.listOk (nth (t := TTable) tables b.2.2.2.1).1 b.2.2.2.2.1)) == false) (cond (!decide ((b.2.2.2.2.1.length : Int) = (b.2.2.1.length : Int))) (K (.data Ty.bool false) []) ((∃ m_, (True) ∧ LoopI (fun (i1 : Int) (v1 : Unit) => (⟨[(0, .data (Ty.sl TTable) tables), (3, .adr TBond b), (5, .adr TTable (nth (t := TTable) tables b.2.1)), (112, .data (Ty.sl (Ty.int .i64)) b.2.2.1), (113, .data (Ty.int .i64) (b.2.2.1.length : Int)), (114, .data (Ty.int .i64) i1)], []⟩ : St)) (0 : Int) (b.2.2.1.length : Int) (F.impl_bondOk_l1 tables b) (fun v1 : Unit => True) (outD (fun v1 : Unit => True → K (.data Ty.bool true) []) (fun q1 : Unit => K (.data Ty.bool false) [])) m_ (⟨[(0, .data (Ty.sl TTable) tables), (3, .adr TBond b), (5, .adr TTable (nth (t := TTable) tables b.2.1)), (112, .data (Ty.sl (Ty.int .i64)) b.2.2.1), (113, .data (Ty.int .i64) (b.2.2.1.length : Int)), (114, .data (Ty.int .i64) (0 : Int))], []⟩ : St)))) (K (.data Ty.bool false) [])) (K (.data Ty.bool false) [])) (K (.data Ty.bool false) [])) (K (.data Ty.bool false) [])) (K (.data Ty.bool false) [])))) (cond (decide (b.1 = (1 : Int))) ((Sm TTable (nth (t := TTable) tables b.2.1)) ∧ (Sm (Ty.sl (Ty.int .i64)) b.2.2.1) ∧ cond ((M.listOk (nth (t := TTable) tables b.2.1).1 b.2.2.1) == true) (K (.data Ty.bool false) []) (K (.data Ty.bool false) [])) (cond (decide (b.1 = (3 : Int))) ((Sm (Ty.sl TColumn) ((nth (t := TTable) tables b.2.1).1)) ∧ (Sm (Ty.sl TPart) b.2.2.2.2.2.2.1) ∧ cond ((decide ((M.exprKind ((nth (t := TTable) tables b.2.1).1) b.2.2.2.2.2.2.1) = (3 : Int))) == true) (K (.data Ty.bool false) []) (K (.data Ty.bool false) [])) (cond (decide (b.1 = (2 : Int))) (cond ((!(M.inR b.2.2.2.1 (0 : Int) (wrap64 ((tables.length : Int) - (1 : Int))))) == false) (cond ((decide ((0 : Int) < (b.2.2.2.2.2.2.1.length : Int))) == false) ((Sm TTable (nth (t := TTable) tables b.2.1)) ∧ (Sm (Ty.sl (Ty.int .i64)) b.2.2.1) ∧ cond ((!(M.listOk (nth (t := TTable) tables b.2.1).1 b.2.2.1)) == false) ((0 ≤ b.2.2.2.1) ∧ (b.2.2.2.1 < (tables.length : Int)) ∧ (Sm TTable (nth (t := TTable) tables b.2.2.2.1)) ∧ (Sm (Ty.sl (Ty.int .i64)) b.2.2.2.2.1) ∧ cond ((!(M.listOk (nth (t := TTable) tables b.2.2.2.1).1 b.2.2.2.2.1)) == false) (cond (!decide ((b.2.2.2.2.1.length : Int) = (b.2.2.1.length : Int))) (K (.data Ty.bool false) []) ((∃ m_, (True) ∧ LoopI (fun (i1 : Int) (v1 : Unit) => (⟨[(0, .data (Ty.sl TTable) tables), (3, .adr TBond b), (5, .adr TTable (nth (t := TTable) tables b.2.1)), (112, .data (Ty.sl (Ty.int .i64)) b.2.2.1), (113, .data (Ty.int .i64) (b.2.2.1.length : Int)), (114, .data (Ty.int .i64) i1)], []⟩ : St)) (0 : Int) (b.2.2.1.length : Int) (F.impl_bondOk_l1 tables b) (fun v1 : Unit => True) (outD (fun v1 : Unit => True → K (.data Ty.bool true) []) (fun q1 : Unit => K (.data Ty.bool false) [])) m_ (⟨[(0, .data (Ty.sl TTable) tables), (3, .adr TBond b), (5, .adr TTable (nth (t := TTable) tables b.2.1)), (112, .data (Ty.sl (Ty.int .i64)) b.2.2.1), (113, .data (Ty.int .i64) (b.2.2.1.length : Int)), (114, .data (Ty.int .i64) (0 : Int))], []⟩ : St)))) (K (.data Ty.bool false) [])) (K (.data Ty.bool false) [])) (K (.data Ty.bool false) [])) (K (.data Ty.bool false) [])) (K (.data Ty.bool false) []))))) (cond (decide (b.1 = (1 : Int))) ((Sm TTable (nth (t := TTable) tables b.2.1)) ∧ (Sm (Ty.sl (Ty.int .i64)) b.2.2.1) ∧ cond ((M.listOk (nth (t := TTable) tables b.2.1).1 b.2.2.1) == true) (K (.data Ty.bool false) []) (K (.data Ty.bool false) [])) (cond (decide (b.1 = (3 : Int))) ((Sm (Ty.sl TColumn) ((nth (t := TTable) tables b.2.1).1)) ∧ (Sm (Ty.sl TPart) b.2.2.2.2.2.2.1) ∧ cond ((decide ((M.exprKind ((nth (t := TTable) tables b.2.1).1) b.2.2.2.2.2.2.1) = (3 : Int))) == true) (K (.data Ty.bool false) []) (K (.data Ty.bool false) [])) (cond (decide (b.1 = (2 : Int))) (cond ((!(M.inR b.2.2.2.1 (0 : Int) (wrap64 ((tables.length : Int) - (1 : Int))))) == false) (cond ((decide ((0 : Int) < (b.2.2.2.2.2.2.1.length : Int))) == false) ((Sm TTable (nth (t := TTable) tables b.2.1)) ∧ (Sm (Ty.sl (Ty.int .i64)) b.2.2.1) ∧ cond ((!(M.listOk (nth (t := TTable) tables b.2.1).1 b.2.2.1)) == false) ((0 ≤ b.2.2.2.1) ∧ (b.2.2.2.1 < (tables.length : Int)) ∧ (Sm TTable (nth (t := TTable) tables b.2.2.2.1)) ∧ (Sm (Ty.sl (Ty.int .i64)) b.2.2.2.2.1) ∧ cond ((!(M.listOk (nth (t := TTable) tables b.2.2.2.1).1 b.2.2.2.2.1)) == false) (cond (!decide ((b.2.2.2.2.1.length : Int) = (b.2.2.1.length : Int))) (K (.data Ty.bool false) []) ((∃ m_, (True) ∧ LoopI (fun (i1 : Int) (v1 : Unit) => (⟨[(0, .data (Ty.sl TTable) tables), (3, .adr TBond b), (5, .adr TTable (nth (t := TTable) tables b.2.1)), (112, .data (Ty.sl (Ty.int .i64)) b.2.2.1), (113, .data (Ty.int .i64) (b.2.2.1.length : Int)), (114, .data (Ty.int .i64) i1)], []⟩ : St)) (0 : Int) (b.2.2.1.length : Int) (F.impl_bondOk_l1 tables b) (fun v1 : Unit => True) (outD (fun v1 : Unit => True → K (.data Ty.bool true) []) (fun q1 : Unit => K (.data Ty.bool false) [])) m_ (⟨[(0, .data (Ty.sl TTable) tables), (3, .adr TBond b), (5, .adr TTable (nth (t := TTable) tables b.2.1)), (112, .data (Ty.sl (Ty.int .i64)) b.2.2.1), (113, .data (Ty.int .i64) (b.2.2.1.length : Int)), (114, .data (Ty.int .i64) (0 : Int))], []⟩ : St)))) (K (.data Ty.bool false) [])) (K (.data Ty.bool false) [])) (K (.data Ty.bool false) [])) (K (.data Ty.bool false) [])) (K (.data Ty.bool false) [])))))) := by kernel_rfl
theorem lvc63_0 (tables : (List (TTable).D)) (b : (TBond).D)  (i1 : Int) (v1 : Unit) (m : Nat) (K : X → St → Prop) : awp C63 (L63 tables b) ann63 (loopAt (bodyOf Go.Proofs.Tryz.f63) 0) (⟨[(0, .data (Ty.sl TTable) tables), (3, .adr TBond b), (5, .adr TTable (nth (t := TTable) tables b.2.1)), (112, .data (Ty.sl (Ty.int .i64)) b.2.2.1), (113, .data (Ty.int .i64) (b.2.2.1.length : Int)), (114, .data (Ty.int .i64) i1)], []⟩ : St) (thenW (fun s' => ∃ m', m' < m ∧ (L63 tables b) 1 m' s' K) (exitN 1 (ann63 (behind 1)) K)) =
  (cond (decide (i1 < (b.2.2.1.length : Int))) ((0 ≤ i1) ∧ (i1 < (b.2.2.1.length : Int)) ∧ (0 ≤ (nth (t := (Ty.int .i64)) b.2.2.1 i1)) ∧ ((nth (t := (Ty.int .i64)) b.2.2.1 i1) < (((nth (t := TTable) tables b.2.1).1).length : Int)) ∧ (0 ≤ b.2.2.2.1) ∧ (b.2.2.2.1 < (tables.length : Int)) ∧ (0 ≤ i1) ∧ (i1 < (b.2.2.2.2.1.length : Int)) ∧ (0 ≤ (nth (t := (Ty.int .i64)) b.2.2.2.2.1 i1)) ∧ ((nth (t := (Ty.int .i64)) b.2.2.2.2.1 i1) < (((nth (t := TTable) tables b.2.2.2.1).1).length : Int)) ∧ cond (!decide ((nth (t := TColumn) ((nth (t := TTable) tables b.2.1).1) (nth (t := (Ty.int .i64)) b.2.2.1 i1)).1 = (nth (t := TColumn) ((nth (t := TTable) tables b.2.2.2.1).1) (nth (t := (Ty.int .i64)) b.2.2.2.2.1 i1)).1)) (K .ret (⟨[(4, .data Ty.bool false)], []⟩ : St)) ((∃ m_, m_ < m ∧ (L63 tables b) 1 m_ (⟨[(0, .data (Ty.sl TTable) tables), (3, .adr TBond b), (5, .adr TTable (nth (t := TTable) tables b.2.1)), (112, .data (Ty.sl (Ty.int .i64)) b.2.2.1), (113, .data (Ty.int .i64) (b.2.2.1.length : Int)), (114, .data (Ty.int .i64) (wrap64 (i1 + (1 : Int))))], []⟩ : St) K))) (K (.exit 1) (⟨[], []⟩ : St))) := by kernel_rfl
theorem con63_ok : ConOk P 63 c63 := by
  refine con_okR (fn := Go.Proofs.Tryz.f63) (code := bodyOf Go.Proofs.Tryz.f63) (tab_ok tab_check cmp_check) consOk63 mixed Go.Proofs.Tryz.func63 rfl rfl fun args hp K h0 => ?_
  obtain ⟨a0, a1, rfl, rfl, h1⟩ := args2_elim h0
  obtain ⟨tables, rfl, h2⟩ := withD_elim h1
  obtain ⟨b, rfl, h3⟩ := withD_elim h2
  obtain ⟨h_tables, h_b, hK⟩ := h3
  have h : ok (F.impl_bondOk tables b) (fun r => K (.data Ty.bool r) []) := ok_of_eq (F.impl_bondOk_eq tables b h_tables h_b) hK
  refine ⟨⟨show (2 : Nat) ≤ 141 by decide, show (2 : Nat) ≤ 1000000 by decide⟩, ann63, (L63 tables b), (.dat Ty.bool), (loopsN1 (i0 := 1) (by kernel_rfl) ?_), ?_⟩
  · clear h
    intro m_ s_ K_ h
    obtain ⟨hc1, i1, v1, rfl, hl1, rfl, hv1, h⟩ := (show LP63_1 tables b m_ s_ K_ from h)
    rw [lvc63_0 tables b i1 v1 _ K_]
    exact (loopI_step h (fun ht1 h => ⟨hl1, ⟨ht1, ⟨(ok_guard h).1, have g_38 := (ok_guard h).1; have h := (ok_guard h).2; ⟨(ok_guard h).1, have g_39 := (ok_guard h).1; have h := (ok_guard h).2; ⟨(ok_guard h).1, have g_40 := (ok_guard h).1; have h := (ok_guard h).2; ⟨(ok_guard h).1, have g_41 := (ok_guard h).1; have h := (ok_guard h).2; ⟨hl1, ⟨(ok_guard h).1, have g_42 := (ok_guard h).1; have h := (ok_guard h).2; ⟨(ok_guard h).1, have g_43 := (ok_guard h).1; have h := (ok_guard h).2; ⟨(ok_guard h).1, have g_44 := (ok_guard h).1; have h := (ok_guard h).2; (ok_cond h (fun b_45 h => (have h := ok_ret h; h)) (fun b_45 h => (loopI_next (fun m hm => (show LP63_1 tables b m _ _ from ⟨hc1, hm⟩)) () rfl hl1 low0 ht1 (sm_len h_b.2.2.1) trivial (have h := ok_ret h; h))))⟩⟩⟩⟩⟩⟩⟩⟩⟩⟩) (fun h => (h trivial)))
  · rw [vc63 tables b K]
    exact (ok_cond h (fun b_1 h => (have h := ok_ret h; h)) (fun b_1 h => ⟨(inR_lo (bnf b_1)), ⟨(inR_hi (bnf b_1)), (ok_cond h (fun b_2 h => (ok_cond h (fun b_3 h => (ok_cond h (fun b_4 h => ⟨(sm_nth h_tables b.2.1), ⟨h_b.2.2.1, (ok_cond h (fun b_5 h => (ok_cond h (fun b_6 h => (have h := ok_ret h; h)) (fun b_6 h => (have h := ok_ret h; h)))) (fun b_5 h => (have h := ok_ret h; h)))⟩⟩) (fun b_4 h => (ok_cond h (fun b_7 h => ⟨(sm_nth h_tables b.2.1).1, ⟨h_b.2.2.2.2.2.2.1, (ok_cond h (fun b_8 h => (ok_cond h (fun b_9 h => (have h := ok_ret h; h)) (fun b_9 h => (have h := ok_ret h; h)))) (fun b_8 h => (have h := ok_ret h; h)))⟩⟩) (fun b_7 h => (ok_cond h (fun b_10 h => (ok_cond h (fun b_11 h => (ok_cond h (fun b_12 h => ⟨(sm_nth h_tables b.2.1), ⟨h_b.2.2.1, (ok_cond h (fun b_13 h => ⟨(inR_lo (bnf (bgt b_11))), ⟨(inR_hi (bnf (bgt b_11))), ⟨(sm_nth h_tables b.2.2.2.1), ⟨h_b.2.2.2.2.1, (ok_cond h (fun b_14 h => (ok_cond h (fun b_15 h => (have h := ok_ret h; h)) (fun b_15 h => (loopI_start (fun m hm => ⟨trivial, hm⟩) (0 : Int) () rfl (Int.natCast_nonneg 0) trivial (ok_then h (fun v1 h hv1 => (have h := ok_ret h; h)) (fun q1 h => (have h := ok_ret h; h))))))) (fun b_14 h => (have h := ok_ret h; h)))⟩⟩⟩⟩) (fun b_13 h => (have h := ok_ret h; h)))⟩⟩) (fun b_12 h => (have h := ok_ret h; h)))) (fun b_11 h => (have h := ok_ret h; h)))) (fun b_10 h => (have h := ok_ret h; h)))))))) (fun b_3 h => (ok_cond h (fun b_46 h => ⟨(sm_nth h_tables b.2.1), ⟨h_b.2.2.1, (ok_cond h (fun b_47 h => (have h := ok_ret h; h)) (fun b_47 h => (have h := ok_ret h; h)))⟩⟩) (fun b_46 h => (ok_cond h (fun b_48 h => ⟨(sm_nth h_tables b.2.1).1, ⟨h_b.2.2.2.2.2.2.1, (ok_cond h (fun b_49 h => (have h := ok_ret h; h)) (fun b_49 h => (have h := ok_ret h; h)))⟩⟩) (fun b_48 h => (ok_cond h (fun b_50 h => (ok_cond h (fun b_51 h => (ok_cond h (fun b_52 h => ⟨(sm_nth h_tables b.2.1), ⟨h_b.2.2.1, (ok_cond h (fun b_53 h => ⟨(inR_lo (bnf (bgt b_51))), ⟨(inR_hi (bnf (bgt b_51))), ⟨(sm_nth h_tables b.2.2.2.1), ⟨h_b.2.2.2.2.1, (ok_cond h (fun b_54 h => (ok_cond h (fun b_55 h => (have h := ok_ret h; h)) (fun b_55 h => (loopI_start (fun m hm => ⟨trivial, hm⟩) (0 : Int) () rfl (Int.natCast_nonneg 0) trivial (ok_then h (fun v1 h hv1 => (have h := ok_ret h; h)) (fun q1 h => (have h := ok_ret h; h))))))) (fun b_54 h => (have h := ok_ret h; h)))⟩⟩⟩⟩) (fun b_53 h => (have h := ok_ret h; h)))⟩⟩) (fun b_52 h => (have h := ok_ret h; h)))) (fun b_51 h => (have h := ok_ret h; h)))) (fun b_50 h => (have h := ok_ret h; h)))))))))) (fun b_2 h => (ok_cond h (fun b_56 h => ⟨(sm_nth h_tables b.2.1), ⟨h_b.2.2.1, (ok_cond h (fun b_57 h => (have h := ok_ret h; h)) (fun b_57 h => (have h := ok_ret h; h)))⟩⟩) (fun b_56 h => (ok_cond h (fun b_58 h => ⟨(sm_nth h_tables b.2.1).1, ⟨h_b.2.2.2.2.2.2.1, (ok_cond h (fun b_59 h => (have h := ok_ret h; h)) (fun b_59 h => (have h := ok_ret h; h)))⟩⟩) (fun b_58 h => (ok_cond h (fun b_60 h => (ok_cond h (fun b_61 h => (ok_cond h (fun b_62 h => ⟨(sm_nth h_tables b.2.1), ⟨h_b.2.2.1, (ok_cond h (fun b_63 h => ⟨(inR_lo (bnf (bgt b_61))), ⟨(inR_hi (bnf (bgt b_61))), ⟨(sm_nth h_tables b.2.2.2.1), ⟨h_b.2.2.2.2.1, (ok_cond h (fun b_64 h => (ok_cond h (fun b_65 h => (have h := ok_ret h; h)) (fun b_65 h => (loopI_start (fun m hm => ⟨trivial, hm⟩) (0 : Int) () rfl (Int.natCast_nonneg 0) trivial (ok_then h (fun v1 h hv1 => (have h := ok_ret h; h)) (fun q1 h => (have h := ok_ret h; h))))))) (fun b_64 h => (have h := ok_ret h; h)))⟩⟩⟩⟩) (fun b_63 h => (have h := ok_ret h; h)))⟩⟩) (fun b_62 h => (have h := ok_ret h; h)))) (fun b_61 h => (have h := ok_ret h; h)))) (fun b_60 h => (have h := ok_ret h; h)))))))))⟩⟩))

/-! 29: loop.example/tablehouse/impl.BondOk -/
def c29 : Con := ⟨[.dat (Ty.sl TTable), .dat TBond], fun args hp K => args2 (fun a0 a1 => withD (Ty.sl TTable) a0 fun tables => withD TBond a1 fun b => (Sm (Ty.sl TTable) tables) ∧ (Sm TBond b) ∧ K (.data Ty.bool (M.tablesOk tables && M.bondOk tables b)) []) args hp⟩
def cons29 : Cons := [(62, c62), (63, c63)]
def inl29 : List (Nat × Inl) := []
@[reducible] def C29 : Ctx := ⟨tab, fun t => memN t cmps, cons29, 12, inl29, 0⟩
theorem consOk29 : ConsOk P C29 := by
  refine consOk_cons (enter_ok (fn := Go.Proofs.Tryz.f62) Go.Proofs.Tryz.func62 (by kernel_rfl) rfl) con62_ok ?_
  refine consOk_cons (enter_ok (fn := Go.Proofs.Tryz.f63) Go.Proofs.Tryz.func63 (by kernel_rfl) rfl) con63_ok ?_
  exact consOk_nil
def ann29 : Nat → List Dir
  | 0 => [.fixRow 3 TBond, .keep [0, 3]]
  | 1 => [.keep [4]]
  | _ => []
def L29 (tables : (List (TTable).D)) (b : (TBond).D) : Loops := fun id m st_ K => match id with
  | _ => False
theorem vc29 (tables : (List (TTable).D)) (b : (TBond).D) (K : AV → Hp → Prop) : awp C29 (L29 tables b) ann29 (bodyOf Go.Proofs.Tryz.f29) ⟨argEnv 0 [.data (Ty.sl TTable) tables, .data TBond b], []⟩ (outK tab Go.Proofs.Tryz.f29.results.toList (hasBox []) (resK (.dat Ty.bool) K)) =
  ((Sm (Ty.sl TTable) tables) ∧ cond ((M.tablesOk tables) == true) ((Sm (Ty.sl TTable) tables) ∧ (Sm TBond b) ∧ K (.data Ty.bool (M.bondOk tables b)) []) (K (.data Ty.bool false) [])) := by kernel_rfl
theorem con29_ok : ConOk P 29 c29 := by
  refine con_okR (fn := Go.Proofs.Tryz.f29) (code := bodyOf Go.Proofs.Tryz.f29) (tab_ok tab_check cmp_check) consOk29 mixed Go.Proofs.Tryz.func29 rfl rfl fun args hp K h0 => ?_
  obtain ⟨a0, a1, rfl, rfl, h1⟩ := args2_elim h0
  obtain ⟨tables, rfl, h2⟩ := withD_elim h1
  obtain ⟨b, rfl, h3⟩ := withD_elim h2
  obtain ⟨h_tables, h_b, hK⟩ := h3
  have h : ok (F.impl_BondOk tables b) (fun r => K (.data Ty.bool r) []) := ok_of_eq (F.impl_BondOk_eq tables b h_tables h_b) hK
  refine ⟨⟨show (2 : Nat) ≤ 12 by decide, show (2 : Nat) ≤ 1000000 by decide⟩, ann29, (L29 tables b), (.dat Ty.bool), (no_loops (by kernel_rfl)), ?_⟩
  · rw [vc29 tables b K]
    exact ⟨h_tables, (ok_cond h (fun b_1 h => ⟨h_tables, ⟨h_b, (have h := ok_ret h; h)⟩⟩) (fun b_1 h => (have h := ok_ret h; h)))⟩

/-! 93: loop.example/tablehouse/impl.ValueOf -/
def c93 : Con := ⟨[.dat (Ty.int .i64)], fun args hp K => args1 (fun a0 => withD (Ty.int .i64) a0 fun truth => (∀ r : (TValue).D, r = (M.valueOf truth) → K (.data TValue r) [])) args hp⟩
def cons93 : Cons := [(89, c89)]
def inl93 : List (Nat × Inl) := []
@[reducible] def C93 : Ctx := ⟨tab, fun t => memN t cmps, cons93, 9, inl93, 0⟩
theorem consOk93 : ConsOk P C93 := by
  refine consOk_cons (enter_ok (fn := Go.Proofs.Tryz.f89) Go.Proofs.Tryz.func89 (by kernel_rfl) rfl) con89_ok ?_
  exact consOk_nil
def ann93 : Nat → List Dir
  | 0 => [.keep [0, 2]]
  | 1 => [.keep [0, 2, 5]]
  | 2 => [.keep [2]]
  | 3 => [.keep [2]]
  | _ => []
def L93 (truth : Int) : Loops := fun id m st_ K => match id with
  | _ => False
theorem vc93 (truth : Int) (K : AV → Hp → Prop) : awp C93 (L93 truth) ann93 (bodyOf Go.Proofs.Tryz.f93) ⟨argEnv 0 [.data (Ty.int .i64) truth], []⟩ (outK tab Go.Proofs.Tryz.f93.results.toList (hasBox []) (resK (.dat TValue) K)) =
  (cond (!(M.inR truth (0 : Int) (1 : Int))) (K (.data TValue ((0 : Int), ((0 : Int), ((⟨#[]⟩ : ByteArray), ())))) []) (K (.data TValue ((3 : Int), (truth, ((⟨#[]⟩ : ByteArray), ())))) [])) := by kernel_rfl
theorem con93_ok : ConOk P 93 c93 := by
  refine con_okR (fn := Go.Proofs.Tryz.f93) (code := bodyOf Go.Proofs.Tryz.f93) (tab_ok tab_check cmp_check) consOk93 mixed Go.Proofs.Tryz.func93 rfl rfl fun args hp K h0 => ?_
  obtain ⟨a0, rfl, rfl, h1⟩ := args1_elim h0
  obtain ⟨truth, rfl, h2⟩ := withD_elim h1
  have hK := h2
  have h : ok (F.impl_ValueOf truth) (fun r => K (.data TValue r) []) := ok_of_eq (F.impl_ValueOf_eq truth) (hK _ rfl)
  refine ⟨⟨show (1 : Nat) ≤ 9 by decide, show (1 : Nat) ≤ 1000000 by decide⟩, ann93, (L93 truth), (.dat TValue), (no_loops (by kernel_rfl)), ?_⟩
  · rw [vc93 truth K]
    exact (ok_cond h (fun b_1 h => (have h := ok_ret h; h)) (fun b_1 h => (have h := ok_ret h; h)))

/-! 154: loop.example/tablehouse/impl.truthIf -/
def c154 : Con := ⟨[.dat Ty.bool], fun args hp K => args1 (fun a0 => withD Ty.bool a0 fun b => K (.data (Ty.int .i64) (M.bool b)) []) args hp⟩
def cons154 : Cons := []
def inl154 : List (Nat × Inl) := []
@[reducible] def C154 : Ctx := ⟨tab, fun t => memN t cmps, cons154, 4, inl154, 0⟩
theorem consOk154 : ConsOk P C154 := by
  exact consOk_nil
def ann154 : Nat → List Dir
  | 0 => [.keep [0]]
  | 1 => [.keep [3]]
  | 2 => [.keep [2]]
  | 3 => [.keep [2]]
  | _ => []
def L154 (b : Bool) : Loops := fun id m st_ K => match id with
  | _ => False
theorem vc154 (b : Bool) (K : AV → Hp → Prop) : awp C154 (L154 b) ann154 (bodyOf Go.Proofs.Tryz.f154) ⟨argEnv 0 [.data Ty.bool b], []⟩ (outK tab Go.Proofs.Tryz.f154.results.toList (hasBox []) (resK (.dat (Ty.int .i64)) K)) =
  (cond b (K (.data (Ty.int .i64) (1 : Int)) []) (K (.data (Ty.int .i64) (0 : Int)) [])) := by kernel_rfl
theorem con154_ok : ConOk P 154 c154 := by
  refine con_okR (fn := Go.Proofs.Tryz.f154) (code := bodyOf Go.Proofs.Tryz.f154) (tab_ok tab_check cmp_check) consOk154 mixed Go.Proofs.Tryz.func154 rfl rfl fun args hp K h0 => ?_
  obtain ⟨a0, rfl, rfl, h1⟩ := args1_elim h0
  obtain ⟨b, rfl, h2⟩ := withD_elim h1
  have hK := h2
  have h : ok (F.impl_truthIf b) (fun r => K (.data (Ty.int .i64) r) []) := ok_of_eq (F.impl_truthIf_eq b) hK
  refine ⟨⟨show (1 : Nat) ≤ 4 by decide, show (1 : Nat) ≤ 1000000 by decide⟩, ann154, (L154 b), (.dat (Ty.int .i64)), (no_loops (by kernel_rfl)), ?_⟩
  · rw [vc154 b K]
    exact (ok_cond h (fun b_1 h => (have h := ok_ret h; h)) (fun b_1 h => (have h := ok_ret h; h)))

/-! 166: cmp.Or[int] -/
def c166 : Con := ⟨[.dat (Ty.sl (Ty.int .i64))], fun args hp K => args1 (fun a0 => withD (Ty.sl (Ty.int .i64)) a0 fun vals => (Sm (Ty.sl (Ty.int .i64)) vals) ∧ K (.data (Ty.int .i64) (M.orI vals)) []) args hp⟩
def cons166 : Cons := []
def inl166 : List (Nat × Inl) := []
@[reducible] def C166 : Ctx := ⟨tab, fun t => memN t cmps, cons166, 18, inl166, 0⟩
theorem consOk166 : ConsOk P C166 := by
  exact consOk_nil
def ann166 : Nat → List Dir
  | 0 => [.keep [0]]
  | 1 => [.keep [0, 3]]
  | 2 => [.keep [3, 6, 7, 8]]
  | 3 => [.keep [3, 6, 7, 8, 9]]
  | 4 => [.keep [3, 5, 6, 7, 8]]
  | 5 => [.keep [3, 5, 6, 7, 8, 14]]
  | 6 => [.keep [2]]
  | 7 => [.keep [3, 6, 7, 8]]
  | 8 => [.keep [2]]
  | 100000 => [.keep [3]]
  | _ => []
@[reducible] def LP166_0 (vals : (List Int)) (m : Nat) (st_ : St) (K : X → St → Prop) : Prop := (True) ∧ LoopE (t := (Ty.int .i64)) (fun (i0 : Int) (v0 : Unit) => (⟨[(3, .data (Ty.int .i64) (0 : Int)), (6, .data (Ty.sl (Ty.int .i64)) vals), (7, .data (Ty.int .i64) (vals.length : Int)), (8, .data (Ty.int .i64) i0)], []⟩ : St)) vals (F.cmp_Or_int_l0 vals) (fun v0 : Unit => True) (outD (fun v0 : Unit => True → K (.exit 0) (⟨[(3, .data (Ty.int .i64) (0 : Int))], []⟩ : St)) (fun q0 : Int => K .ret (⟨[(2, .data (Ty.int .i64) q0)], []⟩ : St))) m st_
def L166 (vals : (List Int)) : Loops := fun id m st_ K => match id with
  | 0 => LP166_0 vals m st_ K
  | _ => False
theorem vc166 (vals : (List Int)) (K : AV → Hp → Prop) : awp C166 (L166 vals) ann166 (bodyOf Go.Proofs.Tryz.f166) ⟨argEnv 0 [.data (Ty.sl (Ty.int .i64)) vals], []⟩ (outK tab Go.Proofs.Tryz.f166.results.toList (hasBox []) (resK (.dat (Ty.int .i64)) K)) =
  ((∃ m_, (True) ∧ LoopE (t := (Ty.int .i64)) (fun (i0 : Int) (v0 : Unit) => (⟨[(3, .data (Ty.int .i64) (0 : Int)), (6, .data (Ty.sl (Ty.int .i64)) vals), (7, .data (Ty.int .i64) (vals.length : Int)), (8, .data (Ty.int .i64) i0)], []⟩ : St)) vals (F.cmp_Or_int_l0 vals) (fun v0 : Unit => True) (outD (fun v0 : Unit => True → K (.data (Ty.int .i64) (0 : Int)) []) (fun q0 : Int => K (.data (Ty.int .i64) q0) [])) m_ (⟨[(3, .data (Ty.int .i64) (0 : Int)), (6, .data (Ty.sl (Ty.int .i64)) vals), (7, .data (Ty.int .i64) (vals.length : Int)), (8, .data (Ty.int .i64) (0 : Int))], []⟩ : St))) := by kernel_rfl
theorem lvc166_0 (vals : (List Int))  (i0 : Int) (v0 : Unit) (m : Nat) (K : X → St → Prop) : awp C166 (L166 vals) ann166 (loopAt (bodyOf Go.Proofs.Tryz.f166) 0) (⟨[(3, .data (Ty.int .i64) (0 : Int)), (6, .data (Ty.sl (Ty.int .i64)) vals), (7, .data (Ty.int .i64) (vals.length : Int)), (8, .data (Ty.int .i64) i0)], []⟩ : St) (thenW (fun s' => ∃ m', m' < m ∧ (L166 vals) 0 m' s' K) (exitN 0 (ann166 (behind 0)) K)) =
  (cond (decide (i0 < (vals.length : Int))) ((0 ≤ i0) ∧ (i0 < (vals.length : Int)) ∧ cond (!decide ((nth (t := (Ty.int .i64)) vals i0) = (0 : Int))) (K .ret (⟨[(2, .data (Ty.int .i64) (nth (t := (Ty.int .i64)) vals i0))], []⟩ : St)) ((∃ m_, m_ < m ∧ (L166 vals) 0 m_ (⟨[(3, .data (Ty.int .i64) (0 : Int)), (6, .data (Ty.sl (Ty.int .i64)) vals), (7, .data (Ty.int .i64) (vals.length : Int)), (8, .data (Ty.int .i64) (wrap64 (i0 + (1 : Int))))], []⟩ : St) K))) (K (.exit 0) (⟨[(3, .data (Ty.int .i64) (0 : Int))], []⟩ : St))) := by kernel_rfl
theorem con166_ok : ConOk P 166 c166 := by
  refine con_okR (fn := Go.Proofs.Tryz.f166) (code := bodyOf Go.Proofs.Tryz.f166) (tab_ok tab_check cmp_check) consOk166 mixed Go.Proofs.Tryz.func166 rfl rfl fun args hp K h0 => ?_
  obtain ⟨a0, rfl, rfl, h1⟩ := args1_elim h0
  obtain ⟨vals, rfl, h2⟩ := withD_elim h1
  obtain ⟨h_vals, hK⟩ := h2
  have h : ok (F.cmp_Or_int vals) (fun r => K (.data (Ty.int .i64) r) []) := ok_of_eq (F.cmp_Or_int_eq vals h_vals) hK
  refine ⟨⟨show (1 : Nat) ≤ 18 by decide, show (1 : Nat) ≤ 1000000 by decide⟩, ann166, (L166 vals), (.dat (Ty.int .i64)), (loopsN1 (i0 := 0) (by kernel_rfl) ?_), ?_⟩
  · clear h
    intro m_ s_ K_ h
    obtain ⟨hc0, i0, v0, rfl, hl0, rfl, hv0, h⟩ := (show LP166_0 vals m_ s_ K_ from h)
    rw [lvc166_0 vals i0 v0 _ K_]
    exact (loopE_step (t := (Ty.int .i64)) hl0 h (fun ht0 h => ⟨hl0, ⟨ht0, (ok_cond h (fun b_9 h => (have h := ok_ret h; h)) (fun b_9 h => (loopE_next (t := (Ty.int .i64)) (fun m hm => (show LP166_0 vals m _ _ from ⟨hc0, hm⟩)) () rfl hl0 ht0 (sm_len h_vals) trivial (have h := ok_ret h; h))))⟩⟩) (fun h => (h trivial)))
  · rw [vc166 vals K]
    exact (loopE_start (t := (Ty.int .i64)) (fun m hm => ⟨trivial, hm⟩) () rfl trivial (ok_then h (fun v0 h hv0 => (have h := ok_ret h; h)) (fun q0 h => (have h := ok_ret h; h))))

/-! 170: cmp.isNaN[int] -/
def c170 : Con := ⟨[.dat (Ty.int .i64)], fun args hp K => args1 (fun a0 => withD (Ty.int .i64) a0 fun x => K (.data Ty.bool (false)) []) args hp⟩
def cons170 : Cons := []
def inl170 : List (Nat × Inl) := []
@[reducible] def C170 : Ctx := ⟨tab, fun t => memN t cmps, cons170, 6, inl170, 0⟩
theorem consOk170 : ConsOk P C170 := by
  exact consOk_nil
def ann170 : Nat → List Dir
  | 0 => [.keep [0]]
  | 1 => [.keep [2]]
  | _ => []
def L170 (x : Int) : Loops := fun id m st_ K => match id with
  | _ => False
theorem vc170 (x : Int) (K : AV → Hp → Prop) : awp C170 (L170 x) ann170 (bodyOf Go.Proofs.Tryz.f170) ⟨argEnv 0 [.data (Ty.int .i64) x], []⟩ (outK tab Go.Proofs.Tryz.f170.results.toList (hasBox []) (resK (.dat Ty.bool) K)) =
  (K (.data Ty.bool (!decide (x = x))) []) := by kernel_rfl
theorem con170_ok : ConOk P 170 c170 := by
  refine con_okR (fn := Go.Proofs.Tryz.f170) (code := bodyOf Go.Proofs.Tryz.f170) (tab_ok tab_check cmp_check) consOk170 mixed Go.Proofs.Tryz.func170 rfl rfl fun args hp K h0 => ?_
  obtain ⟨a0, rfl, rfl, h1⟩ := args1_elim h0
  obtain ⟨x, rfl, h2⟩ := withD_elim h1
  have hK := h2
  have h : ok (F.cmp_isNaN_int x) (fun r => K (.data Ty.bool r) []) := ok_of_eq (F.cmp_isNaN_int_eq x) hK
  refine ⟨⟨show (1 : Nat) ≤ 6 by decide, show (1 : Nat) ≤ 1000000 by decide⟩, ann170, (L170 x), (.dat Ty.bool), (no_loops (by kernel_rfl)), ?_⟩
  · rw [vc170 x K]
    exact (have h := ok_ret h; h)

/-! 167: cmp.Compare[int] -/
def c167 : Con := ⟨[.dat (Ty.int .i64), .dat (Ty.int .i64)], fun args hp K => args2 (fun a0 a1 => withD (Ty.int .i64) a0 fun x => withD (Ty.int .i64) a1 fun y => K (.data (Ty.int .i64) (M.cmpI x y)) []) args hp⟩
def cons167 : Cons := [(170, c170)]
def inl167 : List (Nat × Inl) := []
@[reducible] def C167 : Ctx := ⟨tab, fun t => memN t cmps, cons167, 20, inl167, 0⟩
theorem consOk167 : ConsOk P C167 := by
  refine consOk_cons (enter_ok (fn := Go.Proofs.Tryz.f170) Go.Proofs.Tryz.func170 (by kernel_rfl) rfl) con170_ok ?_
  exact consOk_nil
def ann167 : Nat → List Dir
  | 0 => [.keep [0, 1]]
  | 1 => [.keep [0, 1, 5]]
  | 2 => [.keep [0, 1, 5, 6]]
  | 3 => [.keep [0, 1, 6, 11]]
  | 4 => [.keep [12]]
  | 5 => [.keep [4]]
  | 6 => [.keep [4]]
  | 7 => [.keep [0, 1, 13]]
  | 8 => [.keep [4]]
  | 9 => [.keep [0, 1, 16]]
  | 10 => [.keep [4]]
  | 11 => [.keep [19]]
  | 12 => [.keep [4]]
  | 13 => [.keep [4]]
  | _ => []
def L167 (x : Int) (y : Int) : Loops := fun id m st_ K => match id with
  | _ => False
theorem vc167 (x : Int) (y : Int) (K : AV → Hp → Prop) : awp C167 (L167 x y) ann167 (bodyOf Go.Proofs.Tryz.f167) ⟨argEnv 0 [.data (Ty.int .i64) x, .data (Ty.int .i64) y], []⟩ (outK tab Go.Proofs.Tryz.f167.results.toList (hasBox []) (resK (.dat (Ty.int .i64)) K)) =
  (cond (false) (cond (false) (K (.data (Ty.int .i64) (0 : Int)) []) (K (.data (Ty.int .i64) (-1 : Int)) [])) (cond (false) (K (.data (Ty.int .i64) (1 : Int)) []) (cond (decide (x < y)) (K (.data (Ty.int .i64) (-1 : Int)) []) (cond (decide (y < x)) (K (.data (Ty.int .i64) (1 : Int)) []) (K (.data (Ty.int .i64) (0 : Int)) []))))) := by kernel_rfl
theorem con167_ok : ConOk P 167 c167 := by
  refine con_okR (fn := Go.Proofs.Tryz.f167) (code := bodyOf Go.Proofs.Tryz.f167) (tab_ok tab_check cmp_check) consOk167 mixed Go.Proofs.Tryz.func167 rfl rfl fun args hp K h0 => ?_
  obtain ⟨a0, a1, rfl, rfl, h1⟩ := args2_elim h0
  obtain ⟨x, rfl, h2⟩ := withD_elim h1
  obtain ⟨y, rfl, h3⟩ := withD_elim h2
  have hK := h3
  have h : ok (F.cmp_Compare_int x y) (fun r => K (.data (Ty.int .i64) r) []) := ok_of_eq (F.cmp_Compare_int_eq x y) hK
  refine ⟨⟨show (2 : Nat) ≤ 20 by decide, show (2 : Nat) ≤ 1000000 by decide⟩, ann167, (L167 x y), (.dat (Ty.int .i64)), (no_loops (by kernel_rfl)), ?_⟩
  · rw [vc167 x y K]
    exact (ok_cond h (fun b_1 h => (cond_t b_1 (have h := ok_ret h; h))) (fun b_1 h => (cond_f b_1 (ok_cond h (fun b_4 h => (have h := ok_ret h; h)) (fun b_4 h => (ok_cond h (fun b_5 h => (have h := ok_ret h; h)) (fun b_5 h => (have h := ok_ret h; h))))))))

end Go.AE
